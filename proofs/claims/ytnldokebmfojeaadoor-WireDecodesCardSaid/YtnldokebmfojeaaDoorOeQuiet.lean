import Derived.Test.YtnldokebmfojeaaDoorOeBase
/- OE, part 3: the quiet operations are right. Own work; generic over the program. -/
namespace OE
open Go Go.RowKit

variable {P : Program}

/-- what a quiet operation's run must be -/
def Yields (P : Program) (w : World) (v : Value) (s : Sem Next) : Prop := ∀ w', Below w.heap.size w w' → s.run P w' = .ok (.value v) w'

theorem yields_pure {w : World} {v : Value} : Yields P w v (do pure (.value (← (pure v : Sem Value)))) := fun _ _ => rfl

theorem run_eqGuard {op : BinOp} {t : TypeId} {x y : Operand} {a b : Value} {w : World} (ha : ∀ l, a ≠ .agg l) (hi : a ≠ .nilIface) : (eqGuard op t x y a b).run P w = .ok () w := by
  unfold eqGuard
  cases op <;> simp only [Bool.not_true, Bool.not_false, if_true, Bool.false_eq_true, if_false] <;> try rfl
  all_goals
    cases a <;> first | rfl | exact (hi rfl).elim | exact (ha _ rfl).elim

theorem bin_yields {op : BinOp} {t u : TypeId} {x y : Operand} {ρ : Operand → Value} {w : World} {v : Value} (ha : ∀ l, ρ x ≠ .agg l) (hi : ρ x ≠ .nilIface)
    (h : ∀ w, (binOp op t (ρ x) (ρ y)).run P w = .ok v w) {o : Oper} (ho : o.op = .binOp op t x y u) : Yields P w v (execOp ρ o) := by
  intro w' _
  simp [execOp, ho, run_eqGuard ha hi, h]

theorem binI_sound {op : BinOp} {k : IntKind} {a b : Int} {q : Q} (h : binI op k a b = some q) (hs : isShift op = false) (t : TypeId) :
    OP q.hyp ∧ (OP q.pre → ∃ c, q.v = .c c ∧ ∃ v, (∀ x, RC x c v) ∧ ∀ w, (binOp op t (.int k a) (.int k b)).run P w = .ok v w) := by
  cases op <;> simp only [binI, isShift, Option.some.injEq, reduceCtorEq] at h hs <;> subst h <;> refine ⟨trivial, fun hp => ⟨_, rfl, _, fun x => rfl, fun w => ?_⟩⟩
  case quo => simp at hp; simp [binOp, Op.intDiv, hp]
  case rem => simp at hp; simp [binOp, Op.intDiv, hp]
  all_goals simp [binOp, Op.intArith, Op.intCmp, intBits_and, intBits_or, intBits_xor, intBits_andNot, BEq.beq, bne]

theorem shf_sound {op : BinOp} {k k' : IntKind} {a b : Int} {q : Q} (h : shf op k a b = some q) (t : TypeId) :
    OP q.hyp ∧ (OP q.pre → ∃ c, q.v = .c c ∧ ∃ v, (∀ x, RC x c v) ∧ ∀ w, (binOp op t (.int k a) (.int k' b)).run P w = .ok v w) := by
  cases op <;> simp only [shf, Option.some.injEq, reduceCtorEq] at h <;> subst h <;> refine ⟨trivial, fun hp => ⟨_, rfl, _, fun x => rfl, fun w => ?_⟩⟩
  case shl =>
    have : ¬ b < 0 := by simp at hp; omega
    simp [binOp, Op.shift, this]
  case shr =>
    have : ¬ b < 0 := by simp at hp; omega
    have hp2 : (0 : Int) ≤ 2 ^ (min b.toNat k.bits) := Int.pow_nonneg (by decide)
    simp [binOp, Op.shift, this, Int.fdiv_eq_ediv_of_nonneg _ hp2]

theorem beq_dec (a b : List UInt8) : (a == b) = decide (a = b) := by
  by_cases h : a = b <;> simp [h]

theorem binS_sound {op : BinOp} {a b : List UInt8} {q : Q} (h : binS op a b = some q) (t : TypeId) :
    OP q.hyp ∧ (OP q.pre → ∃ c, q.v = .c c ∧ ∃ v, (∀ x, RC x c v) ∧ ∀ w, (binOp op t (.string ⟨a.toArray⟩) (.string ⟨b.toArray⟩)).run P w = .ok v w) := by
  cases op <;> simp only [binS, Option.some.injEq, reduceCtorEq] at h <;> subst h <;> refine ⟨trivial, fun hp => ⟨_, rfl, _, fun x => rfl, fun w => ?_⟩⟩
  case add =>
    have e : (ByteArray.mk a.toArray ++ ByteArray.mk b.toArray) = ByteArray.mk (a ++ b).toArray := by
      apply ByteArray.ext
      simp
    have hs : ¬ (((ByteArray.mk a.toArray).size + (ByteArray.mk b.toArray).size : Nat) : Int) > IntKind.i64.max := by
      simp only [ByteArray.size, List.size_toArray]
      have : IntKind.i64.max = 9223372036854775807 := by decide
      rw [this]
      simp at hp
      omega
    simp only [binOp, Op.stringOp]
    rw [if_neg hs, e]
    rfl
  all_goals simp only [binOp, Op.stringOp, ByteArray.toList_mk, beq_dec, Sem.run_pure, BE.v_sym]

theorem rs_int {x : Cx} {k : IntKind} {a : Int} {v : Value} (h : RS x (.c (.int k a)) v) : v = .int k a := h
theorem rs_str {x : Cx} {a : List UInt8} {v : Value} (h : RS x (.c (.str a)) v) : v = .string ⟨a.toArray⟩ := h
theorem rs_bool {x : Cx} {a : BE} {v : Value} (h : RS x (.c (.bool a)) v) : v = .bool a.v := h

theorem binV_sound {x : Cx} {op : BinOp} {s s' : SV} {q : Q} {t u : TypeId} {X Y : Operand} {ρ : Operand → Value} {w : World} (h : binV op s s' = some q)
    (hx : RS x s (ρ X)) (hy : RS x s' (ρ Y)) {o : Oper} (ho : o.op = .binOp op t X Y u) : OP q.hyp ∧ (OP q.pre → ∃ v, RS x q.v v ∧ Yields P w v (execOp ρ o)) := by
  unfold binV at h
  split at h
  · rename_i k a k' b
    have ex := rs_int hx
    have ey := rs_int hy
    have key : ∀ q : Q, OP q.hyp ∧ (OP q.pre → ∃ c, q.v = .c c ∧ ∃ v, (∀ x, RC x c v) ∧ ∀ w, (binOp op t (.int k a) (.int k' b)).run P w = .ok v w) →
        OP q.hyp ∧ (OP q.pre → ∃ v, RS x q.v v ∧ Yields P w v (execOp ρ o)) := fun q hq => ⟨hq.1, fun hp => by
      obtain ⟨c, e, v, h1, h2⟩ := hq.2 hp
      refine ⟨v, by rw [e]; exact h1 x, bin_yields (by rw [ex]; simp) (by rw [ex]; simp) (by rw [ex, ey]; exact h2) ho⟩⟩
    split at h
    · exact key q (shf_sound h t)
    · rename_i hs
      split at h
      · rename_i hk
        subst hk
        exact key q (binI_sound h (by simpa using hs) t)
      · cases h
  · rename_i a b
    have ex := rs_str hx
    have ey := rs_str hy
    obtain ⟨h1, h2⟩ := binS_sound (P := P) h t
    refine ⟨h1, fun hp => ?_⟩
    obtain ⟨c, e, v, h1, h2⟩ := h2 hp
    exact ⟨v, by rw [e]; exact h1 x, bin_yields (by rw [ex]; simp) (by rw [ex]; simp) (by rw [ex, ey]; exact h2) ho⟩
  · cases h

theorem unV_sound {x : Cx} {op : UnOp} {s : SV} {q : Q} {t : TypeId} {X : Operand} {ρ : Operand → Value} {w : World} (h : unV op s = some q)
    (hx : RS x s (ρ X)) {o : Oper} (ho : o.op = .unOp op t X) : OP q.hyp ∧ (OP q.pre → ∃ v, RS x q.v v ∧ Yields P w v (execOp ρ o)) := by
  unfold unV at h
  split at h
  · have ex := rs_bool hx
    split at h
    · cases h
      exact ⟨trivial, fun _ => ⟨_, rfl, fun w' _ => by simp [execOp, ho, ex, Op.unary, BE.not_v]⟩⟩
    · cases h
  · have ex := rs_int hx
    split at h
    · cases h
      exact ⟨trivial, fun _ => ⟨_, rfl, fun w' _ => by simp [execOp, ho, ex, Op.unary, Op.intArith]⟩⟩
    · cases h
      exact ⟨trivial, fun _ => ⟨_, rfl, fun w' _ => by simp [execOp, ho, ex, Op.unary, intBits_xor]⟩⟩
    · cases h
  · cases h

theorem tk_int {t : TypeId} {k : IntKind} (h : tkIs P t (.int k) = true) : P.underlying t = some (.int k) := by
  simp only [tkIs] at h
  split at h
  · rename_i k' hu; simp at h; subst h; exact hu
  · cases h
theorem tk_str {t : TypeId} (h : tkIs P t .str = true) : P.underlying t = some .string := by
  simp only [tkIs] at h
  split at h
  · rename_i hu; exact hu
  · cases h
theorem tk_slice {t e : TypeId} (h : tkIs P t (.slice e) = true) : P.underlying t = some (.slice e) := by
  simp only [tkIs] at h
  split at h
  · rename_i e' hu; simp at h; rw [h.1]; exact hu
  · cases h
theorem tk_array {t e : TypeId} {n : Nat} (h : tkIs P t (.array n e) = true) : P.underlying t = some (.array n e) := by
  simp only [tkIs] at h
  split at h
  · rename_i n' e' hu; simp at h; rw [h.1, h.2]; exact hu
  · cases h
theorem tk_bool {t : TypeId} (h : tkIs P t .bool = true) : P.underlying t = some .bool := by
  simp only [tkIs] at h
  split at h
  · rename_i hu; exact hu
  · cases h
theorem tk_strct {t : TypeId} {fs : List (Nat × Nat × Bool)} (h : tkIs P t (.strct fs) = true) : ∃ fl, P.underlying t = some (.struct fl) ∧ fldIs P fs fl.toList = true := by
  simp only [tkIs] at h
  split at h
  · rename_i fl hu; exact ⟨fl, hu, h⟩
  · cases h

theorem und_run {t : TypeId} {d : TypeDesc} (h : P.underlying t = some d) (w : World) : (underlying t).run P w = .ok d w := run_underlying h w

theorem eqB_sound {ti : Nat → Option TI} (ht : TabOk P ti) {x : Cx} {op : BinOp} {s s' : SV} {q : Q} {t u : TypeId} {X Y : Operand} {ρ : Operand → Value} {w : World} (h : eqB op (ti t) s s' = some q)
    (hx : RS x s (ρ X)) (hy : RS x s' (ρ Y)) {o : Oper} (ho : o.op = .binOp op t X Y u) : OP q.hyp ∧ (OP q.pre → ∃ v, RS x q.v v ∧ Yields P w v (execOp ρ o)) := by
  unfold eqB at h
  split at h
  · rename_i a b
    have ex := rs_bool hx
    have ey := rs_bool hy
    split at h
    · rename_i hi
      have hu := tk_bool (ht.is hi).tk
      have he : ∀ w, (Op.equal t (.bool a.v) (.bool b.v)).run P w = .ok (a.v == b.v) w := by
        intro w
        show (Op.equalIn (9999 + 1) t (.bool a.v) (.bool b.v)).run P w = _
        unfold Op.equalIn
        simp only [Sem.run_bind, und_run hu, Result.andThen_ok, Sem.run_pure]
      split at h
      · cases h
        exact ⟨trivial, fun _ => ⟨_, rfl, bin_yields (by rw [ex]; simp) (by rw [ex]; simp) (fun w => by rw [ex, ey]; simp only [binOp, Sem.run_bind, he, Result.andThen_ok]; rfl) ho⟩⟩
      · cases h
        exact ⟨trivial, fun _ => ⟨_, rfl, bin_yields (by rw [ex]; simp) (by rw [ex]; simp) (fun w => by rw [ex, ey]; simp only [binOp, Sem.run_bind, he, Result.andThen_ok]; rfl) ho⟩⟩
      · cases h
    · cases h
  · cases h

theorem tk_ptr {t e : TypeId} (h : tkIs P t (.ptr e) = true) : P.underlying t = some (.pointer e) := by
  simp only [tkIs] at h
  split at h
  · rename_i e' hu; simp at h; subst h; exact hu
  · cases h
theorem nilB_sound {ti : Nat → Option TI} (ht : TabOk P ti) {x : Cx} {op : BinOp} {s s' : SV} {q : Q} {t u : TypeId} {X Y : Operand} {ρ : Operand → Value} {w : World} (h : nilB op (ti t) s s' = some q)
    (hx : RS x s (ρ X)) (hy : RS x s' (ρ Y)) {o : Oper} (ho : o.op = .binOp op t X Y u) : OP q.hyp ∧ (OP q.pre → ∃ v, RS x q.v v ∧ Yields P w v (execOp ρ o)) := by
  unfold nilB at h
  split at h
  · rename_i e _ _ _ _ hi
    have hu := tk_ptr (ht.is hi).tk
    split at h
    · rename_i b hb
      have key : ∃ a c : Option Addr, ρ X = .pointer a ∧ ρ Y = .pointer c ∧ ∀ w, (Op.equal t (.pointer a) (.pointer c)).run P w = .ok b w := by
        have nn : ∀ (c : Option Addr) w, (Op.equal t (.pointer none) (.pointer c)).run P w = .ok c.isNone w := by
          intro c w
          show (Op.equalIn (9999 + 1) t (.pointer none) (.pointer c)).run P w = _
          unfold Op.equalIn
          simp only [Sem.run_bind, und_run hu, Result.andThen_ok, Sem.run_pure]
        have sn : ∀ (a : Addr) w, (Op.equal t (.pointer (some a)) (.pointer none)).run P w = .ok false w := by
          intro a w
          show (Op.equalIn (9999 + 1) t (.pointer (some a)) (.pointer none)).run P w = _
          unfold Op.equalIn
          simp only [Sem.run_bind, und_run hu, Result.andThen_ok, Sem.run_pure]
        unfold nlB at hb
        split at hb
        · cases hb; obtain ⟨_, k, _, e1⟩ := hx; obtain ⟨e2, _⟩ := hy; exact ⟨_, _, e1, e2, fun w => sn _ w⟩
        · cases hb; obtain ⟨_, k, _, e1⟩ := hy; obtain ⟨e2, _⟩ := hx; exact ⟨_, _, e2, e1, fun w => nn _ w⟩
        · cases hb; obtain ⟨_, _, _, _, _, _, e1, _⟩ := hx; obtain ⟨e2, _⟩ := hy; exact ⟨_, _, e1, e2, fun w => sn _ w⟩
        · cases hb; obtain ⟨_, _, _, _, _, _, e1, _⟩ := hy; obtain ⟨e2, _⟩ := hx; exact ⟨_, _, e2, e1, fun w => nn _ w⟩
        · cases hb; obtain ⟨e1, _⟩ := hx; obtain ⟨e2, _⟩ := hy; exact ⟨_, _, e1, e2, fun w => nn _ w⟩
        · cases hb
      obtain ⟨a, c, ex, ey, he⟩ := key
      split at h
      · split at h
        all_goals
          cases h
          exact ⟨trivial, fun _ => ⟨_, rfl, bin_yields (by rw [ex]; simp) (by rw [ex]; simp) (fun w => by rw [ex, ey]; simp only [binOp, Sem.run_bind, he, Result.andThen_ok]; rfl) ho⟩⟩
      · split at h
        all_goals
          cases h
          exact ⟨trivial, fun _ => ⟨_, rfl, bin_yields (by rw [ex]; simp) (by rw [ex]; simp) (fun w => by rw [ex, ey]; simp only [binOp, Sem.run_bind, he, Result.andThen_ok]; rfl) ho⟩⟩
      · cases h
    · cases h
  · cases h

theorem convV_sound {ti : Nat → Option TI} (ht : TabOk P ti) {x : Cx} {s : SV} {q : Q} {a d : TypeId} {X : Operand} {ρ : Operand → Value} {w : World} (h : convV (ti a) (ti d) s = some q)
    (hx : RS x s (ρ X)) {o : Oper} (ho : o.op = .convert a d X) : OP q.hyp ∧ (OP q.pre → ∃ v, RS x q.v v ∧ Yields P w v (execOp ρ o)) := by
  unfold convV at h
  split at h
  · have ex := rs_int hx
    split at h
    · rename_i h1 h2
      cases h
      have u1 := tk_int (ht.is h1).tk
      have u2 := tk_int (ht.is h2).tk
      exact ⟨trivial, fun _ => ⟨_, rfl, fun w' _ => by simp [execOp, ho, ex, convert, und_run u1, und_run u2, Conv.intToInt]⟩⟩
    · cases h
  · have ex := rs_str hx
    split at h
    · rename_i h1 h2
      cases h
      have u1 := tk_str (ht.is h1).tk
      have u2 := tk_str (ht.is h2).tk
      exact ⟨trivial, fun _ => ⟨_, rfl, fun w' _ => by simp [execOp, ho, ex, convert, und_run u1, und_run u2]⟩⟩
    · cases h
  · cases h

theorem extV_sound {x : Cx} {i : Nat} {s : SV} {q : Q} {X : Operand} {ρ : Operand → Value} {w : World} (h : extV i s = some q)
    (hx : RS x s (ρ X)) {o : Oper} (ho : o.op = .extract X i) : OP q.hyp ∧ (OP q.pre → ∃ v, RS x q.v v ∧ Yields P w v (execOp ρ o)) := by
  unfold extV at h
  split at h
  · rename_i l
    obtain ⟨vs, ex, hl⟩ := hx
    have run : ∀ u, vs[i]? = some u → Yields P w u (execOp ρ o) := fun u hu w' _ => by
      simp [execOp, ho, ex, Instr.extract, hu]
    split at h
    · rename_i cs hi
      cases h
      obtain ⟨u, h1, h2⟩ := RL.get hl hi
      simp only [RP, if_true] at h2
      exact ⟨trivial, fun _ => ⟨u, h2, run u (by simpa using h1)⟩⟩
    · rename_i c hi
      cases h
      obtain ⟨u, h1, h2⟩ := RL.get hl hi
      simp only [RP, Bool.false_eq_true, if_false] at h2
      obtain ⟨y, e, h2⟩ := h2
      simp at e
      subst e
      exact ⟨trivial, fun _ => ⟨u, h2, run u (by simpa using h1)⟩⟩
    · cases h
  · cases h

/-! ### loads -/

theorem run_load_cell {w : World} {a : Addr} {v : Value} (h : w.cell? a = some v) : (load a).run P w = .ok v w := by simp [h]

theorem run_loadCells_run {w : World} {a : Addr} {cs : List Value} (h : ∀ j v, cs[j]? = some v → w.cell? (a.add j) = some v) :
    (loadCells a cs.length).run P w = .ok cs.toArray w := run_loadCells_list w a cs h

theorem cell_of {w : World} {k o : Nat} {cells : Array Value} {T : TypeId} {fz : Nat × Nat} (h : w.heap[k]? = some (.cells cells T fz)) : w.cell? ⟨k, o, none⟩ = cells[o]? := by
  simp [World.cell?, h]

theorem add_plain' (k o j : Nat) : (⟨k, o, none⟩ : Addr).add j = ⟨k, o + j, none⟩ := by
  unfold Addr.add
  split <;> simp_all

/-- a load of a type from an address whose cells are known -/
theorem run_loadVar {ti : Nat → Option TI} (ht : TabOk P ti) {x : Cx} {t : TypeId} {i : TI} (hi : ti t = some i) {l : List C} {o : Nat} {q : Q} (hq : ldV i l o = some q)
    {w : World} {k p : Nat} {T : TypeId} {fz : Nat × Nat} {cells : Array Value} {vs : List Value} (hb : w.heap[k]? = some (.cells cells T fz))
    (hl : RL (RC x) l vs) (hv : ∀ j v, vs[j]? = some v → cells[p + j]? = some v) :
    OP q.hyp ∧ (OP q.pre ↔ True) ∧ ∃ v, RS x q.v v ∧ ∀ w', w'.heap[k]? = w.heap[k]? → (loadVar t ⟨k, p + o, none⟩).run P w' = .ok v w' := by
  have is := ht.is hi
  obtain ⟨u, hu, hag⟩ := is.agg
  obtain ⟨j, hj, hsz, _⟩ := is.info
  unfold ldV at hq
  have hisAgg : ∀ w', (isAgg t).run P w' = .ok i.tk.agg w' := fun w' => by
    unfold isAgg
    simp only [Sem.run_bind, und_run hu, Result.andThen_ok]
    rw [← hag]
    cases u <;> rfl
  have hsize : ∀ w', (Go.sizeOf t).run P w' = .ok i.sz w' := fun w' => by simp [Go.sizeOf, typeInfo, hj, hsz]
  split at hq
  · rename_i ha
    split at hq
    · rename_i hle
      cases hq
      refine ⟨trivial, Iff.rfl, .agg ((vs.drop o).take i.sz).toArray, ⟨_, rfl, ?_⟩, fun w' hw' => ?_⟩
      · simpa using RL.take i.sz (RL.drop o hl)
      · have hlen : ((vs.drop o).take i.sz).length = i.sz := by
          rw [List.length_take, List.length_drop, ← RL.len hl]; omega
        have hc : ∀ (j : Nat) v, ((vs.drop o).take i.sz)[j]? = some v → w'.cell? ((⟨k, p + o, none⟩ : Addr).add j) = some v := by
          intro j v hjv
          rw [add_plain', cell_of (hw'.trans hb), Nat.add_assoc]
          apply hv
          rw [List.getElem?_take] at hjv
          split at hjv
          · simpa using hjv
          · cases hjv
        have := run_loadCells_run (P := P) (w := w') (a := ⟨k, p + o, none⟩) hc
        rw [hlen] at this
        simp [loadVar, hisAgg, ha, hsize, this]
    · cases hq
  · rename_i ha
    split at hq
    · rename_i c hc
      cases hq
      obtain ⟨v, h1, h2⟩ := RL.get hl hc
      refine ⟨trivial, Iff.rfl, v, h2, fun w' hw' => ?_⟩
      have : w'.cell? ⟨k, p + o, none⟩ = some v := by rw [cell_of (hw'.trans hb)]; exact hv _ _ h1
      have ha' : i.tk.agg = false := by simpa using ha
      simp [loadVar, hisAgg, ha', this]
    · cases hq

/-- a datum's abstract cells stand for its cells -/
theorem rl_cs {x : Cx} : ∀ {d : D} {y : d.T} {cs : List Value}, Rd x.w x.ok d y cs → RL (RC x) (d.cs y) cs
  | .int _, _, _, h => by simp only [Rd] at h; subst h; exact ⟨rfl, trivial⟩
  | .bool, _, _, h => by simp only [Rd] at h; subst h; exact ⟨rfl, trivial⟩
  | .str, _, _, h => by simp only [Rd] at h; subst h; exact ⟨rfl, trivial⟩
  | .pair a b, _, _, h => by
    simp only [Rd] at h
    obtain ⟨c1, c2, rfl, h1, h2⟩ := h
    exact RL.app (rl_cs h1) (rl_cs h2)
  | .list a, _, _, h => by
    have h' := h
    simp only [Rd] at h
    obtain ⟨A, c, rfl, _⟩ := h
    exact ⟨h', trivial⟩

theorem gt_get {d : D} {xs : List d.T} {j : Int} (h0 : 0 ≤ j) (h1 : j < xs.length) : xs[j.toNat]? = some (gt xs j) := by
  have hlt : j.toNat < xs.length := by omega
  simp [gt, hlt]

theorem run_loadAt {t : TypeId} {k o : Nat} {w : World} {r : Result Value} (h : (loadVar t ⟨k, o, none⟩).run P w = r) : (Instr.loadAt t (.pointer (some ⟨k, o, none⟩))).run P w = r := by
  simpa [Instr.loadAt, Instr.sureAddr] using h

theorem heap_below {w w' : World} (h : Below w.heap.size w w') {k : Nat} {o : Obj} (hk : w.heap[k]? = some o) : w'.heap[k]? = w.heap[k]? :=
  h.block k (Array.getElem?_eq_some_iff.1 hk).1

theorem loadV_sound {ti : Nat → Option TI} (ht : TabOk P ti) {w0 : W0} {hp hq : List (Nat × Ob)} {nx : Nat → Prop} {η : Nat → Option Nat × Value} {w : World} (hH : RepH w0 hp nx η w) (hs : ∀ b o, lk hq b = some o → lk hp b = some o) {t : TypeId} {s : SV} {q : Q}
    {X : Operand} {ρ : Operand → Value} (h : loadV (ti t) hq s = some q) (hx : RS (cxS w0 hp nx η w) s (ρ X)) {o : Oper} (ho : o.op = .load t X) :
    OP q.hyp ∧ (OP q.pre → ∃ v, RS (cxS w0 hp nx η w) q.v v ∧ Yields P w v (execOp ρ o)) := by
  have run : ∀ k p v, ρ X = .pointer (some ⟨k, p, none⟩) → (∃ ob, w.heap[k]? = some ob) → (∀ w', w'.heap[k]? = w.heap[k]? → (loadVar t ⟨k, p, none⟩).run P w' = .ok v w') → Yields P w v (execOp ρ o) :=
    fun k p v e ⟨ob, hob⟩ hr w' hw' => by simp [execOp, ho, e, run_loadAt (hr w' (heap_below hw' hob))]
  unfold loadV at h
  split at h
  · rename_i b off
    obtain ⟨hb, k, hk, e⟩ := hx
    split at h
    · rename_i i T l hi hlk
      obtain ⟨k', vs, h1, h2, h3⟩ := hH.obs b _ (hs _ _ hlk)
      have hkk : k' = k := by have : some k' = some k := h1.symm.trans hk; simpa using this
      subst hkk
      obtain ⟨g1, g2, v, g3, g4⟩ := run_loadVar ht hi h h2 (p := 0) h3 (fun j v hj => by simpa using hj)
      rw [Nat.zero_add] at g4
      exact ⟨g1, fun _ => ⟨v, g3, run _ _ v e ⟨_, h2⟩ g4⟩⟩
    · cases h
  · rename_i d y off
    obtain ⟨k, p, cells, T, fz, cs, e, hok, hb, hr, hcs⟩ := hx
    split at h
    · rename_i i hi
      obtain ⟨g1, g2, v, g3, g4⟩ := run_loadVar ht hi h hb (p := p) (rl_cs hr) (fun j v hj => by
        rw [← hcs, List.getElem?_take] at hj
        split at hj
        · simpa using hj
        · cases hj)
      exact ⟨g1, fun _ => ⟨v, g3, run _ _ v e ⟨_, hb⟩ g4⟩⟩
    · cases h
  · rename_i b j sz off
    obtain ⟨hb, k, hk, e⟩ := hx
    split at h
    · rename_i i T d xs hi hlk
      split at h
      · rename_i hsz
        split at h
        · rename_i q' hq'
          cases h
          refine ⟨trivial, fun hp => ?_⟩
          simp only [OP_some] at hp
          obtain ⟨cs, r1, r2, r3⟩ := hH.obs b _ (hs _ _ hlk)
          rcases r2.2 with ⟨_, hn⟩ | ⟨g, cap, cur, hv, _, hg, hc1, hc2, hc3, hc4⟩
          · omega
          · have hgk : g = k := by
              rw [hv] at r1
              have : some k = some g := hk.symm.trans r1
              simpa using this.symm
            subst hgk
            have hget := RdF.get (fun _ _ => Rd.len) r3 (gt_get hp.1 hp.2)
            obtain ⟨g1, g2, v, g3, g4⟩ := run_loadVar ht hi hq' hg (p := j.toNat * sz) (rl_cs hget) (fun i v hi => by
              rw [List.getElem?_take] at hi
              split at hi
              · rw [List.getElem?_drop, ← hc4, List.getElem?_take] at hi
                split at hi
                · rw [hsz]; simpa using hi
                · cases hi
              · cases hi)
            exact ⟨v, g3, run _ _ v e ⟨_, hg⟩ g4⟩
        · cases h
      · cases h
    · rename_i i T d xs c0 hi hlk
      split at h
      · rename_i hsz
        split at h
        · rename_i q' hq'
          cases h
          refine ⟨trivial, fun hp => ?_⟩
          simp only [OP_some] at hp
          obtain ⟨k3, cur, hk3, hg, hcs, hlc, hcm', hf⟩ := hH.obs b _ (hs _ _ hlk)
          have hgk : k3 = k := by have : some k3 = some k := hk3.symm.trans hk; simpa using this
          subst hgk
          have hget := RdF.get (fun _ _ => Rd.len) hf (gt_get hp.1 hp.2)
          obtain ⟨g1, g2, v, g3, g4⟩ := run_loadVar ht hi hq' hg (p := j.toNat * sz) (rl_cs hget) (fun i v hi => by
            rw [List.getElem?_take] at hi
            split at hi
            · rw [List.getElem?_drop, List.getElem?_take] at hi
              split at hi
              · rw [hsz]; simpa using hi
              · cases hi
            · cases hi)
          exact ⟨v, g3, run _ _ v e ⟨_, hg⟩ g4⟩
        · cases h
      · cases h
    · cases h
  · cases h

/-! ### addresses of fields and elements -/

theorem fld_get : ∀ {fs : List (Nat × Nat × Bool)} {gs : List Field} {i o s : Nat} {ag : Bool}, fldIs P fs gs = true → fs[i]? = some (o, s, ag) →
    ∃ g, gs[i]? = some g ∧ g.offset = o ∧ 0 < s ∧ (∃ j, P.info? g.type = some j ∧ j.size = s) ∧ ∃ u, P.underlying g.type = some u ∧ isAggD (some u) = ag
  | [], _, _, _, _, _, _, hi => by simp at hi
  | _ :: _, [], _, _, _, _, h, _ => by simp [fldIs] at h
  | (o', s', ag') :: fs, g :: gs, 0, o, s, ag, h, hi => by
    simp only [List.getElem?_cons_zero, Option.some.injEq, Prod.mk.injEq] at hi
    obtain ⟨rfl, rfl, rfl⟩ := hi
    simp only [fldIs, Bool.and_eq_true, beq_iff_eq, decide_eq_true_eq] at h
    obtain ⟨⟨⟨⟨⟨⟨h1, h2⟩, h3⟩, h4⟩, h5⟩, h6⟩, h7⟩ := h
    obtain ⟨j, hj⟩ := Option.isSome_iff_exists.1 h3
    obtain ⟨u, hu⟩ := Option.isSome_iff_exists.1 h4
    refine ⟨g, rfl, h1, h6, ⟨j, hj, by simpa [Program.cellsOf, hj] using h2⟩, u, hu, by rw [← h5, hu]⟩
  | (_, _, _) :: fs, g :: gs, i + 1, o, s, ag, h, hi => by
    simp only [fldIs, Bool.and_eq_true] at h
    simpa using fld_get h.2 (by simpa using hi)

theorem run_fieldAt {ti : Nat → Option TI} (ht : TabOk P ti) {t : TypeId} {fs : List (Nat × Nat × Bool)} {s b : Nat} {z : List C} {dd : D} (hi : ti t = some ⟨.strct fs, s, b, z, dd⟩) {f o' s' : Nat} {ag : Bool}
    (hf : fs[f]? = some (o', s', ag)) (k p : Nat) (w : World) : (Instr.fieldAt t (.pointer (some ⟨k, p, none⟩)) f).run P w = .ok (.pointer (some ⟨k, p + o', none⟩)) w := by
  obtain ⟨fl, hu, hfl⟩ := tk_strct (ht.is hi).tk
  obtain ⟨g, hg, ho, hs, ⟨j, hj, hjs⟩, _⟩ := fld_get hfl hf
  have hg' : fl[f]? = some g := by simpa using hg
  have h0 : ¬ s' = 0 := by omega
  simp [Instr.fieldAt, und_run hu, hg', Instr.sureAddr, fieldPlace, Go.sizeOf, typeInfo, hj, hjs, h0, add_plain', ho]

theorem fadV_sound {ti : Nat → Option TI} (ht : TabOk P ti) {x : Cx} {t : TypeId} {f : Nat} {s : SV} {q : Q} {X : Operand} {ρ : Operand → Value} {w : World} (h : fadV (ti t) f s = some q)
    (hx : RS x s (ρ X)) {o : Oper} (ho : o.op = .fieldAddr t X f) : OP q.hyp ∧ (OP q.pre → ∃ v, RS x q.v v ∧ Yields P w v (execOp ρ o)) := by
  unfold fadV at h
  split at h
  · rename_i b off
    obtain ⟨hb, k, hk, e⟩ := hx
    split at h
    · rename_i fs _ _ _ _ hi
      split at h
      · rename_i o' _ _ hf
        cases h
        exact ⟨trivial, fun _ => ⟨_, ⟨hb, k, hk, rfl⟩, fun w' _ => by simp [execOp, ho, e, run_fieldAt ht hi hf]⟩⟩
      · cases h
    · cases h
  · rename_i d y off
    obtain ⟨k, p, cells, T, fz, cs, e, hr⟩ := hx
    split at h
    · rename_i fs _ _ _ _ hi
      split at h
      · rename_i o' _ _ hf
        cases h
        exact ⟨trivial, fun _ => ⟨_, ⟨k, p, cells, T, fz, cs, rfl, hr⟩, fun w' _ => by simp [execOp, ho, e, run_fieldAt ht hi hf, Nat.add_assoc]⟩⟩
      · cases h
    · cases h
  · rename_i b j sz off
    obtain ⟨hb, k, hk, e⟩ := hx
    split at h
    · rename_i fs _ _ _ _ hi
      split at h
      · rename_i o' _ _ hf
        cases h
        exact ⟨trivial, fun _ => ⟨_, ⟨hb, k, hk, rfl⟩, fun w' _ => by simp [execOp, ho, e, run_fieldAt ht hi hf, Nat.add_assoc]⟩⟩
      · cases h
    · cases h
  · cases h

theorem run_part {t : TypeId} {u : TypeDesc} {s : Nat} {j : TypeInfo} (hu : P.underlying t = some u) (hj : P.info? t = some j) (hs : j.size = s) (cs : Array Value) (o : Nat) (w : World) :
    (part t cs o).run P w = if isAggD (some u) = true then .ok (.agg (cs.extract o (o + s))) w else match cs[o]? with | some v => .ok v w | none => .halt (.stuck "part: no such cell") w := by
  have h1 : (isAgg t).run P w = .ok (isAggD (some u)) w := by
    unfold isAgg
    simp only [Sem.run_bind, und_run hu, Result.andThen_ok]
    cases u <;> rfl
  have h2 : (Go.sizeOf t).run P w = .ok s w := by simp [Go.sizeOf, typeInfo, hj, hs]
  simp only [part, Sem.run_bind, h1, Result.andThen_ok, Sem.run_ite]
  split
  · simp [h2]
  · cases cs[o]? <;> rfl

theorem fldV_sound {ti : Nat → Option TI} (ht : TabOk P ti) {x : Cx} {t : TypeId} {f : Nat} {s : SV} {q : Q} {X : Operand} {ρ : Operand → Value} {w : World} (h : fldV (ti t) f s = some q)
    (hx : RS x s (ρ X)) {o : Oper} (ho : o.op = .field t X f) : OP q.hyp ∧ (OP q.pre → ∃ v, RS x q.v v ∧ Yields P w v (execOp ρ o)) := by
  unfold fldV at h
  split at h
  · rename_i l
    obtain ⟨vs, e, hl⟩ := hx
    split at h
    · rename_i fs _ _ _ _ hi
      obtain ⟨fl, hu, hfl⟩ := tk_strct (ht.is hi).tk
      have step : ∀ {o' s' : Nat} {ag : Bool} (v : Value), fs[f]? = some (o', s', ag) → (if ag = true then v = .agg (vs.extract o' (o' + s')) else vs[o']? = some v) → Yields P w v (execOp ρ o) := by
        intro o' s' ag v hf hv w' _
        obtain ⟨g, hg, hgo, hs, ⟨j, hj, hjs⟩, u, hgu, hag⟩ := fld_get hfl hf
        have hg' : fl[f]? = some g := by simpa using hg
        have hp := run_part hgu hj hjs vs g.offset w'
        rw [hag, hgo] at hp
        cases ag with
        | true => simp at hv hp; simp [execOp, ho, e, Instr.field, und_run hu, hg', asAgg, hgo, hp, hv]
        | false => simp at hv hp; simp [execOp, ho, e, Instr.field, und_run hu, hg', asAgg, hgo, hp, hv]
      split at h
      · rename_i o' s' hf
        split at h
        · cases h
          refine ⟨trivial, fun _ => ⟨_, ⟨vs.extract o' (o' + s'), rfl, ?_⟩, step _ hf (by simp)⟩⟩
          have := RL.take s' (RL.drop o' hl)
          simpa [List.take_drop, Nat.add_comm] using this
        · cases h
      · rename_i o' s' hf
        split at h
        · rename_i c hc
          cases h
          obtain ⟨v, h1, h2⟩ := RL.get hl hc
          exact ⟨trivial, fun _ => ⟨v, h2, step v hf (by simpa using h1)⟩⟩
        · cases h
      · cases h
    · cases h
  · cases h

theorem idxV_sound {ti : Nat → Option TI} (ht : TabOk P ti) {x : Cx} {t : TypeId} {s s' : SV} {q : Q} {X Y : Operand} {ρ : Operand → Value} {w : World} (h : idxV (ti t) s s' = some q)
    (hx : RS x s (ρ X)) (hy : RS x s' (ρ Y)) {o : Oper} (ho : o.op = .index t X Y) : OP q.hyp ∧ (OP q.pre → ∃ v, RS x q.v v ∧ Yields P w v (execOp ρ o)) := by
  unfold idxV at h
  split at h
  · rename_i s k j
    have ex := rs_str hx
    have ey := rs_int hy
    split at h
    · rename_i hi
      cases h
      have hu := tk_str (ht.is hi).tk
      refine ⟨trivial, fun hp => ⟨_, rfl, fun w' _ => ?_⟩⟩
      simp only [OP_some] at hp
      have hlt : j.toNat < s.length := by omega
      have hb : (if 0 ≤ j then (ByteArray.mk s.toArray)[j.toNat]? else none) = some (s[j.toNat]'hlt) := by
        rw [if_pos hp.1]
        have : j.toNat < (ByteArray.mk s.toArray).size := by simpa [ByteArray.size] using hlt
        rw [getElem?_pos (ByteArray.mk s.toArray) j.toNat this]
        rfl
      have e2 : (s[j.toNat]? : Option UInt8) = some (s[j.toNat]'hlt) := List.getElem?_eq_getElem hlt
      simp only [execOp, ho, ex, ey, Instr.index, asIntOf, pure_bind, Sem.run_bind, und_run hu, Result.andThen_ok, hb, Sem.run_pure, bt, List.getD, e2, Option.getD_some]
    · cases h
  · cases h

theorem run_indexAt {t e : TypeId} {n c : Nat} {a : Addr} {j : Int} {kk : IntKind} {s : Nat} {i : TypeInfo} (hu : P.underlying t = some (.slice e)) (hi : P.info? e = some i) (hs : i.size = s)
    (h0 : 0 ≤ j) (h1 : j < n) (w : World) : (Instr.indexAt t (.slice (some a) n c) (.int kk j)).run P w = .ok (.pointer (some (a.add (j.toNat * s)))) w := by
  simp [Instr.indexAt, und_run hu, asIntOf, h0, h1, Go.sizeOf, typeInfo, hi, hs]

theorem sz_some {ti : Nat → Option TI} {e s : Nat} (h : sz? ti e = some s) : ∃ i, ti e = some i ∧ i.sz = s := by
  unfold sz? at h
  split at h
  · rename_i i hi; cases h; exact ⟨i, hi, rfl⟩
  · cases h

theorem run_arrAt {t e : TypeId} {n j s k p : Nat} {kk : IntKind} {i : TypeInfo} (hu : P.underlying t = some (.array n e)) (hi : P.info? e = some i) (hs : i.size = s)
    (h1 : j < n) (w : World) : (Instr.indexAt t (.pointer (some ⟨k, p, none⟩)) (.int kk (Int.ofNat j))).run P w = .ok (.pointer (some ⟨k, p + j * s, none⟩)) w := by
  have h0 : (0 : Int) ≤ (j : Int) := by omega
  simp [Instr.indexAt, h1, und_run hu, asIntOf, Go.sizeOf, typeInfo, hi, hs, Instr.sureAddr, add_plain']

theorem arrV_run {ti : Nat → Option TI} (ht : TabOk P ti) {t : TypeId} {j : Int} {p : Nat} (h : arrV ti t j = some p) (k o : Nat) (kk : IntKind) (w : World) :
    (Instr.indexAt t (.pointer (some ⟨k, o, none⟩)) (.int kk j)).run P w = .ok (.pointer (some ⟨k, o + p, none⟩)) w := by
  unfold arrV at h
  split at h
  · split at h
    · rename_i j n e _ _ _ _ hi
      split at h
      · rename_i s hs
        split at h
        · rename_i hlt
          cases h
          have hu := tk_array (ht.is hi).tk
          obtain ⟨i, hi', rfl⟩ := sz_some hs
          obtain ⟨j', hj1, hj2, _⟩ := (ht.is hi').info
          rw [← hj2]
          exact run_arrAt hu hj1 rfl hlt w
        · cases h
      · cases h
    · cases h
  · cases h

theorem maxLen_eq : maxLen = 9223372036854775807 := rfl

theorem iadV_sound {ti : Nat → Option TI} (ht : TabOk P ti) {w0 : W0} {hp hq : List (Nat × Ob)} {nx : Nat → Prop} {η : Nat → Option Nat × Value} {w : World} (hH : RepH w0 hp nx η w) (hs : ∀ b o, lk hq b = some o → lk hp b = some o) {t : TypeId} {s s' : SV} {q : Q}
    {X Y : Operand} {ρ : Operand → Value} (h : iadV ti t hq s s' = some q) (hx : RS (cxS w0 hp nx η w) s (ρ X)) (hy : RS (cxS w0 hp nx η w) s' (ρ Y)) {o : Oper} (ho : o.op = .indexAddr t X Y) :
    OP q.hyp ∧ (OP q.pre → ∃ v, RS (cxS w0 hp nx η w) q.v v ∧ Yields P w v (execOp ρ o)) := by
  unfold iadV at h
  split at h
  · rename_i d xs kk j
    have ey := rs_int hy
    have hx' : Rd w (okS w0 hp η w) (.list d) xs [ρ X] := hx
    simp only [Rd] at hx'
    obtain ⟨A, c, e, hc, hm, hn, hr⟩ := hx'
    simp only [List.cons.injEq, and_true] at e
    split at h
    · rename_i e' _ _ _ _ hi
      have hu := tk_slice (ht.is hi).tk
      split at h
      · rename_i hsz
        cases h
        obtain ⟨ie, hie, hie2⟩ := sz_some hsz
        obtain ⟨j', hj', hj2, _⟩ := (ht.is hie).info
        refine ⟨by simp only [maxLen_eq] at hm; simp only [OP_some]; omega, fun hp => ?_⟩
        simp only [OP_some] at hp
        rcases hr with hr | ⟨k, off, cells, T, fz, hA, hok, hb, hf⟩
        · subst hr; simp at hp; omega
        · subst hA
          have hget := RdF.get (fun _ _ => Rd.len) hf (gt_get hp.1 hp.2)
          refine ⟨.pointer (some ⟨k, off + j.toNat * d.sz + 0, none⟩), ⟨k, off + j.toNat * d.sz, cells, T, fz, _, rfl, hok, hb, hget, ?_⟩, fun w' _ => ?_⟩
          · have hlt : j.toNat < xs.length := by omega
            have : (j.toNat + 1) * d.sz ≤ xs.length * d.sz := Nat.mul_le_mul_right _ (by omega)
            rw [List.drop_take, List.drop_drop, List.take_take]
            congr 1
            rw [Nat.add_mul] at this
            omega
          · simp [execOp, ho, e, ey, run_indexAt hu hj' hj2 hp.1 hp.2, add_plain', hie2]
      · cases h
    · cases h
  · rename_i b kk j
    have ey := rs_int hy
    obtain ⟨hb, e, _⟩ := hx
    split at h
    · rename_i e' _ _ _ _ _ d xs hi hlk
      have hu := tk_slice (ht.is hi).tk
      split at h
      · rename_i hsz
        cases h
        obtain ⟨ie, hie, hie2⟩ := sz_some hsz
        obtain ⟨j', hj', hj2, _⟩ := (ht.is hie).info
        obtain ⟨cs, r1, r2, r3⟩ := hH.obs b _ (hs _ _ hlk)
        rcases r2.2 with ⟨hv, hn⟩ | ⟨g, cap, cur, hv, _, hg, hc1, hc2, hc3, hc4⟩
        · refine ⟨by simp only [OP_some]; omega, fun hp => ?_⟩
          simp only [OP_some] at hp
          omega
        · refine ⟨by simp only [maxLen_eq] at hc2; simp only [OP_some]; omega, fun hp => ?_⟩
          simp only [OP_some] at hp
          have hv' : ρ X = .slice (some ⟨g, 0, none⟩) xs.length cap := e.trans hv
          have hk : (η b).1 = some g := by
            have : (η b).1 = (η b).2.ownBlock := r1
            rw [this]
            have hv2 : (η b).2 = .slice (some ⟨g, 0, none⟩) xs.length cap := hv
            rw [hv2]; rfl
          exact ⟨_, ⟨hb, g, hk, rfl⟩, fun w' _ => by simp [execOp, ho, hv', ey, run_indexAt hu hj' hj2 hp.1 hp.2, add_plain', hie2]⟩
      · cases h
    · cases h
  · rename_i b off kk j
    have ey := rs_int hy
    obtain ⟨hb, k, hk, e⟩ := hx
    split at h
    · rename_i T d xs c0 hlk
      split at h
      · rename_i n e' _ _ _ _ hi
        split at h
        · rename_i ho0
          have ho0 := Nat.eq_of_beq_eq_true ho0
          subst ho0
          split at h
          · rename_i hsz
            cases h
            refine ⟨trivial, fun hp => ?_⟩
            simp only [OP_some] at hp
            have hu := tk_array (ht.is hi).tk
            obtain ⟨i, hi', hi2⟩ := sz_some hsz
            obtain ⟨j', hj1, hj2, _⟩ := (ht.is hi').info
            have hjn : ((j.toNat : Nat) : Int) = j := by omega
            have hr := fun w => run_arrAt (P := P) (t := t) (kk := kk) (k := k) (p := 0) (j := j.toNat) hu hj1 (show j'.size = d.sz by rw [hj2, hi2]) (by omega) w
            refine ⟨_, ⟨hb, k, hk, rfl⟩, fun w' _ => ?_⟩
            have hr' := hr w'
            rw [show Int.ofNat j.toNat = j from hjn] at hr'
            simp only [execOp, ho, e, ey, hr', Sem.run_bind, Result.andThen_ok, Sem.run_pure, Nat.zero_add, Nat.add_zero]
          · cases h
        · cases h
      · cases h
    · split at h
      · rename_i p hp
        cases h
        exact ⟨trivial, fun _ => ⟨_, ⟨hb, k, hk, rfl⟩, fun w' _ => by simp [execOp, ho, e, ey, arrV_run ht hp]⟩⟩
      · cases h
  · rename_i b n kk j
    have ey := rs_int hy
    obtain ⟨hb, k, hk, e⟩ := hx
    split at h
    · rename_i e' _ _ _ _ hi
      have hu := tk_slice (ht.is hi).tk
      split at h
      · rename_i m
        split at h
        · rename_i hlt
          have hlt : m < n := by simpa [Nat.blt_eq] using hlt
          split at h
          · rename_i sz hsz
            cases h
            obtain ⟨ie, hie, hie2⟩ := sz_some hsz
            obtain ⟨j', hj', hj2, _⟩ := (ht.is hie).info
            exact ⟨trivial, fun _ => ⟨_, ⟨hb, k, hk, rfl⟩, fun w' _ => by simp [execOp, ho, e, ey, run_indexAt hu hj' hj2 (j := (m : Int)) (n := n) (Int.natCast_nonneg m) (Int.ofNat_lt.2 hlt), add_plain', hie2]⟩⟩
          · cases h
        · cases h
      · cases h
    · cases h
  · rename_i d y off kk j
    have ey := rs_int hy
    obtain ⟨k, q0, cells, T, fz, cs, e, hr⟩ := hx
    split at h
    · rename_i p hp
      cases h
      exact ⟨trivial, fun _ => ⟨_, ⟨k, q0, cells, T, fz, cs, rfl, hr⟩, fun w' _ => by simp [execOp, ho, e, ey, arrV_run ht hp, Nat.add_assoc]⟩⟩
    · cases h
  · rename_i b o1 sz n c kk j
    have ey := rs_int hy
    obtain ⟨hb, hnc, hcm, k, o', hk, e, ho'⟩ := hx
    split at h
    · rename_i e' _ _ _ _ hi
      have hu := tk_slice (ht.is hi).tk
      split at h
      · rename_i hsz
        cases h
        obtain ⟨ie, hie, hie2⟩ := sz_some hsz
        obtain ⟨j', hj', hj2, _⟩ := (ht.is hie).info
        refine ⟨trivial, fun hp => ?_⟩
        simp only [OP_some] at hp
        have e2 : ((o1 : Int) + j).toNat * sz + 0 = o' + j.toNat * sz := by
          rw [ho' (.inl (by omega)), show ((o1 : Int) + j).toNat = o1 + j.toNat by omega, Nat.add_mul, Nat.add_zero]
        exact ⟨_, ⟨hb, k, hk, rfl⟩, fun w' _ => by simp only [execOp, ho, e, ey, run_indexAt hu hj' hj2 hp.1 hp.2, add_plain', hie2, e2, Sem.run_bind, Result.andThen_ok, Sem.run_pure]⟩
      · cases h
    · cases h
  · rename_i g kk j
    have ey := rs_int hy
    have e : ρ X = .pointer (some ⟨g, 0, none⟩) := hx
    split at h
    · rename_i n e' _ _ _ _ l hi hg
      split at h
      · rename_i hsz
        cases h
        refine ⟨trivial, fun hp => ?_⟩
        simp only [OP_some] at hp
        obtain ⟨⟨hp0, hp1⟩, hp2⟩ := hp
        have hu := tk_array (ht.is hi).tk
        obtain ⟨i, hi', hi2⟩ := sz_some hsz
        obtain ⟨j', hj1, hj2, _⟩ := (ht.is hi').info
        have hjn : ((j.toNat : Nat) : Int) = j := by omega
        have hr := fun w => run_arrAt (P := P) (t := t) (kk := kk) (k := g) (p := 0) (j := j.toNat) hu hj1 (show j'.size = 1 by rw [hj2, hi2]) (by omega) w
        obtain ⟨g1, g2, arr, T, fz, g3, g4⟩ := hH.bel.gl g l hg
        have hlt : g < w.heap.size := Nat.lt_of_lt_of_le g1.1 hH.bel.size
        have hget := gt_get (d := .str) (xs := l) hp0 hp2
        refine ⟨_, ⟨g, 0 + j.toNat * 1, arr, T, fz, [.string ⟨(gt (d := .str) l j).toArray⟩], rfl, ⟨⟨hlt, fun _ => g2⟩, fun b hb eb => (hH.new b g hb eb).1 g1⟩, by show w.heap[g]? = _; rw [hH.bel.block g g1]; exact g3, rfl, ?_⟩, fun w' _ => ?_⟩
        · rw [g4, Nat.zero_add, Nat.mul_one]
          show ((glC l).drop j.toNat).take 1 = _
          have h2 : (glC l)[j.toNat]? = some (.string ⟨(gt (d := .str) l j).toArray⟩) := by
            unfold glC
            rw [List.getElem?_map, hget]
            rfl
          rw [List.take_one, List.head?_drop, h2]
          rfl
        · have hr' := hr w'
          rw [show Int.ofNat j.toNat = j from hjn] at hr'
          simp only [execOp, ho, e, ey, hr', Sem.run_bind, Result.andThen_ok, Sem.run_pure, Nat.zero_add, Nat.add_zero]
      · cases h
    · cases h
  · cases h

end OE

/- OE, part 3b: cuts, lengths, function values, structs out of parts; all quiet operations together. Own work; generic over the program. -/
namespace OE
open Go Go.RowKit

variable {P : Program}

theorem run_bound {v : Value} {kk : IntKind} {a : Int} (hv : v = .int kk a) {y : Nat} {code : BoundsCode} (h0 : 0 ≤ a) (h1 : a ≤ y) (w : World) : (Instr.sliceBound v y code).run P w = .ok a.toNat w := by
  subst hv
  simp [Instr.sliceBound, asIntOf, h0, h1]

theorem run_bounds {x : Cx} {n cap : Nat} (hn : n ≤ cap) {lo hi : Option SV} {lv hv : Option Value} {p : Prop} {a b : Nat} (h : cutB n lo hi = some (p, a, b))
    (hl : ∀ s, lo = some s → ∃ v, lv = some v ∧ RS x s v) (hl' : lo = none → lv = none) (hh : ∀ s, hi = some s → ∃ v, hv = some v ∧ RS x s v) (hh' : hi = none → hv = none) (hp : p) (isS : Bool) :
    a ≤ b ∧ b ≤ n ∧ ∀ w, (Instr.sliceBounds isS n cap lv hv none).run P w = .ok (a, b, cap) w := by
  unfold cutB at h
  split at h
  · cases h
    rw [hl' rfl, hh' rfl]
    exact ⟨Nat.zero_le _, Nat.le_refl _, fun w => by simp [Instr.sliceBounds]⟩
  · rename_i k a
    cases h
    obtain ⟨v, e, hv⟩ := hl _ rfl
    have hv := rs_int hv
    rw [e, hh' rfl]
    refine ⟨by omega, Nat.le_refl _, fun w => ?_⟩
    simp [Instr.sliceBounds, run_bound hv hp.1 hp.2]
  · rename_i k b
    cases h
    obtain ⟨v, e, hv⟩ := hh _ rfl
    have hv := rs_int hv
    rw [e, hl' rfl]
    refine ⟨Nat.zero_le _, by omega, fun w => ?_⟩
    have : b ≤ (cap : Int) := by omega
    simp [Instr.sliceBounds, run_bound hv hp.1 this]
  · rename_i k a k' b
    cases h
    obtain ⟨v, e, hv⟩ := hh _ rfl
    obtain ⟨u, e', hu⟩ := hl _ rfl
    have hv := rs_int hv
    have hu := rs_int hu
    obtain ⟨⟨h1, h2⟩, h3, h4⟩ := hp
    rw [e, e']
    refine ⟨by omega, by omega, fun w => ?_⟩
    have hb : b ≤ (cap : Int) := by omega
    have ha : a ≤ (b.toNat : Int) := by omega
    simp [Instr.sliceBounds, run_bound hv h1 hb, run_bound hu h3 ha]
  · cases h

theorem map_g {x : Cx} {g : Operand → SV} {ρ : Operand → Value} (hg : ∀ o, RS x (g o) (ρ o)) (lo : Option Operand) : (∀ s, lo.map g = some s → ∃ v, lo.map ρ = some v ∧ RS x s v) ∧ (lo.map g = none → lo.map ρ = none) := by
  cases lo with
  | none => exact ⟨fun s h => (by simp at h), fun _ => rfl⟩
  | some o => exact ⟨fun s h => ⟨_, rfl, by simp at h; subst h; exact hg o⟩, fun h => by simp at h⟩

theorem cutV_sound {ti : Nat → Option TI} (ht : TabOk P ti) {x : Cx} {g : Operand → SV} {ρ : Operand → Value} (hg : ∀ o, RS x (g o) (ρ o)) {t : TypeId} {lo hi : Option Operand} {X : Operand} {q : Q} {w : World}
    (h : cutV ti t (lo.map g) (hi.map g) (g X) = some q) {o : Oper} (ho : o.op = .slice t X lo hi none) : OP q.hyp ∧ (OP q.pre → ∃ v, RS x q.v v ∧ Yields P w v (execOp ρ o)) := by
  have hX := hg X
  unfold cutV at h
  split at h
  · rename_i s hs
    rw [hs] at hX
    have ex := rs_str hX
    split at h
    · rename_i p a b hi' hc
      cases h
      have hu := tk_str (ht.is hi').tk
      refine ⟨trivial, fun hp => ?_⟩
      obtain ⟨h1, h2, hr⟩ := run_bounds (P := P) (cap := s.length) (Nat.le_refl _) hc (map_g hg lo).1 (map_g hg lo).2 (map_g hg hi).1 (map_g hg hi).2 hp false
      refine ⟨_, rfl, fun w' _ => ?_⟩
      have e1 : (ByteArray.mk s.toArray).size = s.length := by simp [ByteArray.size]
      have e2 : (ByteArray.mk s.toArray).extract a b = ByteArray.mk ((s.take b).drop a).toArray := by
        apply ByteArray.ext
        simp [List.drop_take]
      simp [execOp, ho, ex, Instr.sliceAt, Instr.slice, und_run hu, e1, hr, e2]
    · cases h
  · rename_i d xs hs
    rw [hs] at hX
    have hx' : Rd x.w x.ok (.list d) xs [ρ X] := hX
    simp only [Rd] at hx'
    obtain ⟨A, c, e, hc, hm, hn, hr⟩ := hx'
    simp only [List.cons.injEq, and_true] at e
    split at h
    · rename_i e' _ _ _ _ p a b hi' hcb
      have hu := tk_slice (ht.is hi').tk
      split at h
      · rename_i hsz
        cases h
        obtain ⟨ie, hie, hie2⟩ := sz_some hsz
        obtain ⟨j', hj', hj2, _⟩ := (ht.is hie).info
        refine ⟨trivial, fun hp => ?_⟩
        obtain ⟨h1, h2, hrun⟩ := run_bounds (P := P) (cap := c) hc hcb (map_g hg lo).1 (map_g hg lo).2 (map_g hg hi).1 (map_g hg hi).2 hp true
        refine ⟨.slice (if c = a then A else A.map (·.add (a * d.sz))) (b - a) (c - a), ?_, fun w' _ => ?_⟩
        · have hlen : ((xs.take b).drop a).length = b - a := by simp; omega
          refine (show Rd x.w x.ok (.list d) _ [_] from ?_)
          simp only [Rd]
          refine ⟨_, c - a, by rw [hlen], by omega, by omega, fun hA => ?_, ?_⟩
          · split at hA
            · rw [hn hA]; omega
            · simp at hA; rw [hn hA]; omega
          · rcases hr with hr | ⟨k, off, cells, T, fz, hA, hok', hb, hf⟩
            · subst hr; left; simp
            · by_cases hca : c = a
              · left
                apply List.eq_nil_of_length_eq_zero
                omega
              · right
                refine ⟨k, off + a * d.sz, cells, T, fz, by rw [if_neg hca, hA]; simp [add_plain'], hok', hb, ?_⟩
                have := RdF.drop (fun _ _ => Rd.len) a (RdF.take (fun _ _ => Rd.len) b hf)
                rw [hlen]
                have e3 : (((cells.toList.drop off).take (xs.length * d.sz)).take (b * d.sz)).drop (a * d.sz) = (cells.toList.drop (off + a * d.sz)).take ((b - a) * d.sz) := by
                  have hbx : b * d.sz ≤ xs.length * d.sz := Nat.mul_le_mul_right _ h2
                  rw [List.take_take, Nat.min_eq_left hbx, List.drop_take, List.drop_drop, Nat.sub_mul]
                rw [← e3]
                exact this
        · simp [execOp, ho, e, Instr.sliceAt, Instr.slice, und_run hu, hrun, Go.sizeOf, typeInfo, hj', hj2, hie2]
      · cases h
    · cases h
  · cases h

theorem bounds_hi (isS : Bool) (n c : Nat) (lv : Option Value) (u : Value) : Instr.sliceBounds isS n c lv (some u) none = Instr.sliceBounds isS c c lv (some u) none := rfl

theorem cutS_sound {ti : Nat → Option TI} (ht : TabOk P ti) {x : Cx} {g : Operand → SV} {ρ : Operand → Value} (hg : ∀ o, RS x (g o) (ρ o)) {t : TypeId} {lo hi : Option Operand} {X : Operand} {q : Q} {w : World}
    (h : cutS ti t (lo.map g) (hi.map g) (g X) = some q) {o : Oper} (ho : o.op = .slice t X lo hi none) : OP q.hyp ∧ (OP q.pre → ∃ v, RS x q.v v ∧ Yields P w v (execOp ρ o)) := by
  have hX := hg X
  unfold cutS at h
  split at h
  · rename_i b o1 sz n c hs
    rw [hs] at hX
    obtain ⟨hnm, hnc, hcm, k, o', hk, e, ho'⟩ := hX
    split at h
    · rename_i e' _ _ _ _ hi'
      have hu := tk_slice (ht.is hi').tk
      split at h
      · rename_i hsz
        obtain ⟨ie, hie, hie2⟩ := sz_some hsz
        obtain ⟨j', hj', hj2, _⟩ := (ht.is hie).info
        have fin : ∀ (a h : Nat), a ≤ h → h ≤ c → (∀ w, (Instr.sliceBounds true n c (lo.map ρ) (hi.map ρ) none).run P w = .ok (a, h, c) w) →
            ∃ v, RS x (.c (.sub b (o1 + a) sz (h - a) (c - a))) v ∧ Yields P w v (execOp ρ o) := by
          intro a h h1 h2 hrun
          refine ⟨.slice (if c = a then some ⟨k, o', none⟩ else (some ⟨k, o', none⟩ : Option Addr).map (·.add (a * sz))) (h - a) (c - a), ?_, fun w' _ => ?_⟩
          · refine ⟨hnm, by omega, by omega, k, if c = a then o' else o' + a * sz, hk, ?_, fun hc => ?_⟩
            · split <;> simp [add_plain']
            · split
              · have : o1 = 0 ∧ a = 0 := by omega
                rw [ho' (.inr this.1), this.1, this.2]
              · rw [ho' (by omega), Nat.add_mul]
          · simp [execOp, ho, e, Instr.sliceAt, Instr.slice, und_run hu, hrun, Go.sizeOf, typeInfo, hj', hj2, hie2]
        split at h
        · rename_i hn
          split at h
          · rename_i p a h' hcb
            cases h
            refine ⟨trivial, fun hp => ?_⟩
            obtain ⟨h1, h2, hrun⟩ := run_bounds (P := P) (x := x) (cap := c) hnc hcb (map_g hg lo).1 (map_g hg lo).2 (hv := none) (by simp) (by simp) hp true
            have hh : hi.map ρ = none := (map_g hg hi).2 hn
            exact fin a h' h1 (by omega) (by rw [hh]; exact hrun)
          · cases h
        · rename_i s hn
          split at h
          · rename_i p a h' hcb
            cases h
            refine ⟨trivial, fun hp => ?_⟩
            obtain ⟨u, hu1, hu2⟩ := (map_g hg hi).1 s hn
            obtain ⟨h1, h2, hrun⟩ := run_bounds (P := P) (x := x) (cap := c) (Nat.le_refl c) hcb (map_g hg lo).1 (map_g hg lo).2 (hv := some u) (fun s' hs' => by cases hs'; exact ⟨u, rfl, hu2⟩) (by simp) hp true
            exact fin a h' h1 h2 (by rw [hu1, bounds_hi]; exact hrun)
          · cases h
      · cases h
    · cases h
  · rename_i hs
    rw [hs] at hX
    obtain ⟨e, hone⟩ := hX
    split at h
    · rename_i e' _ _ _ _ hi'
      have hu := tk_slice (ht.is hi').tk
      split at h
      · rename_i sz hsz
        obtain ⟨ie, hie, hie2⟩ := sz_some hsz
        obtain ⟨j', hj', hj2, _⟩ := (ht.is hie).info
        split at h
        · rename_i p a b hcb
          cases h
          refine ⟨trivial, fun hp => ?_⟩
          obtain ⟨h1, h2, hrun⟩ := run_bounds (P := P) (x := x) (cap := 0) (Nat.le_refl 0) hcb (map_g hg lo).1 (map_g hg lo).2 (map_g hg hi).1 (map_g hg hi).2 hp true
          have ea : a = 0 := by omega
          have eb : b = 0 := by omega
          subst ea eb
          refine ⟨.slice none 0 0, ⟨rfl, rfl⟩, fun w' _ => ?_⟩
          simp [execOp, ho, e, Instr.sliceAt, Instr.slice, und_run hu, hrun, Go.sizeOf, typeInfo, hj']
        · cases h
      · cases h
    · cases h
  · cases h

theorem cut3_sound {ti : Nat → Option TI} (ht : TabOk P ti) {w0 : W0} {hp hq : List (Nat × Ob)} {nx : Nat → Prop} {η : Nat → Option Nat × Value} {w : World} (hH : RepH w0 hp nx η w) (hs : ∀ b o, lk hq b = some o → lk hp b = some o) {t : TypeId} {s sa sh sm : SV} {q : Q}
    {X A H M : Operand} {ρ : Operand → Value} (h : cut3 hq (ti t) ti s sa sh sm = some q) (hx : RS (cxS w0 hp nx η w) s (ρ X)) (ha : RS (cxS w0 hp nx η w) sa (ρ A)) (hh : RS (cxS w0 hp nx η w) sh (ρ H)) (hm : RS (cxS w0 hp nx η w) sm (ρ M))
    {o : Oper} (ho : o.op = .slice t X (some A) (some H) (some M)) : OP q.hyp ∧ (OP q.pre → ∃ v, RS (cxS w0 hp nx η w) q.v v ∧ Yields P w v (execOp ρ o)) := by
  unfold cut3 at h
  split at h
  · rename_i x ka a kh hh' km m
    have ea := rs_int ha
    have eh := rs_int hh
    have em := rs_int hm
    split at h
    · rename_i e' _ _ _ _ hi'
      have hu := tk_slice (ht.is hi').tk
      split at h
      · rename_i sz hsz
        obtain ⟨ie, hie, hie2⟩ := sz_some hsz
        obtain ⟨j', hj', hj2, _⟩ := (ht.is hie).info
        have fin : ∀ (B : Option Addr) (n c : Nat), ρ X = .slice B n c → n ≤ c → (0 ≤ a ∧ a ≤ hh' ∧ hh' ≤ m ∧ m ≤ n) → ∃ v, RS (cxS w0 hp nx η w) .un v ∧ Yields P w v (execOp ρ o) := by
          rintro B n c eX hnc ⟨p1, p2, p3, p4⟩
          refine ⟨.slice (if m.toNat = a.toNat then B else B.map (·.add (a.toNat * sz))) (hh'.toNat - a.toNat) (m.toNat - a.toNat), trivial, fun w' _ => ?_⟩
          have r1 : (Instr.sliceBound (ρ M) c .slice3Acap).run P w' = .ok m.toNat w' := run_bound em (by omega) (by omega) w'
          have r2 : (Instr.sliceBound (ρ H) m.toNat .slice3B).run P w' = .ok hh'.toNat w' := run_bound eh (by omega) (by omega) w'
          have r3 : (Instr.sliceBound (ρ A) hh'.toNat .slice3C).run P w' = .ok a.toNat w' := run_bound ea (by omega) (by omega) w'
          have rb : (Instr.sliceBounds true n c (some (ρ A)) (some (ρ H)) (some (ρ M))).run P w' = .ok (a.toNat, hh'.toNat, m.toNat) w' := by
            simp [Instr.sliceBounds, r1, r2, r3]
          simp [execOp, ho, eX, Instr.sliceAt, Instr.slice, und_run hu, rb, Go.sizeOf, typeInfo, hj', hj2, hie2]
        split at h
        · rename_i d xs
          cases h
          have hx' : Rd w (okS w0 hp η w) (.list d) xs [ρ X] := hx
          simp only [Rd] at hx'
          obtain ⟨B, c, e, hc, _⟩ := hx'
          simp only [List.cons.injEq, and_true] at e
          exact ⟨trivial, fun hp => fin B xs.length c e hc hp⟩
        · rename_i b o1 sz2 n c
          cases h
          obtain ⟨_, hnc, _, k, o', _, e, _⟩ := hx
          exact ⟨trivial, fun hp => fin _ n c e hnc hp⟩
        · rename_i b
          obtain ⟨hb, e, _⟩ := hx
          split at h
          · rename_i T d xs hlk
            cases h
            obtain ⟨cs, r1, r2, r3⟩ := hH.obs b _ (hs _ _ hlk)
            refine ⟨trivial, fun hp => ?_⟩
            rcases r2.2 with ⟨hv, hn⟩ | ⟨g, cap, cur, hv, _, hg, hc1, _⟩
            · exact fin none 0 0 (e.trans hv) (Nat.le_refl _) (by rw [← hn]; exact hp)
            · exact fin _ xs.length cap (e.trans hv) hc1 hp
          · cases h
        · cases h
      · cases h
    · cases h
  · cases h

theorem capV_sound {ti : Nat → Option TI} (ht : TabOk P ti) {x : Cx} {w : World} {t : TypeId} {s : SV} {q : Q}
    {X : Operand} {ρ : Operand → Value} (h : capV (ti t) s = some q) (hx : RS x s (ρ X)) {o : Oper} {c : Call} (ho : o.op = .call c) (h1 : c.callee = .builtin .cap) (h2 : c.args.toList = [X])
    (h3 : c.argTypes.toList = [t]) : OP q.hyp ∧ (OP q.pre → ∃ v, RS x q.v v ∧ Yields P w v (execOp ρ o)) := by
  have h2' : c.args = #[X] := by rw [← Array.toList_inj]; simpa using h2
  have h3' : c.argTypes = #[t] := by rw [← Array.toList_inj]; simpa using h3
  have run : ∀ v n, ρ X = v → (∀ w', (Builtin.cap_ #[t] o.type #[v]).run P w' = .ok (goInt n) w') → Yields P w (.int .i64 n) (execOp ρ o) := by
    intro v n hv hr w' _
    simp [execOp, ho, resolve, h1, h2', h3', invoke, builtin, hv, hr, goInt]
  unfold capV at h
  split at h
  · obtain ⟨_, hnc, hcm, k, o', _, e, _⟩ := hx
    split at h
    · rename_i hi
      cases h
      have hu := tk_slice (ht.is hi).tk
      exact ⟨⟨hnc, by simpa only [maxLen_eq] using hcm⟩, fun _ => ⟨_, rfl, run _ _ e (fun w' => by simp [Builtin.cap_, und_run hu])⟩⟩
    · cases h
  · obtain ⟨e, _⟩ := hx
    split at h
    · rename_i hi
      cases h
      have hu := tk_slice (ht.is hi).tk
      exact ⟨trivial, fun _ => ⟨_, rfl, run _ 0 e (fun w' => by simp [Builtin.cap_, und_run hu])⟩⟩
    · cases h
  · cases h

theorem lenV_sound {ti : Nat → Option TI} (ht : TabOk P ti) {w0 : W0} {hp hq : List (Nat × Ob)} {nx : Nat → Prop} {η : Nat → Option Nat × Value} {w : World} (hH : RepH w0 hp nx η w) (hs : ∀ b o, lk hq b = some o → lk hp b = some o) {t : TypeId} {s : SV} {q : Q}
    {X : Operand} {ρ : Operand → Value} (h : lenV hq (ti t) s = some q) (hx : RS (cxS w0 hp nx η w) s (ρ X)) {o : Oper} {c : Call} (ho : o.op = .call c) (h1 : c.callee = .builtin .len) (h2 : c.args.toList = [X])
    (h3 : c.argTypes.toList = [t]) : OP q.hyp ∧ (OP q.pre → ∃ v, RS (cxS w0 hp nx η w) q.v v ∧ Yields P w v (execOp ρ o)) := by
  have h2' : c.args = #[X] := by rw [← Array.toList_inj]; simpa using h2
  have h3' : c.argTypes = #[t] := by rw [← Array.toList_inj]; simpa using h3
  have run : ∀ v n, ρ X = v → (∀ w', (Builtin.len_ #[t] o.type #[v]).run P w' = .ok (goInt n) w') → Yields P w (.int .i64 n) (execOp ρ o) := by
    intro v n hv hr w' _
    simp [execOp, ho, resolve, h1, h2', h3', invoke, builtin, hv, hr, goInt]
  unfold lenV at h
  split at h
  · rename_i s
    have ex := rs_str hx
    split at h
    · rename_i hi
      cases h
      have hu := tk_str (ht.is hi).tk
      exact ⟨trivial, fun _ => ⟨_, rfl, run _ _ ex (fun w' => by simp [Builtin.len_, und_run hu]; rfl)⟩⟩
    · cases h
  · rename_i d xs
    have hx' : Rd w (okS w0 hp η w) (.list d) xs [ρ X] := hx
    simp only [Rd] at hx'
    obtain ⟨A, c', e, hc, hm, _⟩ := hx'
    simp only [List.cons.injEq, and_true] at e
    split at h
    · rename_i hi
      cases h
      have hu := tk_slice (ht.is hi).tk
      exact ⟨by simp only [maxLen_eq] at hm; simp only [OP_some]; omega, fun _ => ⟨_, rfl, run _ _ e (fun w' => by simp [Builtin.len_, und_run hu])⟩⟩
    · cases h
  · rename_i b
    obtain ⟨hb, e, _⟩ := hx
    split at h
    · rename_i _ _ _ _ _ _ d xs hi hlk
      cases h
      have hu := tk_slice (ht.is hi).tk
      obtain ⟨cs, r1, r2, r3⟩ := hH.obs b _ (hs _ _ hlk)
      rcases r2.2 with ⟨hv, hn⟩ | ⟨g, cap, cur, hv, _, hg, hc1, hc2, _⟩
      · refine ⟨by simp only [OP_some]; omega, fun _ => ⟨_, rfl, run _ _ (e.trans hv) (fun w' => by simp [Builtin.len_, und_run hu, hn])⟩⟩
      · exact ⟨by simp only [maxLen_eq] at hc2; simp only [OP_some]; omega, fun _ => ⟨_, rfl, run _ _ (e.trans hv) (fun w' => by simp [Builtin.len_, und_run hu])⟩⟩
    · cases h
  · obtain ⟨e, _⟩ := hx
    split at h
    · rename_i hi
      cases h
      have hu := tk_slice (ht.is hi).tk
      exact ⟨trivial, fun _ => ⟨_, rfl, run _ 0 e (fun w' => by simp [Builtin.len_, und_run hu])⟩⟩
    · cases h
  · obtain ⟨_, k, _, e⟩ := hx
    split at h
    · rename_i hi
      cases h
      have hu := tk_slice (ht.is hi).tk
      exact ⟨trivial, fun _ => ⟨_, rfl, run _ _ e (fun w' => by simp [Builtin.len_, und_run hu])⟩⟩
    · cases h
  · obtain ⟨_, hnc, hcm, k, o', _, e, _⟩ := hx
    split at h
    · rename_i hi
      cases h
      have hu := tk_slice (ht.is hi).tk
      exact ⟨⟨hnc, by simpa only [maxLen_eq] using hcm⟩, fun _ => ⟨_, rfl, run _ _ e (fun w' => by simp [Builtin.len_, und_run hu])⟩⟩
    · cases h
  · cases h

theorem caps_rl {x : Cx} : ∀ {l : List SV} {vs : List Value} {m : List (Nat × Nat)}, RL (RS x) l vs → caps l = some m →
    RL (fun (p : Nat × Nat) u => x.nm p.1 ∧ ∃ k, (x.η p.1).1 = some k ∧ u = .pointer (some ⟨k, p.2, none⟩)) m vs
  | [], [], _, _, h => by simp [caps] at h; subst h; trivial
  | s :: l, v :: vs, m, ⟨h1, h2⟩, h => by
    unfold caps at h
    split at h
    · rename_i heq; cases heq
    · rename_i b o l' heq
      simp only [List.cons.injEq] at heq
      obtain ⟨rfl, rfl⟩ := heq
      split at h
      · rename_i m' hm
        cases h
        exact ⟨h1, caps_rl h2 hm⟩
      · cases h
    · cases h
  | [], _ :: _, _, h, _ => h.elim
  | _ :: _, [], _, h, _ => h.elim

theorem rl_map {x : Cx} {g : Operand → SV} {ρ : Operand → Value} (hg : ∀ o, RS x (g o) (ρ o)) : ∀ (l : List Operand), RL (RS x) (l.map g) (l.map ρ)
  | [] => trivial
  | o :: l => ⟨hg o, rl_map hg l⟩

/-! ### a struct out of parts -/

theorem foldl_set (l : List Value) : ∀ (k off : Nat) (cs : Array Value), off + k + l.length ≤ cs.size →
    (l.zipIdx k).foldl (fun cs (p : Value × Nat) => cs.setIfInBounds (off + p.2) p.1) cs = (cs.toList.take (off + k) ++ l ++ cs.toList.drop (off + k + l.length)).toArray := by
  induction l with
  | nil => intro k off cs h; simp
  | cons v l ih =>
    intro k off cs h
    simp only [List.length_cons] at h
    simp only [List.zipIdx_cons, List.foldl_cons]
    rw [ih (k + 1) off _ (by simp; omega)]
    congr 1
    have hlt : off + k < cs.toList.length := by simp; omega
    have e1 : (cs.setIfInBounds (off + k) v).toList = cs.toList.set (off + k) v := by simp
    rw [e1]
    have e2 : cs.toList.set (off + k) v = cs.toList.take (off + k) ++ v :: cs.toList.drop (off + k + 1) := by
      rw [List.set_eq_take_append_cons_drop, if_pos hlt]
    rw [e2]
    have hl : (cs.toList.take (off + k)).length = off + k := by simp; omega
    have e3 : (cs.toList.take (off + k) ++ v :: cs.toList.drop (off + k + 1)).take (off + (k + 1)) = cs.toList.take (off + k) ++ [v] := by
      rw [List.take_append, hl]
      have : off + (k + 1) - (off + k) = 1 := by omega
      rw [this, List.take_of_length_le (by omega)]
      rfl
    have e4 : (cs.toList.take (off + k) ++ v :: cs.toList.drop (off + k + 1)).drop (off + (k + 1) + l.length) = cs.toList.drop (off + k + (l.length + 1)) := by
      rw [List.drop_append, hl]
      have : off + (k + 1) + l.length - (off + k) = 1 + l.length := by omega
      rw [this, List.drop_of_length_le (by omega), List.nil_append, Nat.add_comm 1, List.drop_succ_cons, List.drop_drop]
      congr 1
      omega
    rw [e3, e4]
    simp

theorem fillC_sound {x : Cx} {fs : List (Nat × Nat × Bool)} {place : Nat → Option (Nat × Nat)} (hpl : ∀ i o s ag, fs[i]? = some (o, s, ag) → place i = some (o, s)) :
    ∀ (parts : List (Nat × SV)) (vals : List (Nat × Value)) (cells : List C) (l : List C) (cs : Array Value), RL (fun (p : Nat × SV) (u : Nat × Value) => p.1 = u.1 ∧ RS x p.2 u.2) parts vals →
      RL (RC x) cells cs.toList → fillC fs cells parts = some l → ∃ cs', Instr.fill place cs vals = some cs' ∧ RL (RC x) l cs'.toList
  | [], [], cells, l, cs, _, hc, h => by simp only [fillC, Option.some.injEq] at h; subst h; exact ⟨cs, rfl, hc⟩
  | (i, v) :: r, (i', u) :: vals, cells, l, cs, ⟨⟨e, hv⟩, hr⟩, hc, h => by
    simp only at e
    subst e
    have hsize := RL.len hc
    simp only [Array.length_toList] at hsize
    unfold fillC at h
    split at h
    · rename_i o s ag hf
      have hp := hpl _ _ _ _ hf
      split at h
      · rename_i y
        split at h
        · rename_i hcond
          obtain ⟨rfl, hlt⟩ := hcond
          have hv : RC x y u := hv
          have hu1 : u.cells = #[u] := by
            have := RC.one hv
            cases u <;> simp_all [Value.oneCell', Value.cells]
          have hfold := foldl_set [u] 0 o cs (by simp; omega)
          obtain ⟨cs', h1, h2⟩ := fillC_sound hpl r vals _ l (cs.setIfInBounds o u) hr (by simpa using RL.set hv o hc) h
          refine ⟨cs', ?_, h2⟩
          simp only [Instr.fill, hp, hu1]
          have hno : ¬ ((decide (#[u].size ≠ 1) || decide (o + #[u].size > cs.size)) = true) := by simp; omega
          rw [if_neg hno]
          simpa using h1
        · cases h
      · rename_i m
        split at h
        · rename_i hcond
          obtain ⟨rfl, hle⟩ := hcond
          obtain ⟨us, rfl, hv⟩ := hv
          have hlu := RL.len hv
          simp only [Array.length_toList] at hlu
          have hfold := foldl_set us.toList 0 o cs (by simp; omega)
          have hnew : RL (RC x) (cells.take o ++ m ++ cells.drop (o + m.length)) (cs.toList.take o ++ us.toList ++ cs.toList.drop (o + us.size)) := by
            rw [hlu]
            exact RL.app (RL.app (RL.take o hc) hv) (RL.drop _ hc)
          obtain ⟨cs', h1, h2⟩ := fillC_sound hpl r vals _ l (cs.toList.take o ++ us.toList ++ cs.toList.drop (o + us.size)).toArray hr (by simpa using hnew) h
          refine ⟨cs', ?_, h2⟩
          simp only [Instr.fill, hp, Value.cells]
          refine (if_neg (by simp [hlu]; omega)).trans ?_
          have e : us.zipIdx.foldl (fun cs (p : Value × Nat) => cs.setIfInBounds (o + p.2) p.1) cs = (cs.toList.take o ++ us.toList ++ cs.toList.drop (o + us.size)).toArray := by
            rw [← Array.foldl_toList, Array.toList_zipIdx]
            simpa using hfold
          rw [← h1]
          exact congrArg (fun z => Instr.fill place z vals) e
        · cases h
      · cases h
    · cases h
  | [], _ :: _, _, _, _, h, _, _ => h.elim
  | _ :: _, [], _, _, _, h, _, _ => h.elim

theorem fld_places {w : World} : ∀ {fs : List (Nat × Nat × Bool)} {gs : List Field}, fldIs P fs gs = true →
    (gs.mapM (m := Sem) fun f => do pure (f.offset, ← Go.sizeOf f.type)).run P w = .ok (fs.map fun p => (p.1, p.2.1)) w
  | [], [], _ => rfl
  | [], _ :: _, h => by simp [fldIs] at h
  | _ :: _, [], h => by simp [fldIs] at h
  | (o, s, ag) :: fs, g :: gs, h => by
    obtain ⟨g', hg, ho, hs, ⟨j, hj, hjs⟩, _⟩ := fld_get h (i := 0) rfl
    simp only [List.getElem?_cons_zero, Option.some.injEq] at hg
    subst hg
    simp only [fldIs, Bool.and_eq_true] at h
    have := fld_places (w := w) h.2
    simp [List.mapM_cons, Go.sizeOf, typeInfo, hj, hjs, ho] at this ⊢
    rw [this]
    rfl

theorem bldV_sound {ti : Nat → Option TI} (ht : TabOk P ti) {x : Cx} {g : Operand → SV} {ρ : Operand → Value} (hg : ∀ o, RS x (g o) (ρ o)) {t : TypeId} {parts : Array (Nat × Operand)} {q : Q} {w : World}
    (h : bldV (ti t) (parts.toList.map fun p => (p.1, g p.2)) = some q) {o : Oper} (ho : o.op = .build t parts) : OP q.hyp ∧ (OP q.pre → ∃ v, RS x q.v v ∧ Yields P w v (execOp ρ o)) := by
  unfold bldV at h
  split at h
  · rename_i fs _ _ z _ hi
    split at h
    · rename_i l hl
      cases h
      have is := ht.is hi
      obtain ⟨fl, hu, hfl⟩ := tk_strct is.tk
      obtain ⟨j, zv, hj, hz, hzz⟩ := is.zero
      simp only [TK.agg, if_true] at hzz
      obtain ⟨cs0, rfl, hall⟩ := hzz
      have hpm : RL (fun (p : Nat × SV) (u : Nat × Value) => p.1 = u.1 ∧ RS x p.2 u.2) (parts.toList.map fun p => (p.1, g p.2)) (parts.toList.map fun p => (p.1, ρ p.2)) := by
        generalize parts.toList = pl
        induction pl with
        | nil => trivial
        | cons p pl ih => exact ⟨⟨rfl, hg _⟩, ih⟩
      obtain ⟨cs', h1, h2⟩ := fillC_sound (place := fun i => (fs.map fun p => (p.1, p.2.1))[i]?) (fun i o s ag hf => by simp [hf]) _ _ z l cs0 hpm (rl_of_allIs hall) hl
      refine ⟨trivial, fun _ => ⟨.agg cs', ⟨cs', rfl, h2⟩, fun w' _ => ?_⟩⟩
      have hm : (fl.mapM (m := Sem) fun f => do pure (f.offset, ← Go.sizeOf f.type)).run P w' = .ok (fs.map fun p => (p.1, p.2.1)).toArray w' := by
        rw [Array.mapM_eq_mapM_toList, Sem.run_map, fld_places hfl]
        rfl
      have e : ((parts.map fun (p : Nat × Operand) => (p.1, ρ p.2)).toList) = parts.toList.map fun p => (p.1, ρ p.2) := by simp
      have hfill : Instr.fill (fun i => (fs.map fun p => (p.1, p.2.1)).toArray[i]?) cs0 (parts.toList.map fun p => (p.1, ρ p.2)) = some cs' := by
        simpa using h1
      simp only [execOp, ho, Instr.build, Sem.run_bind, zeroValue, typeInfo, run_program, Result.andThen_ok, hj, Sem.run_pure, hz, Value.cells, und_run hu, hm, e, hfill]
    · cases h
  · cases h

theorem isB_is {ti : Nat → Option TI} (ht : TabOk P ti) {s : TypeId} (h : isB ti s = true) : ∃ e, P.underlying s = some (.slice e) ∧ P.underlying e = some (.int .u8) := by
  unfold isB at h
  split at h
  · rename_i e _ _ _ _ hi
    split at h
    · rename_i hi'
      exact ⟨e, tk_slice (ht.is hi).tk, tk_int (ht.is hi').tk⟩
    · cases h
  · cases h
theorem isS_is {ti : Nat → Option TI} (ht : TabOk P ti) {s : TypeId} (h : isS ti s = true) : P.underlying s = some .string := by
  unfold isS at h
  split at h
  · rename_i hi
    exact tk_str (ht.is hi).tk
  · cases h

theorem rdf_ints {w : World} {ok : Nat → Prop} {k : IntKind} : ∀ {xs : List Int} {cs : List Value}, RdF (Rd w ok (.int k)) xs cs → cs = xs.map (Value.int k)
  | [], _, h => h
  | x :: xs, _, ⟨c1, c2, e, h1, h2⟩ => by
    simp only [Rd] at h1
    rw [e, h1, rdf_ints h2]
    rfl

theorem nums_eq (xs : List Int) : strOfNums xs = ⟨(byl xs).toArray⟩ := by
  simp [strOfNums, byl]

theorem cbsV_sound {ti : Nat → Option TI} (ht : TabOk P ti) {w0 : W0} {hp hq : List (Nat × Ob)} {nx : Nat → Prop} {η : Nat → Option Nat × Value} {w : World} (hH : RepH w0 hp nx η w) (hs : ∀ b o, lk hq b = some o → lk hp b = some o) {t u : TypeId} {s : SV} {q : Q}
    {X : Operand} {ρ : Operand → Value} (h : cbsV ti hq t u s = some q) (hx : RS (cxS w0 hp nx η w) s (ρ X)) {o : Oper} (ho : o.op = .convert t u X) :
    OP q.hyp ∧ (OP q.pre → ∃ v, RS (cxS w0 hp nx η w) q.v v ∧ Yields P w v (execOp ρ o)) := by
  have run0 : ∀ A c, ρ X = .slice A 0 c → isB ti t = true → isS ti u = true → Yields P w (.string ⟨(byl []).toArray⟩) (execOp ρ o) := by
    intro A c e hb hs w' hw'
    obtain ⟨el, h1, h2⟩ := isB_is ht hb
    have h3 := isS_is ht hs
    have e0 : (convert t u (.slice A 0 c)).run P w' = .ok (.string ⟨(byl []).toArray⟩) w' := by
      rw [run_convert_bytes_string w' t u el A 0 c h1 h2 h3]
      cases A <;> simp [Conv.bytesToString, loadCells, loadCellsFrom] <;> rfl
    simp [execOp, ho, e, e0]
  have run : ∀ (xs : List Int) k off c, ρ X = .slice (some ⟨k, off, none⟩) xs.length c → isB ti t = true → isS ti u = true →
      ((∃ ob, w.heap[k]? = some ob) ∧ ∀ w' : World, w'.heap[k]? = w.heap[k]? → ∀ i, i < xs.length → w'.cell? ⟨k, off + i, none⟩ = some (.int .u8 (xs.getD i 0))) →
      Yields P w (.string ⟨(byl xs).toArray⟩) (execOp ρ o) := by
    intro xs k off c e hb hs ⟨⟨ob, hob⟩, hc⟩ w' hw'
    obtain ⟨el, h1, h2⟩ := isB_is ht hb
    have h3 := isS_is ht hs
    have := run_convert_bytes_arg (P := P) w' t el h1 h2 k off xs.length c xs rfl (hc w' (heap_below hw' hob)) u h3
    simp [execOp, ho, e, this, nums_eq]
  have cell : ∀ {w' : World} {k : Nat} {cells : Array Value} {T : TypeId} {fz : Nat × Nat} {off : Nat} {xs : List Int}, w'.heap[k]? = some (.cells cells T fz) →
      ((cells.toList.drop off).take xs.length) = xs.map (Value.int .u8) → ∀ i, i < xs.length → w'.cell? ⟨k, off + i, none⟩ = some (.int .u8 (xs.getD i 0)) := by
    intro w' k cells T fz off xs hk hm i hi
    rw [cell_of hk]
    have h1 : ((cells.toList.drop off).take xs.length)[i]? = some (.int .u8 (xs.getD i 0)) := by
      rw [hm]; simp [hi]
    rw [List.getElem?_take, if_pos hi, List.getElem?_drop] at h1
    simpa using h1
  unfold cbsV at h
  split at h
  · rename_i xs
    split at h
    · rename_i hc
      simp only [Bool.and_eq_true] at hc
      cases h
      have hx' : Rd w (okS w0 hp η w) (.list (.int .u8)) xs [ρ X] := hx
      simp only [Rd] at hx'
      obtain ⟨A, c, e, hc', hm, hn, hr⟩ := hx'
      simp only [List.cons.injEq, and_true] at e
      rcases hr with hr | ⟨k', off', cells, T, fz, hA', hok, hb, hf⟩
      · subst hr
        exact ⟨trivial, fun _ => ⟨_, rfl, run0 A c e hc.1 hc.2⟩⟩
      · subst hA'
        have := rdf_ints (w := w) (ok := okS w0 hp η w) hf
        simp only [D.sz, Nat.mul_one] at this
        exact ⟨trivial, fun _ => ⟨_, rfl, run xs _ _ c e hc.1 hc.2 ⟨⟨_, hb⟩, fun w' hw' => cell (hw'.trans hb) this⟩⟩⟩
    · cases h
  · rename_i b
    obtain ⟨hb, e, _⟩ := hx
    split at h
    · rename_i T xs hlk
      split at h
      · rename_i hc
        simp only [Bool.and_eq_true] at hc
        cases h
        obtain ⟨cs, r1, r2, r3⟩ := hH.obs b _ (hs _ _ hlk)
        rcases r2.2 with ⟨hv, hn⟩ | ⟨g, cap, cur, hv, _, hg, hc1, hc2, hc3, hc4⟩
        · have hxs : xs = [] := List.eq_nil_of_length_eq_zero hn
          subst hxs
          exact ⟨trivial, fun _ => ⟨_, rfl, run0 none 0 (e.trans hv) hc.1 hc.2⟩⟩
        · have := rdf_ints r3
          rw [← hc4] at this
          simp only [D.sz, Nat.mul_one] at this
          exact ⟨trivial, fun _ => ⟨_, rfl, run xs _ _ cap (e.trans hv) hc.1 hc.2 ⟨⟨_, hg⟩, fun w' hw' => cell (hw'.trans hg) (by simpa using this)⟩⟩⟩
      · cases h
    · cases h
  · cases h

/-- the quiet operations, all together -/
theorem qv_sound {ti : Nat → Option TI} (ht : TabOk P ti) {w0 : W0} {hp hq : List (Nat × Ob)} {nx : Nat → Prop} {η : Nat → Option Nat × Value} {w : World} (hH : RepH w0 hp nx η w) (hs : ∀ b o, lk hq b = some o → lk hp b = some o)
    {g : Operand → SV} {ρ : Operand → Value} (hg : ∀ o, RS (cxS w0 hp nx η w) (g o) (ρ o)) {o : Oper} {q : Q} (h : qv ti hq g o.op = some q) :
    OP q.hyp ∧ (OP q.pre → ∃ v, RS (cxS w0 hp nx η w) q.v v ∧ Yields P w v (execOp ρ o)) := by
  unfold qv at h
  split at h
  · rename_i x ho
    cases h
    exact ⟨trivial, fun _ => ⟨_, hg x, fun w' _ => by simp [execOp, ho]⟩⟩
  · rename_i x ho
    cases h
    exact ⟨trivial, fun _ => ⟨_, hg x, fun w' _ => by simp [execOp, ho]⟩⟩
  · rename_i c a b ho
    split at h
    · rename_i t hc
      have hc' := hg c
      rw [hc] at hc'
      have ec := rs_bool hc'
      cases t with
      | tt => cases h; exact ⟨trivial, fun _ => ⟨ρ a, hg a, fun w' _ => by simp [execOp, ho, ec, asBool, BE.v]⟩⟩
      | ff => cases h; exact ⟨trivial, fun _ => ⟨ρ b, hg b, fun w' _ => by simp [execOp, ho, ec, asBool, BE.v]⟩⟩
      | sym t =>
        cases h
        refine ⟨trivial, fun _ => ⟨if t = true then ρ a else ρ b, ?_, fun w' _ => ?_⟩⟩
        · cases t
          · exact hg b
          · exact hg a
        · cases t <;> simp [execOp, ho, ec, asBool, BE.v]
    · cases h
  · rename_i op t x y u ho
    split at h
    · rename_i q' hq'
      cases h
      exact binV_sound hq' (hg x) (hg y) ho
    · split at h
      · rename_i q' hq'
        cases h
        exact eqB_sound ht hq' (hg x) (hg y) ho
      · exact nilB_sound ht h (hg x) (hg y) ho
  · rename_i op t x ho
    exact unV_sound h (hg x) ho
  · rename_i s d x ho
    split at h
    · rename_i q' hq'
      cases h
      exact convV_sound ht hq' (hg x) ho
    · exact cbsV_sound ht hH hs h (hg x) ho
  · rename_i x i ho
    exact extV_sound h (hg x) ho
  · rename_i t x f ho
    exact fadV_sound ht h (hg x) ho
  · rename_i t x f ho
    exact fldV_sound ht h (hg x) ho
  · rename_i t x ho
    exact loadV_sound ht hH hs h (hg x) ho
  · rename_i t x i ho
    exact idxV_sound ht h (hg x) (hg i) ho
  · rename_i t x i ho
    exact iadV_sound ht hH hs h (hg x) (hg i) ho
  · rename_i t x lo hi ho
    split at h
    · rename_i q' hq'
      cases h
      exact cutV_sound ht hg hq' ho
    · exact cutS_sound ht hg h ho
  · rename_i t x lo hi m ho
    exact cut3_sound ht hH hs h (hg x) (hg lo) (hg hi) (hg m) ho
  · rename_i x ho
    split at h
    · rename_i b off hx
      cases h
      have hx' := hg x
      rw [hx] at hx'
      have hx2 := hx'
      obtain ⟨hb, k, hk, e⟩ := hx'
      exact ⟨trivial, fun _ => ⟨_, hx2, fun w' _ => by simp [execOp, ho, e]⟩⟩
    · rename_i d y off hx
      cases h
      have hx' := hg x
      rw [hx] at hx'
      have hx2 := hx'
      obtain ⟨k, o', cells, T, fz, cs, e, _⟩ := hx'
      exact ⟨trivial, fun _ => ⟨_, hx2, fun w' _ => by simp [execOp, ho, e]⟩⟩
    · cases h
  · rename_i f first captured ho
    split at h
    · rename_i l h1 h2
      cases h
      have hr := caps_rl (rl_map hg captured.toList) h2
      have e1 : first = #[] := by rw [← Array.toList_inj]; simpa using h1
      exact ⟨trivial, fun _ => ⟨.func (.func f) #[] (captured.map ρ), ⟨_, rfl, by simpa using hr⟩, fun w' _ => by simp [execOp, ho, Instr.makeFunc, e1]⟩⟩
    · rename_i X h1 h2
      split at h
      · rename_i b off hX
        cases h
        have hr := caps_rl (rl_map hg captured.toList) h2
        have e2 : captured = #[] := by
          rw [← Array.toList_inj]
          cases hc : captured.toList with
          | nil => simp
          | cons a l => rw [hc] at hr; exact hr.elim
        have e1 : first = #[X] := by rw [← Array.toList_inj]; simpa using h1
        have hx := hg X
        rw [hX] at hx
        obtain ⟨g1, k, g2, g3⟩ := hx
        exact ⟨trivial, fun _ => ⟨.func (.func f) #[ρ X] #[], ⟨g1, k, g2, by rw [g3]⟩, fun w' _ => by simp [execOp, ho, Instr.makeFunc, e1, e2]⟩⟩
      · cases h
    · cases h
  · rename_i t parts ho
    exact bldV_sound ht hg h ho
  · rename_i c ho
    split at h
    · rename_i x t h1 h2 h3
      exact lenV_sound ht hH hs h (hg x) ho h1 h2 h3
    · rename_i x t h1 h2 h3
      exact capV_sound ht h (hg x) ho h1 h2 h3
    · rename_i X Y h1 h2 
      split at h
      · rename_i k a k' b hX hY
        cases h
        have ea := hg X
        rw [hX] at ea
        have eb := hg Y
        rw [hY] at eb
        have ea := rs_int ea
        have eb := rs_int eb
        have h2' : c.args = #[X, Y] := by rw [← Array.toList_inj]; simpa using h2
        exact ⟨trivial, fun _ => ⟨_, rfl, fun w' _ => by simp [execOp, ho, resolve, h1, h2', invoke, builtin, ea, eb, Builtin.min_, Builtin.min2]⟩⟩
      · cases h
    · cases h
  · cases h

end OE
