/- OE, part 3: the quiet operations are right. Own work; generic over the program. -/
import Derived.Test.YthpllblcbbkfdaaOeStep
namespace OE
open Go Go.RowKit

variable {P : Program}

/-- what a quiet operation's run must be -/
def Yields (P : Program) (w : World) (v : Value) (s : Sem Next) : Prop := ∀ w', Below w.heap.size w w' → s.run P w' = .ok (.value v) w'

theorem yields_pure {w : World} {v : Value} : Yields P w v (do pure (.value (← (pure v : Sem Value)))) := fun _ _ => rfl

theorem run_eqGuard {op : BinOp} {t : TypeId} {x y : Operand} {a b : Value} {w : World} (ha : ∀ l, a ≠ .agg l) (hi : a ≠ .nilIface) : (eqGuard op t x y a b).run P w = .ok () w := by
  unfold eqGuard
  cases op <;> simp only [Bool.not_true, Bool.not_false, if_true, Bool.false_eq_true, if_false] <;> try rfl
  all_goals
    cases a <;> first | rfl | exact (hi rfl).elim | exact (ha _ rfl).elim

theorem bin_yields {op : BinOp} {t u : TypeId} {x y : Operand} {ρ : Operand → Value} {w : World} {v : Value} (ha : ∀ l, ρ x ≠ .agg l) (hi : ρ x ≠ .nilIface)
    (h : ∀ w, (binOp op t (ρ x) (ρ y)).run P w = .ok v w) {o : Oper} (ho : o.op = .binOp op t x y u) : Yields P w v (execOp ρ o) := by
  intro w' _
  simp [execOp, ho, run_eqGuard ha hi, h]

theorem binI_sound {op : BinOp} {k : IntKind} {a b : Int} {q : Q} (h : binI op k a b = some q) (hs : isShift op = false) (t : TypeId) :
    OP q.hyp ∧ (OP q.pre → ∃ c, q.v = .c c ∧ ∃ v, (∀ x, RC x c v) ∧ ∀ w, (binOp op t (.int k a) (.int k b)).run P w = .ok v w) := by
  cases op <;> simp only [binI, isShift, Option.some.injEq, reduceCtorEq] at h hs <;> subst h <;> refine ⟨trivial, fun hp => ⟨_, rfl, _, fun x => rfl, fun w => ?_⟩⟩
  case quo => simp at hp; simp [binOp, Op.intDiv, hp]
  case rem => simp at hp; simp [binOp, Op.intDiv, hp]
  all_goals simp [binOp, Op.intArith, Op.intCmp, intBits_and, intBits_or, intBits_xor, intBits_andNot, BEq.beq, bne]

theorem shf_sound {op : BinOp} {k k' : IntKind} {a b : Int} {q : Q} (h : shf op k a b = some q) (t : TypeId) :
    OP q.hyp ∧ (OP q.pre → ∃ c, q.v = .c c ∧ ∃ v, (∀ x, RC x c v) ∧ ∀ w, (binOp op t (.int k a) (.int k' b)).run P w = .ok v w) := by
  cases op <;> simp only [shf, Option.some.injEq, reduceCtorEq] at h <;> subst h <;> refine ⟨trivial, fun hp => ⟨_, rfl, _, fun x => rfl, fun w => ?_⟩⟩
  case shl =>
    have : ¬ b < 0 := by simp at hp; omega
    simp [binOp, Op.shift, this]
  case shr =>
    have : ¬ b < 0 := by simp at hp; omega
    have hp2 : (0 : Int) ≤ 2 ^ (min b.toNat k.bits) := Int.pow_nonneg (by decide)
    simp [binOp, Op.shift, this, Int.fdiv_eq_ediv_of_nonneg _ hp2]

theorem beq_dec (a b : List UInt8) : (a == b) = decide (a = b) := by
  by_cases h : a = b <;> simp [h]

theorem binS_sound {op : BinOp} {a b : List UInt8} {q : Q} (h : binS op a b = some q) (t : TypeId) :
    OP q.hyp ∧ (OP q.pre → ∃ c, q.v = .c c ∧ ∃ v, (∀ x, RC x c v) ∧ ∀ w, (binOp op t (.string ⟨a.toArray⟩) (.string ⟨b.toArray⟩)).run P w = .ok v w) := by
  cases op <;> simp only [binS, Option.some.injEq, reduceCtorEq] at h <;> subst h <;> refine ⟨trivial, fun hp => ⟨_, rfl, _, fun x => rfl, fun w => ?_⟩⟩
  case add =>
    have e : (ByteArray.mk a.toArray ++ ByteArray.mk b.toArray) = ByteArray.mk (a ++ b).toArray := by
      apply ByteArray.ext
      simp
    have hs : ¬ (((ByteArray.mk a.toArray).size + (ByteArray.mk b.toArray).size : Nat) : Int) > IntKind.i64.max := by
      simp only [ByteArray.size, List.size_toArray]
      have : IntKind.i64.max = 9223372036854775807 := by decide
      rw [this]
      simp at hp
      omega
    simp only [binOp, Op.stringOp]
    rw [if_neg hs, e]
    rfl
  all_goals simp only [binOp, Op.stringOp, ByteArray.toList_mk, beq_dec, Sem.run_pure, BE.v_sym]

theorem rs_int {x : Cx} {k : IntKind} {a : Int} {v : Value} (h : RS x (.c (.int k a)) v) : v = .int k a := h
theorem rs_str {x : Cx} {a : List UInt8} {v : Value} (h : RS x (.c (.str a)) v) : v = .string ⟨a.toArray⟩ := h
theorem rs_bool {x : Cx} {a : BE} {v : Value} (h : RS x (.c (.bool a)) v) : v = .bool a.v := h

theorem binV_sound {x : Cx} {op : BinOp} {s s' : SV} {q : Q} {t u : TypeId} {X Y : Operand} {ρ : Operand → Value} {w : World} (h : binV op s s' = some q)
    (hx : RS x s (ρ X)) (hy : RS x s' (ρ Y)) {o : Oper} (ho : o.op = .binOp op t X Y u) : OP q.hyp ∧ (OP q.pre → ∃ v, RS x q.v v ∧ Yields P w v (execOp ρ o)) := by
  unfold binV at h
  split at h
  · rename_i k a k' b
    have ex := rs_int hx
    have ey := rs_int hy
    have key : ∀ q : Q, OP q.hyp ∧ (OP q.pre → ∃ c, q.v = .c c ∧ ∃ v, (∀ x, RC x c v) ∧ ∀ w, (binOp op t (.int k a) (.int k' b)).run P w = .ok v w) →
        OP q.hyp ∧ (OP q.pre → ∃ v, RS x q.v v ∧ Yields P w v (execOp ρ o)) := fun q hq => ⟨hq.1, fun hp => by
      obtain ⟨c, e, v, h1, h2⟩ := hq.2 hp
      refine ⟨v, by rw [e]; exact h1 x, bin_yields (by rw [ex]; simp) (by rw [ex]; simp) (by rw [ex, ey]; exact h2) ho⟩⟩
    split at h
    · exact key q (shf_sound h t)
    · rename_i hs
      split at h
      · rename_i hk
        subst hk
        exact key q (binI_sound h (by simpa using hs) t)
      · cases h
  · rename_i a b
    have ex := rs_str hx
    have ey := rs_str hy
    obtain ⟨h1, h2⟩ := binS_sound (P := P) h t
    refine ⟨h1, fun hp => ?_⟩
    obtain ⟨c, e, v, h1, h2⟩ := h2 hp
    exact ⟨v, by rw [e]; exact h1 x, bin_yields (by rw [ex]; simp) (by rw [ex]; simp) (by rw [ex, ey]; exact h2) ho⟩
  · cases h

theorem unV_sound {x : Cx} {op : UnOp} {s : SV} {q : Q} {t : TypeId} {X : Operand} {ρ : Operand → Value} {w : World} (h : unV op s = some q)
    (hx : RS x s (ρ X)) {o : Oper} (ho : o.op = .unOp op t X) : OP q.hyp ∧ (OP q.pre → ∃ v, RS x q.v v ∧ Yields P w v (execOp ρ o)) := by
  unfold unV at h
  split at h
  · have ex := rs_bool hx
    split at h
    · cases h
      exact ⟨trivial, fun _ => ⟨_, rfl, fun w' _ => by simp [execOp, ho, ex, Op.unary, BE.not_v]⟩⟩
    · cases h
  · have ex := rs_int hx
    split at h
    · cases h
      exact ⟨trivial, fun _ => ⟨_, rfl, fun w' _ => by simp [execOp, ho, ex, Op.unary, Op.intArith]⟩⟩
    · cases h
      exact ⟨trivial, fun _ => ⟨_, rfl, fun w' _ => by simp [execOp, ho, ex, Op.unary, intBits_xor]⟩⟩
    · cases h
  · cases h

theorem tk_int {t : TypeId} {k : IntKind} (h : tkIs P t (.int k) = true) : P.underlying t = some (.int k) := by
  simp only [tkIs] at h
  split at h
  · rename_i k' hu; simp at h; subst h; exact hu
  · cases h
theorem tk_str {t : TypeId} (h : tkIs P t .str = true) : P.underlying t = some .string := by
  simp only [tkIs] at h
  split at h
  · rename_i hu; exact hu
  · cases h
theorem tk_slice {t e : TypeId} (h : tkIs P t (.slice e) = true) : P.underlying t = some (.slice e) := by
  simp only [tkIs] at h
  split at h
  · rename_i e' hu; simp at h; rw [h.1]; exact hu
  · cases h
theorem tk_array {t e : TypeId} {n : Nat} (h : tkIs P t (.array n e) = true) : P.underlying t = some (.array n e) := by
  simp only [tkIs] at h
  split at h
  · rename_i n' e' hu; simp at h; rw [h.1, h.2]; exact hu
  · cases h
theorem tk_bool {t : TypeId} (h : tkIs P t .bool = true) : P.underlying t = some .bool := by
  simp only [tkIs] at h
  split at h
  · rename_i hu; exact hu
  · cases h
theorem tk_strct {t : TypeId} {fs : List (Nat × Nat × Bool)} (h : tkIs P t (.strct fs) = true) : ∃ fl, P.underlying t = some (.struct fl) ∧ fldIs P fs fl.toList = true := by
  simp only [tkIs] at h
  split at h
  · rename_i fl hu; exact ⟨fl, hu, h⟩
  · cases h

theorem und_run {t : TypeId} {d : TypeDesc} (h : P.underlying t = some d) (w : World) : (underlying t).run P w = .ok d w := run_underlying h w

theorem eqB_sound {ti : Nat → Option TI} (ht : TabOk P ti) {x : Cx} {op : BinOp} {s s' : SV} {q : Q} {t u : TypeId} {X Y : Operand} {ρ : Operand → Value} {w : World} (h : eqB op (ti t) s s' = some q)
    (hx : RS x s (ρ X)) (hy : RS x s' (ρ Y)) {o : Oper} (ho : o.op = .binOp op t X Y u) : OP q.hyp ∧ (OP q.pre → ∃ v, RS x q.v v ∧ Yields P w v (execOp ρ o)) := by
  unfold eqB at h
  split at h
  · rename_i a b
    have ex := rs_bool hx
    have ey := rs_bool hy
    split at h
    · rename_i hi
      have hu := tk_bool (ht.is hi).tk
      have he : ∀ w, (Op.equal t (.bool a.v) (.bool b.v)).run P w = .ok (a.v == b.v) w := by
        intro w
        show (Op.equalIn (9999 + 1) t (.bool a.v) (.bool b.v)).run P w = _
        unfold Op.equalIn
        simp only [Sem.run_bind, und_run hu, Result.andThen_ok, Sem.run_pure]
      split at h
      · cases h
        exact ⟨trivial, fun _ => ⟨_, rfl, bin_yields (by rw [ex]; simp) (by rw [ex]; simp) (fun w => by rw [ex, ey]; simp only [binOp, Sem.run_bind, he, Result.andThen_ok]; rfl) ho⟩⟩
      · cases h
        exact ⟨trivial, fun _ => ⟨_, rfl, bin_yields (by rw [ex]; simp) (by rw [ex]; simp) (fun w => by rw [ex, ey]; simp only [binOp, Sem.run_bind, he, Result.andThen_ok]; rfl) ho⟩⟩
      · cases h
    · cases h
  · cases h

theorem tk_ptr {t e : TypeId} (h : tkIs P t (.ptr e) = true) : P.underlying t = some (.pointer e) := by
  simp only [tkIs] at h
  split at h
  · rename_i e' hu; simp at h; subst h; exact hu
  · cases h
theorem nilB_sound {ti : Nat → Option TI} (ht : TabOk P ti) {x : Cx} {op : BinOp} {s s' : SV} {q : Q} {t u : TypeId} {X Y : Operand} {ρ : Operand → Value} {w : World} (h : nilB op (ti t) s s' = some q)
    (hx : RS x s (ρ X)) (hy : RS x s' (ρ Y)) {o : Oper} (ho : o.op = .binOp op t X Y u) : OP q.hyp ∧ (OP q.pre → ∃ v, RS x q.v v ∧ Yields P w v (execOp ρ o)) := by
  unfold nilB at h
  split at h
  · rename_i e _ _ _ _ hi
    have hu := tk_ptr (ht.is hi).tk
    split at h
    · rename_i b hb
      have key : ∃ a c : Option Addr, ρ X = .pointer a ∧ ρ Y = .pointer c ∧ ∀ w, (Op.equal t (.pointer a) (.pointer c)).run P w = .ok b w := by
        have nn : ∀ (c : Option Addr) w, (Op.equal t (.pointer none) (.pointer c)).run P w = .ok c.isNone w := by
          intro c w
          show (Op.equalIn (9999 + 1) t (.pointer none) (.pointer c)).run P w = _
          unfold Op.equalIn
          simp only [Sem.run_bind, und_run hu, Result.andThen_ok, Sem.run_pure]
        have sn : ∀ (a : Addr) w, (Op.equal t (.pointer (some a)) (.pointer none)).run P w = .ok false w := by
          intro a w
          show (Op.equalIn (9999 + 1) t (.pointer (some a)) (.pointer none)).run P w = _
          unfold Op.equalIn
          simp only [Sem.run_bind, und_run hu, Result.andThen_ok, Sem.run_pure]
        unfold nlB at hb
        split at hb
        · cases hb; obtain ⟨_, k, _, e1⟩ := hx; obtain ⟨e2, _⟩ := hy; exact ⟨_, _, e1, e2, fun w => sn _ w⟩
        · cases hb; obtain ⟨_, k, _, e1⟩ := hy; obtain ⟨e2, _⟩ := hx; exact ⟨_, _, e2, e1, fun w => nn _ w⟩
        · cases hb; obtain ⟨_, _, _, _, _, _, e1, _⟩ := hx; obtain ⟨e2, _⟩ := hy; exact ⟨_, _, e1, e2, fun w => sn _ w⟩
        · cases hb; obtain ⟨_, _, _, _, _, _, e1, _⟩ := hy; obtain ⟨e2, _⟩ := hx; exact ⟨_, _, e2, e1, fun w => nn _ w⟩
        · cases hb; obtain ⟨e1, _⟩ := hx; obtain ⟨e2, _⟩ := hy; exact ⟨_, _, e1, e2, fun w => nn _ w⟩
        · cases hb
      obtain ⟨a, c, ex, ey, he⟩ := key
      split at h
      · split at h
        all_goals
          cases h
          exact ⟨trivial, fun _ => ⟨_, rfl, bin_yields (by rw [ex]; simp) (by rw [ex]; simp) (fun w => by rw [ex, ey]; simp only [binOp, Sem.run_bind, he, Result.andThen_ok]; rfl) ho⟩⟩
      · split at h
        all_goals
          cases h
          exact ⟨trivial, fun _ => ⟨_, rfl, bin_yields (by rw [ex]; simp) (by rw [ex]; simp) (fun w => by rw [ex, ey]; simp only [binOp, Sem.run_bind, he, Result.andThen_ok]; rfl) ho⟩⟩
      · cases h
    · cases h
  · cases h

theorem convV_sound {ti : Nat → Option TI} (ht : TabOk P ti) {x : Cx} {s : SV} {q : Q} {a d : TypeId} {X : Operand} {ρ : Operand → Value} {w : World} (h : convV (ti a) (ti d) s = some q)
    (hx : RS x s (ρ X)) {o : Oper} (ho : o.op = .convert a d X) : OP q.hyp ∧ (OP q.pre → ∃ v, RS x q.v v ∧ Yields P w v (execOp ρ o)) := by
  unfold convV at h
  split at h
  · have ex := rs_int hx
    split at h
    · rename_i h1 h2
      cases h
      have u1 := tk_int (ht.is h1).tk
      have u2 := tk_int (ht.is h2).tk
      exact ⟨trivial, fun _ => ⟨_, rfl, fun w' _ => by simp [execOp, ho, ex, convert, und_run u1, und_run u2, Conv.intToInt]⟩⟩
    · cases h
  · have ex := rs_str hx
    split at h
    · rename_i h1 h2
      cases h
      have u1 := tk_str (ht.is h1).tk
      have u2 := tk_str (ht.is h2).tk
      exact ⟨trivial, fun _ => ⟨_, rfl, fun w' _ => by simp [execOp, ho, ex, convert, und_run u1, und_run u2]⟩⟩
    · cases h
  · cases h

theorem extV_sound {x : Cx} {i : Nat} {s : SV} {q : Q} {X : Operand} {ρ : Operand → Value} {w : World} (h : extV i s = some q)
    (hx : RS x s (ρ X)) {o : Oper} (ho : o.op = .extract X i) : OP q.hyp ∧ (OP q.pre → ∃ v, RS x q.v v ∧ Yields P w v (execOp ρ o)) := by
  unfold extV at h
  split at h
  · rename_i l
    obtain ⟨vs, ex, hl⟩ := hx
    have run : ∀ u, vs[i]? = some u → Yields P w u (execOp ρ o) := fun u hu w' _ => by
      simp [execOp, ho, ex, Instr.extract, hu]
    split at h
    · rename_i cs hi
      cases h
      obtain ⟨u, h1, h2⟩ := RL.get hl hi
      simp only [RP, if_true] at h2
      exact ⟨trivial, fun _ => ⟨u, h2, run u (by simpa using h1)⟩⟩
    · rename_i c hi
      cases h
      obtain ⟨u, h1, h2⟩ := RL.get hl hi
      simp only [RP, Bool.false_eq_true, if_false] at h2
      obtain ⟨y, e, h2⟩ := h2
      simp at e
      subst e
      exact ⟨trivial, fun _ => ⟨u, h2, run u (by simpa using h1)⟩⟩
    · cases h
  · cases h

/-! ### loads -/

theorem run_load_cell {w : World} {a : Addr} {v : Value} (h : w.cell? a = some v) : (load a).run P w = .ok v w := by simp [h]

theorem run_loadCells_run {w : World} {a : Addr} {cs : List Value} (h : ∀ j v, cs[j]? = some v → w.cell? (a.add j) = some v) :
    (loadCells a cs.length).run P w = .ok cs.toArray w := run_loadCells_list w a cs h

theorem cell_of {w : World} {k o : Nat} {cells : Array Value} {T : TypeId} {fz : Nat × Nat} (h : w.heap[k]? = some (.cells cells T fz)) : w.cell? ⟨k, o, none⟩ = cells[o]? := by
  simp [World.cell?, h]

theorem add_plain' (k o j : Nat) : (⟨k, o, none⟩ : Addr).add j = ⟨k, o + j, none⟩ := by
  unfold Addr.add
  split <;> simp_all

/-- a load of a type from an address whose cells are known -/
theorem run_loadVar {ti : Nat → Option TI} (ht : TabOk P ti) {x : Cx} {t : TypeId} {i : TI} (hi : ti t = some i) {l : List C} {o : Nat} {q : Q} (hq : ldV i l o = some q)
    {w : World} {k p : Nat} {T : TypeId} {fz : Nat × Nat} {cells : Array Value} {vs : List Value} (hb : w.heap[k]? = some (.cells cells T fz))
    (hl : RL (RC x) l vs) (hv : ∀ j v, vs[j]? = some v → cells[p + j]? = some v) :
    OP q.hyp ∧ (OP q.pre ↔ True) ∧ ∃ v, RS x q.v v ∧ ∀ w', w'.heap[k]? = w.heap[k]? → (loadVar t ⟨k, p + o, none⟩).run P w' = .ok v w' := by
  have is := ht.is hi
  obtain ⟨u, hu, hag⟩ := is.agg
  obtain ⟨j, hj, hsz, _⟩ := is.info
  unfold ldV at hq
  have hisAgg : ∀ w', (isAgg t).run P w' = .ok i.tk.agg w' := fun w' => by
    unfold isAgg
    simp only [Sem.run_bind, und_run hu, Result.andThen_ok]
    rw [← hag]
    cases u <;> rfl
  have hsize : ∀ w', (Go.sizeOf t).run P w' = .ok i.sz w' := fun w' => by simp [Go.sizeOf, typeInfo, hj, hsz]
  split at hq
  · rename_i ha
    split at hq
    · rename_i hle
      cases hq
      refine ⟨trivial, Iff.rfl, .agg ((vs.drop o).take i.sz).toArray, ⟨_, rfl, ?_⟩, fun w' hw' => ?_⟩
      · simpa using RL.take i.sz (RL.drop o hl)
      · have hlen : ((vs.drop o).take i.sz).length = i.sz := by
          rw [List.length_take, List.length_drop, ← RL.len hl]; omega
        have hc : ∀ (j : Nat) v, ((vs.drop o).take i.sz)[j]? = some v → w'.cell? ((⟨k, p + o, none⟩ : Addr).add j) = some v := by
          intro j v hjv
          rw [add_plain', cell_of (hw'.trans hb), Nat.add_assoc]
          apply hv
          rw [List.getElem?_take] at hjv
          split at hjv
          · simpa using hjv
          · cases hjv
        have := run_loadCells_run (P := P) (w := w') (a := ⟨k, p + o, none⟩) hc
        rw [hlen] at this
        simp [loadVar, hisAgg, ha, hsize, this]
    · cases hq
  · rename_i ha
    split at hq
    · rename_i c hc
      cases hq
      obtain ⟨v, h1, h2⟩ := RL.get hl hc
      refine ⟨trivial, Iff.rfl, v, h2, fun w' hw' => ?_⟩
      have : w'.cell? ⟨k, p + o, none⟩ = some v := by rw [cell_of (hw'.trans hb)]; exact hv _ _ h1
      have ha' : i.tk.agg = false := by simpa using ha
      simp [loadVar, hisAgg, ha', this]
    · cases hq

/-- a datum's abstract cells stand for its cells -/
theorem rl_cs {x : Cx} : ∀ {d : D} {y : d.T} {cs : List Value}, Rd x.w x.ok d y cs → RL (RC x) (d.cs y) cs
  | .int _, _, _, h => by simp only [Rd] at h; subst h; exact ⟨rfl, trivial⟩
  | .bool, _, _, h => by simp only [Rd] at h; subst h; exact ⟨rfl, trivial⟩
  | .str, _, _, h => by simp only [Rd] at h; subst h; exact ⟨rfl, trivial⟩
  | .pair a b, _, _, h => by
    simp only [Rd] at h
    obtain ⟨c1, c2, rfl, h1, h2⟩ := h
    exact RL.app (rl_cs h1) (rl_cs h2)
  | .list a, _, _, h => by
    have h' := h
    simp only [Rd] at h
    obtain ⟨A, c, rfl, _⟩ := h
    exact ⟨h', trivial⟩

theorem gt_get {d : D} {xs : List d.T} {j : Int} (h0 : 0 ≤ j) (h1 : j < xs.length) : xs[j.toNat]? = some (gt xs j) := by
  have hlt : j.toNat < xs.length := by omega
  simp [gt, hlt]

theorem run_loadAt {t : TypeId} {k o : Nat} {w : World} {r : Result Value} (h : (loadVar t ⟨k, o, none⟩).run P w = r) : (Instr.loadAt t (.pointer (some ⟨k, o, none⟩))).run P w = r := by
  simpa [Instr.loadAt, Instr.sureAddr] using h

theorem heap_below {w w' : World} (h : Below w.heap.size w w') {k : Nat} {o : Obj} (hk : w.heap[k]? = some o) : w'.heap[k]? = w.heap[k]? :=
  h.block k (Array.getElem?_eq_some_iff.1 hk).1

theorem loadV_sound {ti : Nat → Option TI} (ht : TabOk P ti) {w0 : W0} {hp hq : List (Nat × Ob)} {nx : Nat → Prop} {η : Nat → Option Nat × Value} {w : World} (hH : RepH w0 hp nx η w) (hs : ∀ b o, lk hq b = some o → lk hp b = some o) {t : TypeId} {s : SV} {q : Q}
    {X : Operand} {ρ : Operand → Value} (h : loadV (ti t) hq s = some q) (hx : RS (cxS w0 hp nx η w) s (ρ X)) {o : Oper} (ho : o.op = .load t X) :
    OP q.hyp ∧ (OP q.pre → ∃ v, RS (cxS w0 hp nx η w) q.v v ∧ Yields P w v (execOp ρ o)) := by
  have run : ∀ k p v, ρ X = .pointer (some ⟨k, p, none⟩) → (∃ ob, w.heap[k]? = some ob) → (∀ w', w'.heap[k]? = w.heap[k]? → (loadVar t ⟨k, p, none⟩).run P w' = .ok v w') → Yields P w v (execOp ρ o) :=
    fun k p v e ⟨ob, hob⟩ hr w' hw' => by simp [execOp, ho, e, run_loadAt (hr w' (heap_below hw' hob))]
  unfold loadV at h
  split at h
  · rename_i b off
    obtain ⟨hb, k, hk, e⟩ := hx
    split at h
    · rename_i i T l hi hlk
      obtain ⟨k', vs, h1, h2, h3⟩ := hH.obs b _ (hs _ _ hlk)
      have hkk : k' = k := by have : some k' = some k := h1.symm.trans hk; simpa using this
      subst hkk
      obtain ⟨g1, g2, v, g3, g4⟩ := run_loadVar ht hi h h2 (p := 0) h3 (fun j v hj => by simpa using hj)
      rw [Nat.zero_add] at g4
      exact ⟨g1, fun _ => ⟨v, g3, run _ _ v e ⟨_, h2⟩ g4⟩⟩
    · cases h
  · rename_i d y off
    obtain ⟨k, p, cells, T, fz, cs, e, hok, hb, hr, hcs⟩ := hx
    split at h
    · rename_i i hi
      obtain ⟨g1, g2, v, g3, g4⟩ := run_loadVar ht hi h hb (p := p) (rl_cs hr) (fun j v hj => by
        rw [← hcs, List.getElem?_take] at hj
        split at hj
        · simpa using hj
        · cases hj)
      exact ⟨g1, fun _ => ⟨v, g3, run _ _ v e ⟨_, hb⟩ g4⟩⟩
    · cases h
  · rename_i b j sz off
    obtain ⟨hb, k, hk, e⟩ := hx
    split at h
    · rename_i i T d xs hi hlk
      split at h
      · rename_i hsz
        split at h
        · rename_i q' hq'
          cases h
          refine ⟨trivial, fun hp => ?_⟩
          simp only [OP_some] at hp
          obtain ⟨cs, r1, r2, r3⟩ := hH.obs b _ (hs _ _ hlk)
          rcases r2.2 with ⟨_, hn⟩ | ⟨g, cap, cur, hv, _, hg, hc1, hc2, hc3, hc4⟩
          · omega
          · have hgk : g = k := by
              rw [hv] at r1
              have : some k = some g := hk.symm.trans r1
              simpa using this.symm
            subst hgk
            have hget := RdF.get (fun _ _ => Rd.len) r3 (gt_get hp.1 hp.2)
            obtain ⟨g1, g2, v, g3, g4⟩ := run_loadVar ht hi hq' hg (p := j.toNat * sz) (rl_cs hget) (fun i v hi => by
              rw [List.getElem?_take] at hi
              split at hi
              · rw [List.getElem?_drop, ← hc4, List.getElem?_take] at hi
                split at hi
                · rw [hsz]; simpa using hi
                · cases hi
              · cases hi)
            exact ⟨v, g3, run _ _ v e ⟨_, hg⟩ g4⟩
        · cases h
      · cases h
    · rename_i i T d xs c0 hi hlk
      split at h
      · rename_i hsz
        split at h
        · rename_i q' hq'
          cases h
          refine ⟨trivial, fun hp => ?_⟩
          simp only [OP_some] at hp
          obtain ⟨k3, cur, hk3, hg, hcs, hlc, hcm', hf⟩ := hH.obs b _ (hs _ _ hlk)
          have hgk : k3 = k := by have : some k3 = some k := hk3.symm.trans hk; simpa using this
          subst hgk
          have hget := RdF.get (fun _ _ => Rd.len) hf (gt_get hp.1 hp.2)
          obtain ⟨g1, g2, v, g3, g4⟩ := run_loadVar ht hi hq' hg (p := j.toNat * sz) (rl_cs hget) (fun i v hi => by
            rw [List.getElem?_take] at hi
            split at hi
            · rw [List.getElem?_drop, List.getElem?_take] at hi
              split at hi
              · rw [hsz]; simpa using hi
              · cases hi
            · cases hi)
          exact ⟨v, g3, run _ _ v e ⟨_, hg⟩ g4⟩
        · cases h
      · cases h
    · cases h
  · cases h

/-! ### addresses of fields and elements -/

theorem fld_get : ∀ {fs : List (Nat × Nat × Bool)} {gs : List Field} {i o s : Nat} {ag : Bool}, fldIs P fs gs = true → fs[i]? = some (o, s, ag) →
    ∃ g, gs[i]? = some g ∧ g.offset = o ∧ 0 < s ∧ (∃ j, P.info? g.type = some j ∧ j.size = s) ∧ ∃ u, P.underlying g.type = some u ∧ isAggD (some u) = ag
  | [], _, _, _, _, _, _, hi => by simp at hi
  | _ :: _, [], _, _, _, _, h, _ => by simp [fldIs] at h
  | (o', s', ag') :: fs, g :: gs, 0, o, s, ag, h, hi => by
    simp only [List.getElem?_cons_zero, Option.some.injEq, Prod.mk.injEq] at hi
    obtain ⟨rfl, rfl, rfl⟩ := hi
    simp only [fldIs, Bool.and_eq_true, beq_iff_eq, decide_eq_true_eq] at h
    obtain ⟨⟨⟨⟨⟨⟨h1, h2⟩, h3⟩, h4⟩, h5⟩, h6⟩, h7⟩ := h
    obtain ⟨j, hj⟩ := Option.isSome_iff_exists.1 h3
    obtain ⟨u, hu⟩ := Option.isSome_iff_exists.1 h4
    refine ⟨g, rfl, h1, h6, ⟨j, hj, by simpa [Program.cellsOf, hj] using h2⟩, u, hu, by rw [← h5, hu]⟩
  | (_, _, _) :: fs, g :: gs, i + 1, o, s, ag, h, hi => by
    simp only [fldIs, Bool.and_eq_true] at h
    simpa using fld_get h.2 (by simpa using hi)

theorem run_fieldAt {ti : Nat → Option TI} (ht : TabOk P ti) {t : TypeId} {fs : List (Nat × Nat × Bool)} {s b : Nat} {z : List C} {dd : D} (hi : ti t = some ⟨.strct fs, s, b, z, dd⟩) {f o' s' : Nat} {ag : Bool}
    (hf : fs[f]? = some (o', s', ag)) (k p : Nat) (w : World) : (Instr.fieldAt t (.pointer (some ⟨k, p, none⟩)) f).run P w = .ok (.pointer (some ⟨k, p + o', none⟩)) w := by
  obtain ⟨fl, hu, hfl⟩ := tk_strct (ht.is hi).tk
  obtain ⟨g, hg, ho, hs, ⟨j, hj, hjs⟩, _⟩ := fld_get hfl hf
  have hg' : fl[f]? = some g := by simpa using hg
  have h0 : ¬ s' = 0 := by omega
  simp [Instr.fieldAt, und_run hu, hg', Instr.sureAddr, fieldPlace, Go.sizeOf, typeInfo, hj, hjs, h0, add_plain', ho]

theorem fadV_sound {ti : Nat → Option TI} (ht : TabOk P ti) {x : Cx} {t : TypeId} {f : Nat} {s : SV} {q : Q} {X : Operand} {ρ : Operand → Value} {w : World} (h : fadV (ti t) f s = some q)
    (hx : RS x s (ρ X)) {o : Oper} (ho : o.op = .fieldAddr t X f) : OP q.hyp ∧ (OP q.pre → ∃ v, RS x q.v v ∧ Yields P w v (execOp ρ o)) := by
  unfold fadV at h
  split at h
  · rename_i b off
    obtain ⟨hb, k, hk, e⟩ := hx
    split at h
    · rename_i fs _ _ _ _ hi
      split at h
      · rename_i o' _ _ hf
        cases h
        exact ⟨trivial, fun _ => ⟨_, ⟨hb, k, hk, rfl⟩, fun w' _ => by simp [execOp, ho, e, run_fieldAt ht hi hf]⟩⟩
      · cases h
    · cases h
  · rename_i d y off
    obtain ⟨k, p, cells, T, fz, cs, e, hr⟩ := hx
    split at h
    · rename_i fs _ _ _ _ hi
      split at h
      · rename_i o' _ _ hf
        cases h
        exact ⟨trivial, fun _ => ⟨_, ⟨k, p, cells, T, fz, cs, rfl, hr⟩, fun w' _ => by simp [execOp, ho, e, run_fieldAt ht hi hf, Nat.add_assoc]⟩⟩
      · cases h
    · cases h
  · rename_i b j sz off
    obtain ⟨hb, k, hk, e⟩ := hx
    split at h
    · rename_i fs _ _ _ _ hi
      split at h
      · rename_i o' _ _ hf
        cases h
        exact ⟨trivial, fun _ => ⟨_, ⟨hb, k, hk, rfl⟩, fun w' _ => by simp [execOp, ho, e, run_fieldAt ht hi hf, Nat.add_assoc]⟩⟩
      · cases h
    · cases h
  · cases h

theorem run_part {t : TypeId} {u : TypeDesc} {s : Nat} {j : TypeInfo} (hu : P.underlying t = some u) (hj : P.info? t = some j) (hs : j.size = s) (cs : Array Value) (o : Nat) (w : World) :
    (part t cs o).run P w = if isAggD (some u) = true then .ok (.agg (cs.extract o (o + s))) w else match cs[o]? with | some v => .ok v w | none => .halt (.stuck "part: no such cell") w := by
  have h1 : (isAgg t).run P w = .ok (isAggD (some u)) w := by
    unfold isAgg
    simp only [Sem.run_bind, und_run hu, Result.andThen_ok]
    cases u <;> rfl
  have h2 : (Go.sizeOf t).run P w = .ok s w := by simp [Go.sizeOf, typeInfo, hj, hs]
  simp only [part, Sem.run_bind, h1, Result.andThen_ok, Sem.run_ite]
  split
  · simp [h2]
  · cases cs[o]? <;> rfl

theorem fldV_sound {ti : Nat → Option TI} (ht : TabOk P ti) {x : Cx} {t : TypeId} {f : Nat} {s : SV} {q : Q} {X : Operand} {ρ : Operand → Value} {w : World} (h : fldV (ti t) f s = some q)
    (hx : RS x s (ρ X)) {o : Oper} (ho : o.op = .field t X f) : OP q.hyp ∧ (OP q.pre → ∃ v, RS x q.v v ∧ Yields P w v (execOp ρ o)) := by
  unfold fldV at h
  split at h
  · rename_i l
    obtain ⟨vs, e, hl⟩ := hx
    split at h
    · rename_i fs _ _ _ _ hi
      obtain ⟨fl, hu, hfl⟩ := tk_strct (ht.is hi).tk
      have step : ∀ {o' s' : Nat} {ag : Bool} (v : Value), fs[f]? = some (o', s', ag) → (if ag = true then v = .agg (vs.extract o' (o' + s')) else vs[o']? = some v) → Yields P w v (execOp ρ o) := by
        intro o' s' ag v hf hv w' _
        obtain ⟨g, hg, hgo, hs, ⟨j, hj, hjs⟩, u, hgu, hag⟩ := fld_get hfl hf
        have hg' : fl[f]? = some g := by simpa using hg
        have hp := run_part hgu hj hjs vs g.offset w'
        rw [hag, hgo] at hp
        cases ag with
        | true => simp at hv hp; simp [execOp, ho, e, Instr.field, und_run hu, hg', asAgg, hgo, hp, hv]
        | false => simp at hv hp; simp [execOp, ho, e, Instr.field, und_run hu, hg', asAgg, hgo, hp, hv]
      split at h
      · rename_i o' s' hf
        split at h
        · cases h
          refine ⟨trivial, fun _ => ⟨_, ⟨vs.extract o' (o' + s'), rfl, ?_⟩, step _ hf (by simp)⟩⟩
          have := RL.take s' (RL.drop o' hl)
          simpa [List.take_drop, Nat.add_comm] using this
        · cases h
      · rename_i o' s' hf
        split at h
        · rename_i c hc
          cases h
          obtain ⟨v, h1, h2⟩ := RL.get hl hc
          exact ⟨trivial, fun _ => ⟨v, h2, step v hf (by simpa using h1)⟩⟩
        · cases h
      · cases h
    · cases h
  · cases h

theorem idxV_sound {ti : Nat → Option TI} (ht : TabOk P ti) {x : Cx} {t : TypeId} {s s' : SV} {q : Q} {X Y : Operand} {ρ : Operand → Value} {w : World} (h : idxV (ti t) s s' = some q)
    (hx : RS x s (ρ X)) (hy : RS x s' (ρ Y)) {o : Oper} (ho : o.op = .index t X Y) : OP q.hyp ∧ (OP q.pre → ∃ v, RS x q.v v ∧ Yields P w v (execOp ρ o)) := by
  unfold idxV at h
  split at h
  · rename_i s k j
    have ex := rs_str hx
    have ey := rs_int hy
    split at h
    · rename_i hi
      cases h
      have hu := tk_str (ht.is hi).tk
      refine ⟨trivial, fun hp => ⟨_, rfl, fun w' _ => ?_⟩⟩
      simp only [OP_some] at hp
      have hlt : j.toNat < s.length := by omega
      have hb : (if 0 ≤ j then (ByteArray.mk s.toArray)[j.toNat]? else none) = some (s[j.toNat]'hlt) := by
        rw [if_pos hp.1]
        have : j.toNat < (ByteArray.mk s.toArray).size := by simpa [ByteArray.size] using hlt
        rw [getElem?_pos (ByteArray.mk s.toArray) j.toNat this]
        rfl
      have e2 : (s[j.toNat]? : Option UInt8) = some (s[j.toNat]'hlt) := List.getElem?_eq_getElem hlt
      simp only [execOp, ho, ex, ey, Instr.index, asIntOf, pure_bind, Sem.run_bind, und_run hu, Result.andThen_ok, hb, Sem.run_pure, bt, List.getD, e2, Option.getD_some]
    · cases h
  · cases h

theorem run_indexAt {t e : TypeId} {n c : Nat} {a : Addr} {j : Int} {kk : IntKind} {s : Nat} {i : TypeInfo} (hu : P.underlying t = some (.slice e)) (hi : P.info? e = some i) (hs : i.size = s)
    (h0 : 0 ≤ j) (h1 : j < n) (w : World) : (Instr.indexAt t (.slice (some a) n c) (.int kk j)).run P w = .ok (.pointer (some (a.add (j.toNat * s)))) w := by
  simp [Instr.indexAt, und_run hu, asIntOf, h0, h1, Go.sizeOf, typeInfo, hi, hs]

theorem sz_some {ti : Nat → Option TI} {e s : Nat} (h : sz? ti e = some s) : ∃ i, ti e = some i ∧ i.sz = s := by
  unfold sz? at h
  split at h
  · rename_i i hi; cases h; exact ⟨i, hi, rfl⟩
  · cases h

theorem run_arrAt {t e : TypeId} {n j s k p : Nat} {kk : IntKind} {i : TypeInfo} (hu : P.underlying t = some (.array n e)) (hi : P.info? e = some i) (hs : i.size = s)
    (h1 : j < n) (w : World) : (Instr.indexAt t (.pointer (some ⟨k, p, none⟩)) (.int kk (Int.ofNat j))).run P w = .ok (.pointer (some ⟨k, p + j * s, none⟩)) w := by
  have h0 : (0 : Int) ≤ (j : Int) := by omega
  simp [Instr.indexAt, h1, und_run hu, asIntOf, Go.sizeOf, typeInfo, hi, hs, Instr.sureAddr, add_plain']

theorem arrV_run {ti : Nat → Option TI} (ht : TabOk P ti) {t : TypeId} {j : Int} {p : Nat} (h : arrV ti t j = some p) (k o : Nat) (kk : IntKind) (w : World) :
    (Instr.indexAt t (.pointer (some ⟨k, o, none⟩)) (.int kk j)).run P w = .ok (.pointer (some ⟨k, o + p, none⟩)) w := by
  unfold arrV at h
  split at h
  · split at h
    · rename_i j n e _ _ _ _ hi
      split at h
      · rename_i s hs
        split at h
        · rename_i hlt
          cases h
          have hu := tk_array (ht.is hi).tk
          obtain ⟨i, hi', rfl⟩ := sz_some hs
          obtain ⟨j', hj1, hj2, _⟩ := (ht.is hi').info
          rw [← hj2]
          exact run_arrAt hu hj1 rfl hlt w
        · cases h
      · cases h
    · cases h
  · cases h

theorem maxLen_eq : maxLen = 9223372036854775807 := rfl

theorem iadV_sound {ti : Nat → Option TI} (ht : TabOk P ti) {w0 : W0} {hp hq : List (Nat × Ob)} {nx : Nat → Prop} {η : Nat → Option Nat × Value} {w : World} (hH : RepH w0 hp nx η w) (hs : ∀ b o, lk hq b = some o → lk hp b = some o) {t : TypeId} {s s' : SV} {q : Q}
    {X Y : Operand} {ρ : Operand → Value} (h : iadV ti t hq s s' = some q) (hx : RS (cxS w0 hp nx η w) s (ρ X)) (hy : RS (cxS w0 hp nx η w) s' (ρ Y)) {o : Oper} (ho : o.op = .indexAddr t X Y) :
    OP q.hyp ∧ (OP q.pre → ∃ v, RS (cxS w0 hp nx η w) q.v v ∧ Yields P w v (execOp ρ o)) := by
  unfold iadV at h
  split at h
  · rename_i d xs kk j
    have ey := rs_int hy
    have hx' : Rd w (okS w0 hp η w) (.list d) xs [ρ X] := hx
    simp only [Rd] at hx'
    obtain ⟨A, c, e, hc, hm, hn, hr⟩ := hx'
    simp only [List.cons.injEq, and_true] at e
    split at h
    · rename_i e' _ _ _ _ hi
      have hu := tk_slice (ht.is hi).tk
      split at h
      · rename_i hsz
        cases h
        obtain ⟨ie, hie, hie2⟩ := sz_some hsz
        obtain ⟨j', hj', hj2, _⟩ := (ht.is hie).info
        refine ⟨by simp only [maxLen_eq] at hm; simp only [OP_some]; omega, fun hp => ?_⟩
        simp only [OP_some] at hp
        rcases hr with hr | ⟨k, off, cells, T, fz, hA, hok, hb, hf⟩
        · subst hr; simp at hp; omega
        · subst hA
          have hget := RdF.get (fun _ _ => Rd.len) hf (gt_get hp.1 hp.2)
          refine ⟨.pointer (some ⟨k, off + j.toNat * d.sz + 0, none⟩), ⟨k, off + j.toNat * d.sz, cells, T, fz, _, rfl, hok, hb, hget, ?_⟩, fun w' _ => ?_⟩
          · have hlt : j.toNat < xs.length := by omega
            have : (j.toNat + 1) * d.sz ≤ xs.length * d.sz := Nat.mul_le_mul_right _ (by omega)
            rw [List.drop_take, List.drop_drop, List.take_take]
            congr 1
            rw [Nat.add_mul] at this
            omega
          · simp [execOp, ho, e, ey, run_indexAt hu hj' hj2 hp.1 hp.2, add_plain', hie2]
      · cases h
    · cases h
  · rename_i b kk j
    have ey := rs_int hy
    obtain ⟨hb, e, _⟩ := hx
    split at h
    · rename_i e' _ _ _ _ _ d xs hi hlk
      have hu := tk_slice (ht.is hi).tk
      split at h
      · rename_i hsz
        cases h
        obtain ⟨ie, hie, hie2⟩ := sz_some hsz
        obtain ⟨j', hj', hj2, _⟩ := (ht.is hie).info
        obtain ⟨cs, r1, r2, r3⟩ := hH.obs b _ (hs _ _ hlk)
        rcases r2.2 with ⟨hv, hn⟩ | ⟨g, cap, cur, hv, _, hg, hc1, hc2, hc3, hc4⟩
        · refine ⟨by simp only [OP_some]; omega, fun hp => ?_⟩
          simp only [OP_some] at hp
          omega
        · refine ⟨by simp only [maxLen_eq] at hc2; simp only [OP_some]; omega, fun hp => ?_⟩
          simp only [OP_some] at hp
          have hv' : ρ X = .slice (some ⟨g, 0, none⟩) xs.length cap := e.trans hv
          have hk : (η b).1 = some g := by
            have : (η b).1 = (η b).2.ownBlock := r1
            rw [this]
            have hv2 : (η b).2 = .slice (some ⟨g, 0, none⟩) xs.length cap := hv
            rw [hv2]; rfl
          exact ⟨_, ⟨hb, g, hk, rfl⟩, fun w' _ => by simp [execOp, ho, hv', ey, run_indexAt hu hj' hj2 hp.1 hp.2, add_plain', hie2]⟩
      · cases h
    · cases h
  · rename_i b off kk j
    have ey := rs_int hy
    obtain ⟨hb, k, hk, e⟩ := hx
    split at h
    · rename_i T d xs c0 hlk
      split at h
      · rename_i n e' _ _ _ _ hi
        split at h
        · rename_i ho0
          have ho0 := Nat.eq_of_beq_eq_true ho0
          subst ho0
          split at h
          · rename_i hsz
            cases h
            refine ⟨trivial, fun hp => ?_⟩
            simp only [OP_some] at hp
            have hu := tk_array (ht.is hi).tk
            obtain ⟨i, hi', hi2⟩ := sz_some hsz
            obtain ⟨j', hj1, hj2, _⟩ := (ht.is hi').info
            have hjn : ((j.toNat : Nat) : Int) = j := by omega
            have hr := fun w => run_arrAt (P := P) (t := t) (kk := kk) (k := k) (p := 0) (j := j.toNat) hu hj1 (show j'.size = d.sz by rw [hj2, hi2]) (by omega) w
            refine ⟨_, ⟨hb, k, hk, rfl⟩, fun w' _ => ?_⟩
            have hr' := hr w'
            rw [show Int.ofNat j.toNat = j from hjn] at hr'
            simp only [execOp, ho, e, ey, hr', Sem.run_bind, Result.andThen_ok, Sem.run_pure, Nat.zero_add, Nat.add_zero]
          · cases h
        · cases h
      · cases h
    · split at h
      · rename_i p hp
        cases h
        exact ⟨trivial, fun _ => ⟨_, ⟨hb, k, hk, rfl⟩, fun w' _ => by simp [execOp, ho, e, ey, arrV_run ht hp]⟩⟩
      · cases h
  · rename_i b n kk j
    have ey := rs_int hy
    obtain ⟨hb, k, hk, e⟩ := hx
    split at h
    · rename_i e' _ _ _ _ hi
      have hu := tk_slice (ht.is hi).tk
      split at h
      · rename_i m
        split at h
        · rename_i hlt
          have hlt : m < n := by simpa [Nat.blt_eq] using hlt
          split at h
          · rename_i sz hsz
            cases h
            obtain ⟨ie, hie, hie2⟩ := sz_some hsz
            obtain ⟨j', hj', hj2, _⟩ := (ht.is hie).info
            exact ⟨trivial, fun _ => ⟨_, ⟨hb, k, hk, rfl⟩, fun w' _ => by simp [execOp, ho, e, ey, run_indexAt hu hj' hj2 (j := (m : Int)) (n := n) (Int.natCast_nonneg m) (Int.ofNat_lt.2 hlt), add_plain', hie2]⟩⟩
          · cases h
        · cases h
      · cases h
    · cases h
  · rename_i d y off kk j
    have ey := rs_int hy
    obtain ⟨k, q0, cells, T, fz, cs, e, hr⟩ := hx
    split at h
    · rename_i p hp
      cases h
      exact ⟨trivial, fun _ => ⟨_, ⟨k, q0, cells, T, fz, cs, rfl, hr⟩, fun w' _ => by simp [execOp, ho, e, ey, arrV_run ht hp, Nat.add_assoc]⟩⟩
    · cases h
  · rename_i b o1 sz n c kk j
    have ey := rs_int hy
    obtain ⟨hb, hnc, hcm, k, o', hk, e, ho'⟩ := hx
    split at h
    · rename_i e' _ _ _ _ hi
      have hu := tk_slice (ht.is hi).tk
      split at h
      · rename_i hsz
        cases h
        obtain ⟨ie, hie, hie2⟩ := sz_some hsz
        obtain ⟨j', hj', hj2, _⟩ := (ht.is hie).info
        refine ⟨trivial, fun hp => ?_⟩
        simp only [OP_some] at hp
        have e2 : ((o1 : Int) + j).toNat * sz + 0 = o' + j.toNat * sz := by
          rw [ho' (.inl (by omega)), show ((o1 : Int) + j).toNat = o1 + j.toNat by omega, Nat.add_mul, Nat.add_zero]
        exact ⟨_, ⟨hb, k, hk, rfl⟩, fun w' _ => by simp only [execOp, ho, e, ey, run_indexAt hu hj' hj2 hp.1 hp.2, add_plain', hie2, e2, Sem.run_bind, Result.andThen_ok, Sem.run_pure]⟩
      · cases h
    · cases h
  · cases h

end OE
