/- Several texts of the proof, one behind the other; put together by a program of the session (mrg.py). Own work. -/
import Derived.Maps.RangeRun
import Derived.Laws.StructEq
import Derived.Lib.Overlaps
import Derived.Lib.Bytealg
import Derived.Laws.BitsAllLaws
import GoSem.Claim
import Derived.OpenShut
import Derived.SizedLaws
import Derived.WideShapes
import Derived.Laws.MakeOwn
import Derived.Test.YtdhfipjfgigamaaGreatDoorPart2
/- OE, part 15: rules for operations that the run does not take by itself: range over a map, two structs told equal. Own work; generic over the program. -/
set_option linter.unusedVariables false
namespace OE
open Go Go.RowKit

/-- an operation whose run is known in each world that the state stands for -/
theorem stuck_rule {E : En} {cur : FI} {all : Array Oper} {o : Oper} {l : List Oper} {r : List It} {fr : List (Nat × SV)} {hp : List (Nat × Ob)} {nx : Nat} {stk : List Fm}
    (h : ∀ w0 η S a w, RepA w0 cur ⟨fr, hp, nx⟩ S η a w → ∃ sv v w' η' hp' nx', (execOp a.eval ⟨o.dst, o.op, o.type, o.pos, o.after, none⟩).run E.P w = .ok (.value v) w' ∧
      RepH w0 hp' (lt nx') η' w' ∧ (cxS w0 hp (lt nx) η w).le (cxS w0 hp' (lt nx') η' w') ∧ RS (cxS w0 hp' (lt nx') η' w') sv v ∧ Mean E cur (.ops all l :: r) ⟨putF cur.nt fr o.dst sv, hp', nx'⟩ stk) :
    StuckOk E cur all o l r ⟨fr, hp, nx⟩ stk := by
  refine ⟨fun w0 η S a w hS hR => ?_⟩
  obtain ⟨sv, v, w', η', hp', nx', hrun, hH, hle, hv, hm⟩ := h w0 η S a w hR
  simp only [TW, wpList, Region.wanted, if_true]
  left
  unfold Oper.wp
  rw [hrun, Oper.upon_value]
  have hR' := hR.heap hH hle
  exact hm w0 η' S _ w' hS (hR'.fr (putF_sound hR'.2.1 hv))

/-! ### two structs told equal -/

/-- types that are told equal part by part, of this kind of data -/
def eqtB (P : Program) : Nat → TypeId → D → Bool
  | 0, _, _ => false
  | n + 1, t, d => match P.underlying t with
    | some (.int k) => decide (d = .int k)
    | some .bool => decide (d = .bool)
    | some .string => decide (d = .str)
    | some (.struct fs) => (match d with | .pair _ _ => true | _ => false) && d.plain && P.cellsOf t == d.sz && !P.stoodInHeld t && fs.all (fun f => f.name != "_" && (P.info? f.type).isSome) && partsB P (eqtB P n) (fs.toList.map fun f => (f.type, f.offset)) 0 d
    | _ => false

theorem eqt_plain {P : Program} {n : Nat} {t : TypeId} {d : D} (h : eqtB P n t d = true) : d.plain = true := by
  cases n with
  | zero => simp [eqtB] at h
  | succ n =>
    unfold eqtB at h
    split at h
    · simp only [decide_eq_true_eq] at h; subst h; rfl
    · simp only [decide_eq_true_eq] at h; subst h; rfl
    · simp only [decide_eq_true_eq] at h; subst h; rfl
    · simp only [Bool.and_eq_true] at h; exact h.1.1.1.1.2
    · cases h

section
variable {P : Program} (w : World)

theorem run_part_of {n : Nat} {t : TypeId} {d : D} (h : eqtB P n t d = true) (hi : (P.info? t).isSome = true) (hsz : P.cellsOf t = d.sz) {cs : Array Value} {o : Nat} {y : d.T} (hc : (cs.toList.drop o).take d.sz = d.vs y) :
    (part t cs o).run P w = .ok (d.v y) w := by
  have hpl := eqt_plain h
  obtain ⟨j, hj⟩ := Option.isSome_iff_exists.1 hi
  have hsz' : j.size = d.sz := by
    have : P.cellsOf t = j.size := by simp [Program.cellsOf, hj]
    omega
  cases n with
  | zero => simp [eqtB] at h
  | succ n =>
    have one : d.sz = 1 → ∀ u, d.vs y = [u] → cs[o]? = some u := fun h1 u hu => by
      rw [h1, hu] at hc
      have := congrArg (fun l => l[0]?) hc
      simpa using this
    unfold eqtB at h
    split at h
    · rename_i k hu
      simp only [decide_eq_true_eq] at h; subst h
      unfold part isAgg
      simp [run_underlying hu, one rfl _ rfl, D.v]
    · rename_i hu
      simp only [decide_eq_true_eq] at h; subst h
      unfold part isAgg
      simp [run_underlying hu, one rfl _ rfl, D.v]
    · rename_i hu
      simp only [decide_eq_true_eq] at h; subst h
      unfold part isAgg
      simp [run_underlying hu, one rfl _ rfl, D.v]
    · rename_i fs hu
      simp only [Bool.and_eq_true] at h
      cases d with
      | pair a b =>
        rw [run_part hu hj hsz' cs o w, if_pos (show isAggD (some (TypeDesc.struct fs)) = true from rfl)]
        congr 1
        simp only [D.v, Value.agg.injEq]
        apply Array.ext'
        rw [← hc]
        simp [List.take_drop]
      | _ => simp at h
    · cases h

theorem eqt_fields {n m : Nat} (ih : ∀ {t : TypeId} {d : D} {x y : d.T}, eqtB P n t d = true → (Op.equalIn m t (d.v x) (d.v y)).run P w = .ok (d.eqb x y) w) :
    ∀ {fl : List Field} {p : Nat} {d : D} {x y : d.T} {xs ys : Array Value}, d.plain = true → (∀ f ∈ fl, f.name ≠ "_" ∧ (P.info? f.type).isSome = true) → partsB P (eqtB P n) (fl.map fun f => (f.type, f.offset)) p d = true →
      (xs.toList.drop p).take d.sz = d.vs x → (ys.toList.drop p).take d.sz = d.vs y → (Op.eqFields m xs ys fl).run P w = .ok (d.eqb x y) w
  | [], _, _, _, _, _, _, _, _, h, _, _ => by simp [partsB] at h
  | [f], p, d, x, y, xs, ys, hp, hf, h, hx, hy => by
    simp only [List.map_cons, List.map_nil, partsB, Bool.and_eq_true, beq_iff_eq] at h
    obtain ⟨⟨rfl, h1⟩, h2⟩ := h
    obtain ⟨f1, f2⟩ := hf f (by simp)
    simp only [Op.eqFields, ne_eq, f1, not_false_eq_true, if_true, Sem.run_bind, run_part_of w h2 f2 h1 hx, run_part_of w h2 f2 h1 hy, Result.andThen_ok, ih h2]
    cases d.eqb x y <;> simp
  | f :: g :: r, p, d, x, y, xs, ys, hp, hf, h, hx, hy => by
    simp only [List.map_cons, partsB] at h
    split at h
    · rename_i a b
      simp only [Bool.and_eq_true, beq_iff_eq] at h
      obtain ⟨⟨⟨rfl, h1⟩, h2⟩, h3⟩ := h
      simp only [D.plain, Bool.and_eq_true] at hp
      obtain ⟨f1, f2⟩ := hf f (by simp)
      have cut : ∀ {cs : List Value} {z : (D.pair a b).T}, (cs.drop f.offset).take (D.pair a b).sz = (D.pair a b).vs z → (cs.drop f.offset).take a.sz = a.vs z.1 ∧ (cs.drop (f.offset + a.sz)).take b.sz = b.vs z.2 := by
        intro cs z hc
        simp only [D.sz, D.vs, List.take_add, List.drop_drop] at hc
        have hl : ((cs.drop f.offset).take a.sz).length = (a.vs z.1).length := by
          have := congrArg List.length hc
          have ha := D.vs_len z.1 hp.1
          have hb := D.vs_len z.2 hp.2
          simp only [List.length_append, List.length_take, List.length_drop, ha, hb] at this ⊢
          have := b.sz_pos
          omega
        exact List.append_inj hc hl
      obtain ⟨x1, x2⟩ := cut hx
      obtain ⟨y1, y2⟩ := cut hy
      have := eqt_fields ih (fl := g :: r) (xs := xs) (ys := ys) hp.2 (fun q hq => hf q (List.mem_cons_of_mem _ hq)) h3 x2 y2
      rw [Op.eqFields]
      simp only [ne_eq, f1, not_false_eq_true, if_true, Sem.run_bind, run_part_of w h2 f2 h1 x1, run_part_of w h2 f2 h1 y1, Result.andThen_ok, ih h2, D.eqb]
      cases a.eqb x.1 y.1
      · simp
      · simpa using this
    · cases h

theorem run_eqt : ∀ (n : Nat) {m : Nat} {t : TypeId} {d : D} {x y : d.T}, n ≤ m → eqtB P n t d = true → (Op.equalIn m t (d.v x) (d.v y)).run P w = .ok (d.eqb x y) w
  | 0, _, _, _, _, _, _, h => by simp [eqtB] at h
  | n + 1, 0, _, _, _, _, hm, _ => by omega
  | n + 1, m + 1, t, d, x, y, hm, h => by
    have hpl := eqt_plain h
    unfold eqtB at h
    split at h
    · rename_i k hu
      simp only [decide_eq_true_eq] at h; subst h
      simp only [D.v, D.eqb]
      rw [run_equalIn_int w m t k k x y hu]
      congr 1
    · rename_i hu
      simp only [decide_eq_true_eq] at h; subst h
      simp only [D.v, D.eqb]
      rw [run_equalIn_bool' w m t x y hu]
      congr 1
    · rename_i hu
      simp only [decide_eq_true_eq] at h; subst h
      simp only [D.v, D.eqb]
      rw [run_equalIn_string w m t _ _ hu]
      congr 1
      rw [ByteArray.toList_eq, ByteArray.toList_eq]
      show (List.beq x y) = decide (x = y)
      have : ∀ a b : List UInt8, (a == b) = decide (a = b) := fun a b => by
        by_cases h : a = b
        · simp [h]
        · simp [h]
      exact this x y
    · rename_i fs hu
      simp only [Bool.and_eq_true, beq_iff_eq, Bool.not_eq_true', Array.all_eq_true_iff_forall_mem, bne_iff_ne] at h
      obtain ⟨⟨⟨⟨⟨h1, h2⟩, h3⟩, h4⟩, h5⟩, h6⟩ := h
      have hfo : P.fieldsOf t = fs := by simp [Program.fieldsOf, hu]
      cases d with
      | pair a b =>
        simp only [D.v]
        rw [run_equalIn_struct w m t _ _ (by rw [hfo]; exact hu) h4, hfo]
        refine eqt_fields w (n := n) (fun h => run_eqt n (by omega) h) hpl (fun f hf => by simpa using h5 f (by simpa using hf)) h6 ?_ ?_
        · rw [List.drop_zero, ← D.vs_len x hpl]; simp
        · rw [List.drop_zero, ← D.vs_len y hpl]; simp
      | _ => simp at h1
    · cases h
end

def isPr : D → Bool
  | .pair _ _ => true
  | _ => false
/-- '==' between two structs of plain data -/
theorem eqs_rule {E : En} {cur : FI} {all : Array Oper} {o : Oper} {l : List Oper} {r : List It} {fr : List (Nat × SV)} {hp : List (Nat × Ob)} {nx : Nat} {stk : List Fm} {t rt : TypeId} {x y : Operand} (d : D) {p q : d.T} {n : Nat}
    (ho : o.op = .binOp .eql t x y rt) (hB : eqtB E.P n t d = true) (hn : Nat.ble n 10000 = true) (hg : E.P.eqGuardType E.P.depth t = false) (hpr : isPr d = true) (hx : psS d (ev fr x) = some p) (hy : psS d (ev fr y) = some q)
    (hm : Mean E cur (.ops all l :: r) ⟨putF cur.nt fr o.dst (.c (.bool (.sym (d.eqb p q)))), hp, nx⟩ stk) : StuckOk E cur all o l r ⟨fr, hp, nx⟩ stk := by
  refine stuck_rule fun w0 η S a w hR => ?_
  have hpl := eqt_plain hB
  have hxv := psS_sound hpl hx (ev_sound hR.2.1 x)
  have hyv := psS_sound hpl hy (ev_sound hR.2.1 y)
  have he := run_eqt (P := E.P) w n (m := 10000) (x := p) (y := q) (Nat.le_of_ble_eq_true hn) hB
  refine ⟨.c (.bool (.sym (d.eqb p q))), .bool (d.eqb p q), w, η, hp, nx, ?_, hR.1.1, Cx.le.refl _, rfl, hm⟩
  cases d with
  | pair a b =>
    simp only [execOp, ho, hxv, hyv]
    simp only [D.v] at he ⊢
    rw [Sem.run_bind, Sem.run_bind, run_eqGuard_agg w _ _ _ _ _ _ hg]
    simp only [Result.andThen_ok]
    rw [run_eql_struct, he]
    rfl
  | _ => simp [isPr] at hpr

/-! ### an own row's capacity is known from here on -/

section
variable {x : Cx} {b : Nat} {y : C}
end

end OE

/- OE, part 20: contracts whose results are memory of their own. Own work; generic over the program. -/
set_option linter.unusedVariables false
namespace OE
open Go Go.RowKit

/-! ### names shifted -/

structure Sh (n : Nat) (x y : Cx) : Prop where
  w : y.w = x.w
  ok : ∀ k, x.ok k → y.ok k
  nm : ∀ b, x.nm b → y.nm (b + n)
  eta : ∀ b, x.nm b → y.η (b + n) = x.η b

section
variable {n : Nat} {x y : Cx}
theorem Sh.rd (h : Sh n x y) {d : D} {z : d.T} {cs : List Value} (hr : Rd x.w x.ok d z cs) : Rd y.w y.ok d z cs := Rd.mono h.ok (fun _ _ => by rw [h.w]) hr
end

/-! ### the contract -/

/-- A FUNCTION's CONTRACT: data go in; what comes out holds memory of its own, that nobody else has. -/
def FnO (P : Program) (f : Nat) (args : List SV) (s : SV) (hp : List (Nat × Ob)) (n : Nat) : Prop :=
  (∃ fn, P.funcs[f]? = some fn ∧ fn.body.isSome = true ∧ (fn.name == "runtime.NumGoroutine") = false) ∧
  ∀ w ok (vs : Array Value), OkW w ok → RL (RS (DX w ok)) args vs.toList →
    Calls P f vs w fun e w' => ∃ v η, e = .returned v ∧ RepH ⟨w, ok, fun _ => False⟩ hp (lt n) η w' ∧ RS (cxS ⟨w, ok, fun _ => False⟩ hp (lt n) η w') s v

/-- what comes out may be told as data -/
theorem FnO.dat {P : Program} {f : Nat} {args : List SV} {s s' : SV} {hp : List (Nat × Ob)} {n : Nat} (h : FnO P f args s hp n) (hs : cvS hp s = some s') : FnD P f args (· = s') := by
  refine ⟨h.1, fun w ok vs hok hvs => (h.2 w ok vs hok hvs).mono ?_⟩
  rintro e w' ⟨v, η, rfl, h3, h4⟩
  refine ⟨s', v, rfl, rfl, cvS_sound (ok := fun k => (ok k ∨ w.heap.size ≤ k) ∧ k < w'.heap.size) h3 (fun k hk => ⟨?_, hk.1.1⟩) (fun k h1 h2 => ⟨.inr (Nat.not_lt.1 fun h => h1 ⟨h, id⟩), h2⟩) hs h4, h3.bel.out fun _ => id⟩
  by_cases hlt : k < w.heap.size
  · exact .inl (hk.1.2 ⟨hlt, id⟩)
  · exact .inr (by omega)

/-! ### a list, told equal to nil -/

/-! ### an array whose elements are got by numbers that are not known -/

end OE

/- OE, part 10: small facts on leaves: wraps, bits, bytes. Own work. -/
namespace OE
open Go Go.RowKit

/-- a test whose outcome is known -/
theorem tk {b : Bool} {X Y : Prop} (hb : b = true) (hx : X) : (b = true → X) ∧ (b = false → Y) := ⟨fun _ => hx, fun h => by rw [hb] at h; cases h⟩
theorem fk {b : Bool} {X Y : Prop} (hb : b = false) (hy : Y) : (b = true → X) ∧ (b = false → Y) := ⟨fun h => (by rw [hb] at h; cases h), fun _ => hy⟩

theorem wf_i64 {a : Int} (h : (Lit.int .i64 a).wf = true) : -9223372036854775808 ≤ a ∧ a ≤ 9223372036854775807 := by
  simpa [Lit.wf, IntKind.min, IntKind.max, IntKind.bits, IntKind.signed] using h
theorem wr64 (x : Int) (h0 : -9223372036854775808 ≤ x) (h1 : x ≤ 9223372036854775807) : IntKind.wrap .i64 x = x := by
  have e : IntKind.wrap .i64 x = if (9223372036854775808 : Int) ≤ x % 18446744073709551616 then x % 18446744073709551616 - 18446744073709551616 else x % 18446744073709551616 := by
    simp [IntKind.wrap, IntKind.bits, IntKind.signed]
  rw [e]
  split <;> omega
theorem wru64 (x : Int) (h0 : 0 ≤ x) (h1 : x ≤ 18446744073709551615) : IntKind.wrap .u64 x = x := by
  have e : IntKind.wrap .u64 x = x % 18446744073709551616 := by simp [IntKind.wrap, IntKind.bits, IntKind.signed]
  rw [e]; omega
theorem wru64m (x : Int) : IntKind.wrap .u64 x = x % 18446744073709551616 := by simp [IntKind.wrap, IntKind.bits, IntKind.signed]
theorem wru8 (x : Int) : IntKind.wrap .u8 x = x % 256 := by simp [IntKind.wrap, IntKind.bits, IntKind.signed]
theorem wr64m (x : Int) : IntKind.wrap .i64 x = if (9223372036854775808 : Int) ≤ x % 18446744073709551616 then x % 18446744073709551616 - 18446744073709551616 else x % 18446744073709551616 := by
  simp [IntKind.wrap, IntKind.bits, IntKind.signed]

theorem and127 (c : Nat) (h : c < 256) : bits .and .u8 (c : Int) 127 = ((c % 128 : Nat) : Int) := by
  have := u8_and_nat c 127 h (by omega)
  rw [show ((127 : Nat) : Int) = 127 from rfl] at this
  rw [this, show (127 : Nat) = 2 ^ 7 - 1 from rfl, Nat.and_two_pow_sub_one_eq_mod]
theorem or128 (c : Nat) (h : c < 256) : bits .or .u8 (c : Int) 128 = ((c % 128 + 128 : Nat) : Int) := by
  have := u8_or_nat c 128 h (by omega)
  rw [show ((128 : Nat) : Int) = 128 from rfl] at this
  rw [this]
  congr 1
  have e1 : ∀ d : Nat, d < 128 → d ||| 128 = d + 128 := by
    intro d hd
    rw [Nat.or_comm]
    have := Nat.two_pow_add_eq_or_of_lt (i := 7) (b := d) hd 1
    simp only [Nat.mul_one, show (2 : Nat) ^ 7 = 128 from rfl] at this
    omega
  by_cases hc : c < 128
  · rw [e1 c hc, Nat.mod_eq_of_lt hc]
  · have e2 : c = c % 128 + 128 := by omega
    have e3 := e1 (c % 128) (Nat.mod_lt _ (by omega))
    rw [← e3]
    rw [← e3] at e2
    conv => lhs; rw [e2]
    rw [Nat.or_assoc, Nat.or_self]
theorem or_apart (n m i : Nat) (hn : n < 2 ^ i) (hb : n + m * 2 ^ i < 18446744073709551616) : bits .or .u64 (n : Int) ((m * 2 ^ i : Nat) : Int) = ((n + m * 2 ^ i : Nat) : Int) := by
  rw [u64_or_nat n (m * 2 ^ i) (by omega) (by omega)]
  congr 1
  rw [Nat.or_comm, Nat.mul_comm, ← Nat.two_pow_add_eq_or_of_lt hn]
  omega

theorem xor_max (a : Nat) (h : a < 18446744073709551616) : a ^^^ 18446744073709551615 = 18446744073709551615 - a := by
  have e := congrArg BitVec.toNat (BitVec.xor_allOnes (x := BitVec.ofNat 64 a))
  rw [BitVec.toNat_xor, BitVec.toNat_allOnes, BitVec.toNat_not, BitVec.toNat_ofNat, Nat.mod_eq_of_lt h] at e
  exact e
theorem wrx (x : Nat) (hx : x < 18446744073709551616) : IntKind.wrap .i64 (x : Int) = if x < 9223372036854775808 then (x : Int) else x - 18446744073709551616 := by
  rw [wr64m]; split <;> split <;> omega
theorem xor64_zero (a : Int) (h0 : -9223372036854775808 ≤ a) (h1 : a ≤ 9223372036854775807) : bits .xor .i64 a 0 = a := by
  have : bits .xor .i64 a 0 = IntKind.wrap .i64 ((BitVec.ofInt 64 a ^^^ 0#64).toNat : Nat) := rfl
  rw [this, BitVec.xor_zero, wrx _ (BitVec.isLt _), BitVec.toNat_ofInt]
  split <;> omega
theorem xor64_one (a : Int) (h0 : -9223372036854775808 ≤ a) (h1 : a ≤ 9223372036854775807) : bits .xor .i64 a (-1) = -a - 1 := by
  have : bits .xor .i64 a (-1) = IntKind.wrap .i64 ((BitVec.ofInt 64 a ^^^ BitVec.allOnes 64).toNat : Nat) := rfl
  rw [this, BitVec.xor_allOnes, wrx _ (BitVec.isLt _), BitVec.toNat_not, BitVec.toNat_ofInt]
  split <;> omega

theorem bt_nat (s : List UInt8) (i : Nat) (h : i < s.length) : bt s (i : Int) = ((s[i]).toNat : Int) := by
  simp [bt, h]
theorem gt_nat {d : D} (xs : List d.T) (i : Nat) (h : i < xs.length) : gt xs (i : Int) = xs[i] := by
  unfold gt
  simp [List.getD, h]
theorem bt_rng (s : List UInt8) (i : Int) : 0 ≤ bt s i ∧ bt s i < 256 := by
  unfold bt
  have := (s.getD i.toNat 0).toNat_lt
  omega

theorem byl_app (xs ys : List Int) : byl (xs ++ ys) = byl xs ++ byl ys := by simp [byl]


/-! ### lists, gone through by a number -/

theorem eqL_len {α : Type} {f : α → α → Bool} : ∀ {l m : List α}, l.length ≠ m.length → eqL f l m = false
  | [], [], h => by simp at h
  | [], _ :: _, _ => rfl
  | _ :: _, [], _ => rfl
  | a :: l, b :: m, h => by simp only [eqL, eqL_len (l := l) (m := m) (by simpa using h), Bool.and_false]
theorem eqL_step {α : Type} {f : α → α → Bool} {l m : List α} {i : Nat} (h1 : i < l.length) (h2 : i < m.length) : eqL f (l.drop i) (m.drop i) = (f l[i] m[i] && eqL f (l.drop (i + 1)) (m.drop (i + 1))) := by
  rw [List.drop_eq_getElem_cons h1, List.drop_eq_getElem_cons h2]; rfl
theorem eqL_end {α : Type} {f : α → α → Bool} {l m : List α} {i : Nat} (h1 : l.length ≤ i) (h2 : m.length ≤ i) : eqL f (l.drop i) (m.drop i) = true := by
  rw [List.drop_of_length_le h1, List.drop_of_length_le h2]; rfl
theorem any_step {α : Type} {f : α → Bool} {l : List α} {i : Nat} (h1 : i < l.length) : (l.drop i).any f = (f l[i] || (l.drop (i + 1)).any f) := by
  rw [List.drop_eq_getElem_cons h1]; rfl
theorem any_end {α : Type} {f : α → Bool} {l : List α} {i : Nat} (h1 : l.length ≤ i) : (l.drop i).any f = false := by
  rw [List.drop_of_length_le h1]; rfl
theorem all_step {α : Type} {f : α → Bool} {l : List α} {i : Nat} (h1 : i < l.length) : (l.drop i).all f = (f l[i] && (l.drop (i + 1)).all f) := by
  rw [List.drop_eq_getElem_cons h1]; rfl
theorem all_end {α : Type} {f : α → Bool} {l : List α} {i : Nat} (h1 : l.length ≤ i) : (l.drop i).all f = true := by
  rw [List.drop_of_length_le h1]; rfl
theorem take_step {α : Type} {l : List α} {i : Nat} (h1 : i < l.length) : l.take (i + 1) = l.take i ++ [l[i]] := by
  rw [List.take_succ_eq_append_getElem h1]
theorem wr_succ (i : Nat) (h : i + 1 ≤ 9223372036854775807) : ((i + 1 : Nat) : Int) = IntKind.wrap .i64 ((i : Int) + 1) := by rw [wr64 _ (by omega) (by omega)]; omega
/-! ### maps of data -/

section
variable {kd vd : D}
end

/-! ### arguments that are nil -/
theorem FnD.args {P : Program} {f : Nat} {as bs : List SV} {post : SV → Prop} (h : FnD P f as post) (hs : ∀ w ok, RL (fun b a => ∀ v, RS (DX w ok) b v → RS (DX w ok) a v) bs as) : FnD P f bs post := by
  refine ⟨h.1, fun w ok vs hok hvs => h.2 w ok vs hok ?_⟩
  have key : ∀ {bs as : List SV} {m : List Value}, RL (fun b a => ∀ v, RS (DX w ok) b v → RS (DX w ok) a v) bs as → RL (RS (DX w ok)) bs m → RL (RS (DX w ok)) as m := by
    intro bs
    induction bs with
    | nil =>
      intro as m h1 h2
      cases as with
      | nil => exact h2
      | cons _ _ => exact h1.elim
    | cons b bs ih =>
      intro as m h1 h2
      cases as with
      | nil => exact h1.elim
      | cons a as =>
        obtain ⟨v, m', rfl, g1, g2⟩ := rl_cons h2
        exact ⟨h1.1 v g1, ih h1.2 g2⟩
  exact key (hs w ok) hvs
theorem nilA {w : World} {ok : Nat → Prop} {d : D} (v : Value) (h : RS (DX w ok) (.c (.val (.slice none 0 0))) v) : RS (DX w ok) (.c (.dat d [])) v := by
  obtain ⟨rfl, _⟩ := h
  show Rd w ok (.list d) [] [_]
  simp only [Rd]
  exact ⟨none, 0, rfl, by simp, by simp [maxLen], fun _ => rfl, .inl rfl⟩
/-- a result told in another way -/
theorem FnD.res {P : Program} {f : Nat} {args : List SV} {pf : SV → Prop} {s : SV} (h : FnD P f args pf) (hs : ∀ r, pf r → ∀ w ok v, RS (DX w ok) r v → RS (DX w ok) s v) : FnD P f args (· = s) :=
  ⟨h.1, fun w ok vs ho hv => (h.2 w ok vs ho hv).mono fun _ _ ⟨r, v, e, h1, h2, h3⟩ => ⟨s, v, e, rfl, hs r h1 _ _ v h2, h3⟩⟩
/-- a list, or nil -/
def nilOr (d : D) (l : List d.T) (r : SV) : Prop := r = .c (.dat d l) ∨ (l = [] ∧ r = .c (.val (.slice none 0 0)))
theorem FnD.nil {P : Program} {f : Nat} {args : List SV} {d : D} {l : List d.T} (h : FnD P f args (nilOr d l)) : FnD P f args (· = .c (.dat d l)) :=
  h.res fun r hr w ok v hv => by
    rcases hr with rfl | ⟨rfl, rfl⟩
    · exact hv
    · exact nilA v hv
end OE

/- OE, part 11: an argument that is data, opened. Own work; generic over the program. -/
namespace OE
open Go Go.RowKit

mutual
/-- a type reads as this kind of data -/
def tyD (P : Program) : Nat → TypeId → D → Bool
  | 0, _, _ => false
  | n + 1, t, d => match P.underlying t with
    | some (.int k) => decide (d = .int k)
    | some .bool => decide (d = .bool)
    | some .string => decide (d = .str)
    | some (.slice e) => match d with
      | .list a => P.cellsOf e == a.sz && decide (0 < P.bytesOf e) && tyD P n e a
      | _ => false
    | some (.struct fs) => P.cellsOf t == d.sz && tyP P n (fs.toList.map fun f => (f.type, f.offset)) 0 d
    | some (.array m e) => P.cellsOf t == d.sz && tyP P n ((List.range m).map fun i => (e, i * P.cellsOf e)) 0 d
    | _ => false
/-- parts, one behind the other -/
def tyP (P : Program) : Nat → List (TypeId × Nat) → Nat → D → Bool
  | 0, _, _, _ => false
  | _ + 1, [], _, _ => false
  | n + 1, [(t, o)], p, d => o == p && P.cellsOf t == d.sz && tyD P n t d
  | n + 1, (t, o) :: r, p, d => match d with
    | .pair a b => o == p && P.cellsOf t == a.sz && tyD P n t a && tyP P n r (p + a.sz) b
    | _ => false
end

/-- sizes as they come in -/
def Wf : (d : D) → d.T → Prop
  | .int k, n => (Lit.int k n).wf = true
  | .bool, _ => True
  | .str, s => s.length ≤ 140737488351232
  | .pair a b, p => Wf a p.1 ∧ Wf b p.2
  | .list a, xs => xs.length ≤ 140737488351232 ∧ ∀ x ∈ xs, Wf a x

instance Wf.dec : ∀ (d : D) (x : d.T), Decidable (Wf d x)
  | .int k, n => inferInstanceAs (Decidable ((Lit.int k n).wf = true))
  | .bool, _ => inferInstanceAs (Decidable True)
  | .str, s => inferInstanceAs (Decidable (s.length ≤ 140737488351232))
  | .pair a b, p => @instDecidableAnd _ _ (Wf.dec a p.1) (Wf.dec b p.2)
  | .list a, xs => @instDecidableAnd _ _ (inferInstanceAs (Decidable (xs.length ≤ 140737488351232))) (@List.decidableBAll _ _ (Wf.dec a) xs)

theorem cell_some {w : World} {a : Addr} {v : Value} (h : w.cell? a = some v) : a.spot = none ∧ ∃ c T fz, w.heap[a.block]? = some (.cells c T fz) ∧ c[a.off]? = some v := by
  unfold World.cell? at h
  split at h
  · rename_i c T fz hc
    split at h
    · cases h
    · rename_i hs
      exact ⟨by simpa using hs, c, T, fz, hc, h⟩
  · cases h

section
variable {H : Type} {enc : TypeId × Value → H} {P : Program} {w : World} {sp : Nat → Bool} {held : Bool}

theorem rdf_of {α : Type} {R : α → List Value → Prop} {sz : Nat} : ∀ {n : Nat} {L : List Value} (g : Nat → α), (∀ i, i < n → R (g i) ((L.drop (i * sz)).take sz)) → (L.length = n * sz) → RdF R ((List.range n).map g) L
  | 0, L, g, _, hl => by simp at hl; subst hl; rfl
  | n + 1, L, g, h, hl => by
    rw [List.range_succ_eq_map, List.map_cons, List.map_map]
    refine ⟨L.take sz, L.drop sz, (List.take_append_drop sz L).symm, by simpa using h 0 (by omega), ?_⟩
    have := rdf_of (n := n) (L := L.drop sz) (fun i => g (i + 1)) (fun i hi => by
      have := h (i + 1) (by omega)
      rw [List.drop_drop]
      rw [show sz + i * sz = (i + 1) * sz from by rw [Nat.add_mul]; omega]
      exact this) (by rw [List.length_drop, hl, Nat.add_mul]; omega)
    exact this

theorem pick_fn {α : Type} (d : α) {n : Nat} {p : Nat → α → Prop} (h : ∀ i, i < n → ∃ y, p i y) : ∃ g : Nat → α, ∀ i, i < n → p i (g i) := by
  induction n with
  | zero => exact ⟨fun _ => d, fun i hi => by omega⟩
  | succ n ih =>
    obtain ⟨g, hg⟩ := ih fun i hi => h i (by omega)
    obtain ⟨y, hy⟩ := h n (by omega)
    refine ⟨fun i => if i = n then y else g i, fun i hi => ?_⟩
    dsimp only
    split
    · rename_i e; subst e; exact hy
    · exact hg i (by omega)

/-- cells that are there one behind the other -/
theorem row_of {C : Array Value} {off len sz : Nat} {cs : Nat → List Value} (hs : 0 < sz) (h : ∀ i, i < len → (cs i).length = sz ∧ ∀ j, j < sz → C[off + i * sz + j]? = (cs i)[j]?) :
    ((C.toList.drop off).take (len * sz)).length = len * sz ∧ ∀ i, i < len → ((((C.toList.drop off).take (len * sz)).drop (i * sz)).take sz) = cs i := by
  have hex : ∀ q, q < len * sz → ∃ v, C[off + q]? = some v := by
    intro q hq
    have hi : q / sz < len := by rw [Nat.div_lt_iff_lt_mul hs]; exact hq
    obtain ⟨h1, h2⟩ := h (q / sz) hi
    have hj := h2 (q % sz) (Nat.mod_lt _ hs)
    rw [Nat.add_assoc, Nat.mul_comm, Nat.div_add_mod] at hj
    rw [hj]
    exact ⟨_, List.getElem?_eq_getElem (by rw [h1]; exact Nat.mod_lt _ hs)⟩
  have hlen : ((C.toList.drop off).take (len * sz)).length = len * sz := by
    rw [List.length_take, List.length_drop, Array.length_toList]
    rcases Nat.lt_or_ge (C.size - off) (len * sz) with hlt | hge
    · obtain ⟨v, hv⟩ := hex (C.size - off) hlt
      have := (Array.getElem?_eq_some_iff.1 hv).1
      omega
    · omega
  refine ⟨hlen, fun i hi => ?_⟩
  obtain ⟨h1, h2⟩ := h i hi
  have hle : (i + 1) * sz ≤ len * sz := Nat.mul_le_mul_right _ hi
  rw [Nat.add_mul, Nat.one_mul] at hle
  apply List.ext_getElem?
  intro j
  rw [List.getElem?_take]
  split
  · rename_i hj
    rw [List.getElem?_drop, List.getElem?_take, if_pos (by omega), List.getElem?_drop, Array.getElem?_toList, ← h2 j hj, Nat.add_assoc]
  · rw [List.getElem?_eq_none (by omega)]

theorem all_weights {e : TypeId} : ∀ {xs : List (DataW H)} {x : DataW H}, x ∈ xs → ∀ m ∈ x.weights P e, m ∈ DataW.weightsAll P e xs
  | y :: ys, x, hx, m, hm => by
    simp only [DataW.weightsAll, List.mem_append]
    rcases List.mem_cons.1 hx with rfl | h
    · exact .inl hm
    · exact .inr (all_weights h m hm)
  | [], x, hx, _, _ => by simp at hx

mutual
theorem trod_rd : ∀ (n : Nat) {t : TypeId} {d : D} {fuel : Nat} {cs : List Value} {x : DataW H × List MemPlace}, tyD P n t d = true → DataW.trod enc P w 0 sp held fuel t cs = some x → (∀ m ∈ x.1.weights P t, m ≤ reachBytes) →
    ∃ y : d.T, Rd w (fun k => k < w.heap.size) d y cs ∧ Wf d y
  | 0, _, _, _, _, _, h, _, _ => by simp [tyD] at h
  | n + 1, t, d, fuel, cs, x, h, hx, hw => by
    unfold tyD at h
    split at h
    · rename_i k ht
      simp only [decide_eq_true_eq] at h
      subst h
      obtain ⟨m, rfl, rfl, hwf⟩ := DataW.trod_int ht hx
      exact ⟨m, rfl, hwf⟩
    · rename_i ht
      simp only [decide_eq_true_eq] at h
      subst h
      obtain ⟨b, rfl, rfl⟩ := DataW.trod_bool ht hx
      exact ⟨b, rfl, trivial⟩
    · rename_i ht
      simp only [decide_eq_true_eq] at h
      subst h
      obtain ⟨s, rfl, rfl, _⟩ := DataW.trod_string ht hx
      refine ⟨s.data.toList, rfl, ?_⟩
      have := hw s.data.toList.length (by simp [DataW.weights])
      exact this
    · rename_i e ht
      split at h
      · rename_i a
        simp only [Bool.and_eq_true, beq_iff_eq, decide_eq_true_eq] at h
        obtain ⟨⟨h1, h2⟩, h3⟩ := h
        rcases DataW.trod_slice ht hx with ⟨rfl, rfl⟩ | ⟨A, len, cap, elems, rest, m, rfl, rfl, rfl, hb, hl, hm, hlen, hel, hsp, hns⟩
        · exact ⟨[], ⟨none, 0, rfl, Nat.le_refl _, Nat.zero_le _, fun _ => rfl, .inl rfl⟩, by simp, by simp⟩
        · have hlen' : len ≤ 140737488351232 := by
            have h5 := hw ((elems.map (·.1)).length + (rest.map (·.1)).length |> (· * P.bytesOf e)) (by simp [DataW.weights, ht])
            simp only [List.length_map] at h5
            rw [hlen] at h5
            have h6 : len * 1 ≤ (len + rest.length) * P.bytesOf e := Nat.mul_le_mul (by omega) h2
            have h7 : reachBytes = 140737488351232 := rfl
            omega
          have each : ∀ i, i < len → ∃ cs' y, w.cells? 0 (A.add (i * P.cellsOf e)) (P.cellsOf e) = some cs' ∧ Rd w (fun k => k < w.heap.size) a y cs' ∧ Wf a y := by
            intro i hi
            have := hel i hi
            rw [List.getElem?_eq_getElem (by omega), Option.bind_eq_some_iff] at this
            obtain ⟨cs', hc1, hc2⟩ := this
            obtain ⟨y, hy1, hy2⟩ := trod_rd n h3 hc2 (fun z hz => hw z (by
              simp only [DataW.weights, ht, List.mem_cons, List.mem_append]
              exact .inr (.inl (all_weights (x := elems[i].1) (List.mem_map_of_mem (List.getElem_mem _)) z hz))))
            exact ⟨cs', y, hc1, hy1, hy2⟩
          by_cases h0 : len = 0
          · subst h0
            exact ⟨[], ⟨some A, cap, rfl, Nat.zero_le _, hm, fun h => (by cases h), .inl rfl⟩, by simp, by simp⟩
          · have hsz := a.sz_pos
            obtain ⟨g, hg⟩ := pick_fn ([], a.df) (p := fun i (q : List Value × a.T) => w.cells? 0 (A.add (i * P.cellsOf e)) (P.cellsOf e) = some q.1 ∧ Rd w (fun k => k < w.heap.size) a q.2 q.1 ∧ Wf a q.2) (fun i hi => by
              obtain ⟨cs', y, q1, q2, q3⟩ := each i hi
              exact ⟨(cs', y), q1, q2, q3⟩)
            have c0 := World.cells?_some (hg 0 (by omega)).1
            rw [h1] at c0
            have hv0 := c0.2.2 0 hsz
            rw [List.getElem?_eq_getElem (by omega)] at hv0
            simp only [Nat.zero_mul] at hv0
            obtain ⟨hspot, C, T, fz, hheap, _⟩ := cell_some hv0
            obtain ⟨k, off, spot⟩ := A
            simp only [Addr.add, if_true] at hspot hheap
            subst hspot
            have hcell : ∀ i, i < len → (g i).1.length = a.sz ∧ ∀ j, j < a.sz → C[off + i * a.sz + j]? = ((g i).1)[j]? := by
              intro i hi
              have ci := World.cells?_some (hg i hi).1
              rw [h1] at ci
              refine ⟨ci.2.1, fun j hj => ?_⟩
              have := ci.2.2 j hj
              rw [add_plain', add_plain', cell_of hheap] at this
              exact this
            obtain ⟨r1, r2⟩ := row_of hsz hcell
            refine ⟨(List.range len).map fun i => (g i).2, ⟨some ⟨k, off, none⟩, cap, by simp, by simpa using hl, hm, fun h => (by cases h), .inr ⟨k, off, C, T, fz, rfl, (Array.getElem?_eq_some_iff.1 hheap).1, hheap, ?_⟩⟩, by simpa using hlen', ?_⟩
            · rw [List.length_map, List.length_range]
              refine rdf_of (fun i => (g i).2) (fun i hi => ?_) r1
              rw [r2 i hi]
              exact (hg i hi).2.1
            · intro y hy
              simp only [List.mem_map, List.mem_range] at hy
              obtain ⟨i, hi, rfl⟩ := hy
              exact (hg i hi).2.2
      · cases h
    · rename_i fs ht
      simp only [Bool.and_eq_true, beq_iff_eq] at h
      obtain ⟨h1, h2⟩ := h
      obtain ⟨xs, m, rfl, rfl, hl, hxl, hel⟩ := DataW.trod_struct ht hx
      obtain ⟨y, hy1, hy2, hy3⟩ := trod_parts (m := m) n (xs := xs) h2 (cs := cs) (fun i t' o hi => by
        rw [List.getElem?_map] at hi
        simp only [Option.map_eq_some_iff, Prod.mk.injEq] at hi
        obtain ⟨f, hf, rfl, rfl⟩ := hi
        exact hel i f (by simpa using hf)) (fun i t' o x hi hxi z hz => by
        rw [List.getElem?_map] at hi
        simp only [Option.map_eq_some_iff, Prod.mk.injEq] at hi
        obtain ⟨f, hf, rfl, rfl⟩ := hi
        refine hw z ?_
        simp only [DataW.weights, ht]
        exact DataW.weights_mem_each (j := i) (t := f.type) (d := x.1) (by simp only [Array.getElem?_toList] at hf; simp [List.getElem?_map, hf]) (by simp [List.getElem?_map, hxi]) z hz) (by simpa using hxl)
      rw [List.drop_zero, List.take_of_length_le (by omega)] at hy1
      exact ⟨y, hy1, hy2⟩
    · rename_i q e ht
      simp only [Bool.and_eq_true, beq_iff_eq] at h
      obtain ⟨h1, h2⟩ := h
      obtain ⟨xs, m, rfl, rfl, hl, hxl, hel⟩ := DataW.trod_array ht hx
      obtain ⟨y, hy1, hy2, hy3⟩ := trod_parts (m := m) n (xs := xs) h2 (cs := cs) (fun i t' o hi => by
        rw [List.getElem?_map] at hi
        simp only [Option.map_eq_some_iff, Prod.mk.injEq] at hi
        obtain ⟨i', hf, rfl, rfl⟩ := hi
        rw [List.getElem?_eq_some_iff] at hf
        obtain ⟨hf1, hf2⟩ := hf
        simp at hf1 hf2
        subst hf2
        exact hel i hf1) (fun i t' o x hi hxi z hz => by
        rw [List.getElem?_map] at hi
        simp only [Option.map_eq_some_iff, Prod.mk.injEq] at hi
        obtain ⟨i', hf, rfl, rfl⟩ := hi
        refine hw z ?_
        simp only [DataW.weights, ht]
        exact all_weights (x := x.1) (List.mem_map_of_mem (List.mem_of_getElem? hxi)) z hz) (by simpa using hxl)
      rw [List.drop_zero, List.take_of_length_le (by omega)] at hy1
      exact ⟨y, hy1, hy2⟩
    · cases h
theorem trod_parts : ∀ (n : Nat) {pl : List (TypeId × Nat)} {p : Nat} {d : D} {m : Nat} {cs : List Value} {xs : List (DataW H × List MemPlace)}, tyP P n pl p d = true →
    (∀ (i : Nat) (t : TypeId) (o : Nat), pl[i]? = some (t, o) → DataW.trod enc P w 0 sp held m t ((cs.drop o).take (P.cellsOf t)) = xs[i]?) → (∀ (i : Nat) (t : TypeId) (o : Nat) (x : DataW H × List MemPlace), pl[i]? = some (t, o) → xs[i]? = some x → ∀ z ∈ x.1.weights P t, z ≤ reachBytes) → (xs.length = pl.length) →
    ∃ y : d.T, Rd w (fun k => k < w.heap.size) d y ((cs.drop p).take d.sz) ∧ Wf d y ∧ True
  | 0, _, _, _, _, _, _, h, _, _, _ => by simp [tyP] at h
  | n + 1, [], _, _, _, _, _, h, _, _, _ => by simp [tyP] at h
  | n + 1, [(t, o)], p, d, m, cs, xs, h, hx, hw, hl => by
    simp only [tyP, Bool.and_eq_true, beq_iff_eq] at h
    obtain ⟨⟨rfl, h1⟩, h2⟩ := h
    have h0 := hx 0 t o rfl
    obtain ⟨x, hx0⟩ : ∃ x, xs[0]? = some x := ⟨_, List.getElem?_eq_getElem (by simp at hl; omega)⟩
    rw [hx0] at h0
    obtain ⟨y, hy1, hy2⟩ := trod_rd n h2 h0 (hw 0 t o x rfl hx0)
    exact ⟨y, by rw [← h1]; exact hy1, hy2, trivial⟩
  | n + 1, (t, o) :: q :: r, p, d, m, cs, xs, h, hx, hw, hl => by
    simp only [tyP] at h
    split at h
    · rename_i a b
      simp only [Bool.and_eq_true, beq_iff_eq] at h
      obtain ⟨⟨⟨rfl, h1⟩, h2⟩, h3⟩ := h
      have h0 := hx 0 t o rfl
      cases xs with
      | nil => simp at hl
      | cons x xs =>
        obtain ⟨y, hy1, hy2⟩ := trod_rd n h2 h0 (hw 0 t o x rfl rfl)
        obtain ⟨z, hz1, hz2, _⟩ := trod_parts n (xs := xs) h3 (cs := cs) (fun i t' o' hi => hx (i + 1) t' o' (by simpa using hi)) (fun i t' o' x' hi hxi => hw (i + 1) t' o' x' (by simpa using hi) (by simpa using hxi)) (by simpa using hl)
        refine ⟨(y, z), ⟨_, _, ?_, hy1, hz1⟩, ⟨hy2, hz2⟩, trivial⟩
        rw [h1, D.sz, List.take_add, List.drop_drop]
    · cases h
end

theorem okWide_str {t : TypeId} {fs : Array Field} {v : Value} {r : Reach} {b0 : Nat} (ht : P.underlying t = some (.struct fs)) (h : Value.okWide P w r b0 t v) : ∃ cs, v = .agg cs := by
  obtain ⟨cs, h1, _⟩ := Go.WideShapes.okWide_struct ht h
  exact ⟨cs, h1⟩

/-- AN ARGUMENT THAT IS AN AGGREGATE OF DATA. -/
theorem open_agg {t : TypeId} {d : D} {n : Nat} {v : Value} {dt : DataW H} {ps : List MemPlace} (h : tyD P n t d = true) (hv : ∃ cs, v = .agg cs) (hd : DataW.Trod enc P w 0 sp held t v dt ps) (hw : ∀ m ∈ dt.weights P t, m ≤ reachBytes) :
    ∃ y : d.T, RS (DX w (fun k => k < w.heap.size)) (.agg (d.cs y)) v ∧ Wf d y := by
  obtain ⟨fuel, hf⟩ := hd
  obtain ⟨y, h1, h2⟩ := trod_rd n h hf hw
  obtain ⟨cs, rfl⟩ := hv
  exact ⟨y, ⟨cs, rfl, rl_cs (x := DX w (fun k => k < w.heap.size)) h1⟩, h2⟩

theorem sized_each {ts : List TypeId} {ds : List (DataW H)} (h : (DataW.weightsEach P ts ds).all (· ≤ reachBytes) = true) {j : Nat} {t : TypeId} {d : DataW H} (ht : ts[j]? = some t) (hd : ds[j]? = some d) : ∀ m ∈ d.weights P t, m ≤ reachBytes := by
  intro m hm
  have := List.all_eq_true.1 h m (DataW.weights_mem_each ht hd m hm)
  simpa using this
end
end OE

/- OE: range over a text. Own work; generic over the program. -/
set_option linter.unusedVariables false
namespace OE
open Go Go.RowKit

/-- the rune that stands at a place, and its width -/
def rn (s : List UInt8) (p : Nat) : Nat × Nat := Utf8.decode ⟨s.toArray⟩ p

/-- 'range s' -/
theorem rangestr_rule {E : En} (ht : TabOk E.P E.ti) {cur : FI} {all : Array Oper} {o : Oper} {l : List Oper} {r : List It} {fr : List (Nat × SV)} {hp : List (Nat × Ob)} {nx : Nat} {stk : List Fm} {T : TypeId} {x : Operand} {i : TI} {s : List UInt8}
    (ho : o.op = .range T x) (hi : E.ti T = some i) (hk : i.tk = .str) (hx : ev fr x = .c (.str s))
    (hm : Mean E cur (.ops all l :: r) ⟨putF cur.nt fr o.dst (.c (.ptr nx 0)), (nx, .sit s 0) :: rm hp nx, nx + 1⟩ stk) : StuckOk E cur all o l r ⟨fr, hp, nx⟩ stk := by
  refine stuck_rule fun w0 η S a w hR => ?_
  have hH := hR.1.1
  have hxv := ev_sound hR.2.1 x
  rw [hx] at hxv
  have hxv : a.eval x = .string ⟨s.toArray⟩ := hxv
  have hu := tk_str (P := E.P) (t := T) (by have := (ht.is hi).tk; rw [hk] at this; exact this)
  have hrun : (execOp a.eval ⟨o.dst, o.op, o.type, o.pos, o.after, none⟩).run E.P w = .ok (.value (.pointer (some ⟨w.heap.size, 0, none⟩))) (w.alloc (.stringIter ⟨s.toArray⟩ 0)) := by
    simp only [execOp, ho, hxv, Instr.range, Sem.run_bind, und_run hu, Result.andThen_ok, Sem.run_pure]
    rfl
  have hnx : ¬ lt nx nx := Nat.lt_irrefl _
  have htn := turns_allocr (nx := nx) (hp := hp) (η := η) (w := w) (.stringIter ⟨s.toArray⟩ 0)
  have hle := step_le (p := (some w.heap.size, undef)) (ob := .sit s 0) hnx hH rm_sub htn (fun k hk => .inl (by cases hk; exact Nat.le_refl _))
  have hH' := step_rep (p := (some w.heap.size, undef)) (ob := .sit s 0) hnx hH rm_sub htn (fun k hk => .inl (by cases hk; simp)) ⟨w.heap.size, by simp [cxS, upd], heap_alloc_new w _⟩
  rw [nmE_lt (Nat.le_succ nx)] at hle hH'
  exact ⟨.c (.ptr nx 0), _, _, _, _, _, hrun, hH', hle, ⟨Nat.lt_succ_self _, w.heap.size, by simp [cxS, upd], rfl⟩, hm⟩

/-- 'next' over a text -/
theorem nextstr_rule {E : En} {cur : FI} {all : Array Oper} {o : Oper} {l : List Oper} {r : List It} {fr : List (Nat × SV)} {hp : List (Nat × Ob)} {nx : Nat} {stk : List Fm} {x : Operand} {b p : Nat} {s : List UInt8}
    (ho : o.op = .next x true) (hx : ev fr x = .c (.ptr b 0)) (hb : lk hp b = some (.sit s p))
    (h1 : s.length ≤ p → Mean E cur (.ops all l :: r) ⟨putF cur.nt fr o.dst (.tup [(false, [.bool .ff])]), hp, nx⟩ stk)
    (h2 : p < s.length → Mean E cur (.ops all l :: r) ⟨putF cur.nt fr o.dst (.tup [(false, [.bool .tt]), (false, [.int .i64 p]), (false, [.int .i32 (rn s p).1])]), (b, .sit s (p + (rn s p).2)) :: rm hp b, nx⟩ stk) :
    StuckOk E cur all o l r ⟨fr, hp, nx⟩ stk := by
  refine stuck_rule fun w0 η S a w hR => ?_
  have hH := hR.1.1
  have hxv := ev_sound hR.2.1 x
  rw [hx] at hxv
  obtain ⟨hbn, kk, hkk, hxv⟩ := hxv
  obtain ⟨rr, g1, g2⟩ := hH.obs b _ hb
  have hq' : kk = rr := by
    have hkk : (η b).1 = some kk := hkk
    have g1 : (η b).1 = some rr := g1
    rw [g1] at hkk; cases hkk; rfl
  subst hq'
  have g2 : w.heap[kk]? = some (.stringIter ⟨s.toArray⟩ p) := g2
  have hget : (getObj kk).run E.P w = .ok (.stringIter ⟨s.toArray⟩ p) w := by
    simp [getObj, Sem.run, g2]
  have hsz : (⟨s.toArray⟩ : ByteArray).size = s.length := by simp [ByteArray.size]
  by_cases h : p < s.length
  · have hlt : kk < w.heap.size := (Array.getElem?_eq_some_iff.1 g2).1
    have hrun : (execOp a.eval ⟨o.dst, o.op, o.type, o.pos, o.after, none⟩).run E.P w = .ok (.value (.tuple #[.bool true, .int .i64 p, .int .i32 (rn s p).1])) (ChangeMaps.setBlock w kk (.stringIter ⟨s.toArray⟩ (p + (rn s p).2))) := by
      have hso : (setObj kk (.stringIter ⟨s.toArray⟩ (p + (rn s p).2))).run E.P w = .ok () (ChangeMaps.setBlock w kk (.stringIter ⟨s.toArray⟩ (p + (rn s p).2))) := by simp [setObj, Sem.run, g2, ChangeMaps.setBlock]
      have hin : (Instr.next (.pointer (some ⟨kk, 0, none⟩)) true o.type).run E.P w = .ok (.tuple #[.bool true, .int .i64 p, .int .i32 (rn s p).1]) (ChangeMaps.setBlock w kk (.stringIter ⟨s.toArray⟩ (p + (rn s p).2))) := by
        simp only [Instr.next, Sem.run_bind, hget, Result.andThen_ok, hsz, h, if_true]
        show ((setObj kk (.stringIter ⟨s.toArray⟩ (p + (rn s p).2))).run E.P w).andThen _ = _
        rw [hso]
        rfl
      simp only [execOp, ho, hxv]
      rw [Sem.run_bind, show (⟨kk, 0 + 0, none⟩ : Addr) = ⟨kk, 0, none⟩ from rfl, hin]
      rfl
    have hnm : lk hp b ≠ none := by rw [hb]; simp
    obtain ⟨k1, k2⟩ := step_set (w' := ChangeMaps.setBlock w kk (.stringIter ⟨s.toArray⟩ (p + (rn s p).2))) (ob' := .sit s (p + (rn s p).2)) hH (b := b) (k := kk) hnm hkk rfl rfl rfl (by simp [ChangeMaps.setBlock])
      (fun j hj => by simp only [ChangeMaps.setBlock]; rw [Array.getElem?_setIfInBounds_ne (Ne.symm hj)]) ⟨kk, g1, by show (w.heap.setIfInBounds kk _)[kk]? = _; simp [hlt]⟩
    exact ⟨.tup [(false, [.bool .tt]), (false, [.int .i64 p]), (false, [.int .i32 (rn s p).1])], _, _, η, _, nx, hrun, k1, k2, ⟨_, rfl, ⟨⟨.bool .tt, rfl, rfl⟩, ⟨.int .i64 p, rfl, rfl⟩, ⟨.int .i32 (rn s p).1, rfl, rfl⟩, trivial⟩⟩, h2 h⟩
  · have hrun : (execOp a.eval ⟨o.dst, o.op, o.type, o.pos, o.after, none⟩).run E.P w = .ok (.value (.tuple #[.bool false])) w := by
      have hin : (Instr.next (.pointer (some ⟨kk, 0, none⟩)) true o.type).run E.P w = .ok (.tuple #[.bool false]) w := by
        simp only [Instr.next, Sem.run_bind, hget, Result.andThen_ok, hsz, h, if_false]
        rfl
      simp only [execOp, ho, hxv]
      rw [Sem.run_bind, show (⟨kk, 0 + 0, none⟩ : Addr) = ⟨kk, 0, none⟩ from rfl, hin]
      rfl
    exact ⟨.tup [(false, [.bool .ff])], _, _, η, hp, nx, hrun, hH, Cx.le.refl _, ⟨_, rfl, ⟨⟨.bool .ff, rfl, rfl⟩, trivial⟩⟩, h1 (by omega)⟩

theorem rdf_zero {R : Int → List Value → Prop} : ∀ n : Nat, (∀ z : Int, R z [.int .u8 z]) → RdF R (List.replicate n (0 : Int)) (List.replicate n (.int .u8 0))
  | 0, _ => rfl
  | n + 1, h => ⟨[.int .u8 0], List.replicate n (.int .u8 0), rfl, h 0, rdf_zero n h⟩
/-- a row of zero bytes -/
theorem mks_rule {E : En} {cur : FI} {all : Array Oper} {o : Oper} {l : List Oper} {r : List It} {fr : List (Nat × SV)} {hp : List (Nat × Ob)} {nx : Nat} {stk : List Fm} {T e : TypeId} {x y : Operand} {n : Nat} (i : TypeInfo)
    (ho : o.op = .makeSlice T x y) (hx : ev fr x = .c (.int .i64 n)) (hy : ev fr y = .c (.int .i64 n)) (hu : E.P.underlying T = some (.slice e)) (hi : E.P.info? e = some i) (hz : i.zero = some (.int .u8 0)) (hs : i.size = 1) (hb : i.bytes = 1) (hn : n ≤ 281474976710656)
    (hm : Mean E cur (.ops all l :: r) ⟨putF cur.nt fr o.dst (.c (.row nx)), (nx, .row e (.int .u8) (List.replicate n (0 : Int))) :: rm hp nx, nx + 1⟩ stk) : StuckOk E cur all o l r ⟨fr, hp, nx⟩ stk := by
  refine stuck_rule fun w0 η S a w hR => ?_
  have hH := hR.1.1
  have hxv := ev_sound hR.2.1 x
  rw [hx] at hxv
  have hxv : a.eval x = .int .i64 n := hxv
  have hyv := ev_sound hR.2.1 y
  rw [hy] at hyv
  have hyv : a.eval y = .int .i64 n := hyv
  have hrun : (execOp a.eval ⟨o.dst, o.op, o.type, o.pos, o.after, none⟩).run E.P w = .ok (.value (.slice (some ⟨w.heap.size, 0, none⟩) n n)) (w.alloc (.cells (madeCells (Value.int .u8 0).cells (n * 1)) e)) := by
    simp only [execOp, ho, hxv, hyv]
    have := run_make (P := E.P) w T e i (.int .u8 0) hu hi hz .i64 .i64 (n : Int) (n : Int) (by omega) (Int.le_refl _) (by rw [hb]; omega) (by omega)
    rw [hs] at this
    rw [Sem.run_bind, this]
    rfl
  have hnx : ¬ lt nx nx := Nat.lt_irrefl _
  have htn := turns_allocr (nx := nx) (hp := hp) (η := η) (w := w) (.cells (madeCells (Value.int .u8 0).cells (n * 1)) e)
  have hmc : (madeCells (Value.int .u8 0).cells (n * 1)).toList = List.replicate n (.int .u8 0) := by
    rw [Nat.mul_one]
    apply List.ext_getElem (by simp [madeCells])
    intro j h1 h2
    have hj : j < n := by simpa using h2
    simp [madeCells, Value.cells, Nat.mod_one]
  have hsz : (madeCells (Value.int .u8 0).cells (n * 1)).size = n := by
    have := congrArg List.length hmc
    simpa using this
  have hown : (w.alloc (.cells (madeCells (Value.int .u8 0).cells (n * 1)) e)).ownsRow 0 e 1 (upd η nx (some w.heap.size, Value.slice (some ⟨w.heap.size, 0, none⟩) n n) nx).2 (List.replicate n (0 : Int)).length (List.replicate n (.int .u8 0)) := by
    refine ⟨by simp, .inr ⟨w.heap.size, n, _, by simp [upd], Nat.zero_le _, heap_alloc_new w _, by simp, ?_, by rw [hsz]; omega, ?_⟩⟩
    · show n ≤ maxLen
      unfold maxLen
      omega
    · rw [hmc]
      simp
  have hle := step_le (p := (some w.heap.size, .slice (some ⟨w.heap.size, 0, none⟩) n n)) (ob := .row e (.int .u8) (List.replicate n (0 : Int))) hnx hH rm_sub htn (fun k hk => .inl (by cases hk; exact Nat.le_refl _))
  have hH' := step_rep (p := (some w.heap.size, .slice (some ⟨w.heap.size, 0, none⟩) n n)) (ob := .row e (.int .u8) (List.replicate n (0 : Int))) hnx hH rm_sub htn (fun k hk => .inl (by cases hk; simp)) ⟨List.replicate n (.int .u8 0), by simp [cxS, upd, Value.ownBlock], hown, rdf_zero n (fun z => rfl)⟩
  rw [nmE_lt (Nat.le_succ nx)] at hle hH'
  exact ⟨.c (.row nx), .slice (some ⟨w.heap.size, 0, none⟩) n n, _, _, _, _, hrun, hH', hle, ⟨Nat.lt_succ_self _, by simp [cxS, upd], _, _, _, rfl⟩, hm⟩

/-- a contract of the library, from scalars to scalars -/
theorem FnD.ofCalls {P : Program} {f : Nat} {args : List SV} {post : SV → Prop} (hf : ∃ fn, P.funcs[f]? = some fn ∧ fn.body.isSome = true ∧ (fn.name == "runtime.NumGoroutine") = false)
    (h : ∀ w ok (vs : Array Value), OkW w ok → RL (RS (DX w ok)) args vs.toList → Calls P f vs w fun e w' => ∃ r v, e = .returned v ∧ post r ∧ (∀ x : Cx, RS x r v) ∧ Below w.heap.size w w') : FnD P f args post :=
  ⟨hf, fun w ok vs ho hv => (h w ok vs ho hv).mono fun _ _ ⟨r, v, e, h1, h2, h3⟩ => ⟨r, v, e, h1, h2 _, h3⟩⟩

/-! what a rune says of the bytes -/
theorem at_get (s : List UInt8) (j : Nat) (h : j < s.length) : (ByteArray.get! ⟨s.toArray⟩ j).toNat = s[j].toNat := by
  show (s.toArray[j]!).toNat = _
  simp [h]
theorem rune_bd (s : List UInt8) (p : Nat) (h : p < s.length) : 0 < (rn s p).2 ∧ p + (rn s p).2 ≤ s.length := by
  have hsz : (⟨s.toArray⟩ : ByteArray).size = s.length := by simp [ByteArray.size]
  unfold rn Utf8.decode
  simp only [hsz, Nat.add_zero]
  repeat' split
  all_goals (dsimp only; refine ⟨by omega, ?_⟩; first | omega | (simp only [Bool.and_eq_true, decide_eq_true_eq] at *; omega))
theorem rune_ascii (s : List UInt8) (p : Nat) (h : p < s.length) {c : Nat} (hc : c < 128) : (rn s p).1 = c ↔ s[p].toNat = c := by
  have hsz : (⟨s.toArray⟩ : ByteArray).size = s.length := by simp [ByteArray.size]
  unfold rn Utf8.decode
  simp only [hsz, Nat.add_zero, at_get s p h]
  have hv : Utf8.runeError = 65533 := rfl
  repeat' split
  all_goals (try simp only [Bool.and_eq_true, decide_eq_true_eq, beq_iff_eq] at *) <;> omega
theorem rune_in (s : List UInt8) (p : Nat) (h : p < s.length) {j : Nat} (h1 : p < j) (h2 : j < p + (rn s p).2) (h3 : j < s.length) : 128 ≤ s[j].toNat := by
  have hsz : (⟨s.toArray⟩ : ByteArray).size = s.length := by simp [ByteArray.size]
  have key : ∀ k, p + k < s.length → (ByteArray.get! ⟨s.toArray⟩ (p + k)).toNat / 64 = 2 → (s[p + k]?.map (·.toNat)).getD 0 ≥ 128 := fun k hk he => by
    rw [at_get s (p + k) hk] at he
    rw [List.getElem?_eq_getElem hk]
    show s[p + k].toNat ≥ 128
    omega
  have goal : (s[j]?.map (·.toNat)).getD 0 ≥ 128 → 128 ≤ s[j].toNat := fun g => by
    rw [List.getElem?_eq_getElem h3] at g
    exact g
  apply goal
  unfold rn Utf8.decode at h2
  simp only [hsz, Nat.add_zero] at h2
  obtain ⟨k, rfl⟩ : ∃ k, j = p + k := ⟨j - p, by omega⟩
  have hk4 : k = 1 ∨ k = 2 ∨ k = 3 ∨ 4 ≤ k := by omega
  repeat' split at h2
  all_goals
    simp only [Bool.and_eq_true, decide_eq_true_eq, beq_iff_eq] at *
    first
    | omega
    | (rcases hk4 with rfl | rfl | rfl | hk4 <;> first | omega | (apply key _ h3; omega))
end OE
