/- Several texts of the proof, one behind the other; put together by a program of the session (mrg.py). Own work. -/
import Derived.Lib.Builder
import Derived.Lib.AppendStr
import Derived.Lib.UnsafeStr
import Derived.Lib.Walk
import Derived.WalkKit
import Derived.Laws.Externs
import Derived.Test.YtmdjonckcapkeaaDoorPart5
/- The order of texts; no program in sight. Own work. -/
set_option linter.unusedVariables false
set_option maxRecDepth 100000
namespace Go.Proofs.YtmdjonckcapkeaaDoor
open Go Go.RowKit OE

theorem bytesLess_irr : ∀ x : List UInt8, Op.bytesLess x x = false
  | [] => rfl
  | a :: l => by simp [Op.bytesLess, bytesLess_irr l]
theorem bl_trans : ∀ {a b c : List UInt8}, Op.bytesLess a b = true → Op.bytesLess b c = true → Op.bytesLess a c = true
  | [], [], _, h, _ => by cases h
  | [], _ :: _, [], _, h => by cases h
  | [], _ :: _, _ :: _, _, _ => rfl
  | _ :: _, [], _, h, _ => by cases h
  | _ :: _, _ :: _, [], _, h => by cases h
  | x :: a, y :: b, z :: c, h1, h2 => by
    simp only [Op.bytesLess, Bool.or_eq_true, Bool.and_eq_true, decide_eq_true_eq, beq_iff_eq] at h1 h2 ⊢
    rcases h1 with h1 | ⟨rfl, h1⟩
    · rcases h2 with h2 | ⟨rfl, h2⟩
      · exact .inl (UInt8.lt_trans h1 h2)
      · exact .inl h1
    · rcases h2 with h2 | ⟨rfl, h2⟩
      · exact .inl h2
      · exact .inr ⟨rfl, bl_trans h1 h2⟩
theorem bl_tri : ∀ (a b : List UInt8), Op.bytesLess a b = true ∨ a = b ∨ Op.bytesLess b a = true
  | [], [] => .inr (.inl rfl)
  | [], _ :: _ => .inl rfl
  | _ :: _, [] => .inr (.inr rfl)
  | x :: a, y :: b => by
    simp only [Op.bytesLess, Bool.or_eq_true, Bool.and_eq_true, decide_eq_true_eq, beq_iff_eq]
    by_cases h : x < y
    · exact .inl (.inl h)
    · by_cases h2 : y < x
      · exact .inr (.inr (.inl h2))
      · have e : x = y := UInt8.le_antisymm (UInt8.not_lt.1 h2) (UInt8.not_lt.1 h)
        subst e
        rcases bl_tri a b with h | rfl | h
        · exact .inl (.inr ⟨rfl, h⟩)
        · exact .inr (.inl rfl)
        · exact .inr (.inr (.inr ⟨rfl, h⟩))

theorem bl_not (p q : List UInt8) : (Op.bytesLess p q || decide (p = q)) = !Op.bytesLess q p := by
  rcases bl_tri p q with h | h | h
  · have : Op.bytesLess q p = false := by
      cases h2 : Op.bytesLess q p with
      | false => rfl
      | true => have := bl_trans h h2; rw [bytesLess_irr] at this; cases this
    rw [h, this]; rfl
  · subst h; rw [bytesLess_irr]; simp
  · have h1 : Op.bytesLess p q = false := by
      cases h2 : Op.bytesLess p q with
      | false => rfl
      | true => have := bl_trans h h2; rw [bytesLess_irr] at this; cases this
    have h2 : p ≠ q := fun e => by subst e; rw [bytesLess_irr] at h; cases h
    rw [h, h1, decide_eq_false h2]; rfl
theorem not_t {b : Bool} (h : (!b) = true) : b = false := by cases b <;> first | rfl | cases h
theorem not_f {b : Bool} (h : (!b) = false) : b = true := by cases b <;> first | rfl | cases h
end Go.Proofs.YtmdjonckcapkeaaDoor
/- The walks of val.Props and of the reference's. Own work. -/
set_option linter.unusedVariables false
set_option maxRecDepth 100000
namespace Go.Proofs.YtmdjonckcapkeaaDoor
open Go Go.RowKit OE

theorem name_len {s : List UInt8} (h : nameS s = true) : s.length ≤ 16 := by
  unfold nameS at h
  simp only [Bool.and_eq_true, decide_eq_true_eq] at h
  exact h.1.1.2
def pv (l : List PD.T) (i : Nat) : List UInt8 := (gt (d := PD) l ((i : Int) - 1)).1
/-- is the i-th property good where it stands? -/
def goodAt (l : List PD.T) (i : Nat) : Bool := nameS (gt (d := PD) l i).1 && goodV (gt (d := PD) l i).2 && (!decide ((0 : Int) < i) || Op.bytesLess (pv l i) (gt (d := PD) l i).1)
def propsS (l : List PD.T) : Bool := !decide ((8 : Int) < l.length) && (List.range l.length).all (goodAt l)

theorem val_Props (l : List PD.T) (hl : ∀ p ∈ l, (Lit.int .i64 p.2.1).wf = true) : FnD Tryd.prog 50 [.c (.dat PD l)] (· = .c (.bool (.sym (propsS l)))) := by
  refine fn0 Tryd.func50 rfl rfl rfl ?_
  conv => whnf
  intro _
  refine ⟨fun h0 => ?_, fun h0 => ?_⟩
  · conv => whnf
    rw [propsS, h0]; rfl
  have hP : propsS l = (List.range l.length).all (goodAt l) := by rw [propsS, h0]; rfl
  simp at h0
  rw [hP]
  conv => whnf
  intro _
  conv => whnf
  refine loop0 (α := Nat) (fun i => i ≤ l.length ∧ ((List.range l.length).drop i).all (goodAt l) = (List.range l.length).all (goodAt l))
    (fun i => ⟨[(0, .c (.dat PD l)), (8, .c (.dat PD l)), (9, .c (.int .i64 l.length)), (10, .c (.int .i64 i))], [], 0⟩) (fun i => l.length - i) ⟨0, ⟨by omega, rfl⟩, ?_⟩ ?_
  · (conv => whnf); refine ⟨rfl, ?_, ?_, ?_⟩ <;> (repeat' apply And.intro) <;> first | exact trivial | rfl | exact wr_succ _ (by omega) | assumption | exact decide_eq_false (by assumption) | exact decide_eq_true (by assumption)
  rintro i ⟨hI1, hI2⟩
  conv => whnf
  refine ⟨fun h2 => ?_, fun h2 => ?_⟩
  · have h2 : i < l.length := by simp at h2; omega
    rw [all_step (by rw [List.length_range]; exact h2), List.getElem_range] at hI2
    have hg : gt (d := PD) l (i : Int) = l[i] := gt_nat (d := PD) l i h2
    have hA : goodAt l i = (nameS l[i].1 && goodV l[i].2 && (!decide ((0 : Int) < i) || Op.bytesLess (pv l i) l[i].1)) := by unfold goodAt; rw [hg]
    have hw : IntKind.wrap .i64 ((i : Int) - 1) = (i : Int) - 1 := wr64 _ (by omega) (by omega)
    conv => whnf
    try (intro _; conv => whnf)
    refine ⟨by omega, ?_⟩
    rw [gt_nat (d := PD) l i h2]
    conv => whnf
    refine any0 ?_
    conv => whnf
    refine callr0 (val_Name l[i].1) rfl ?_
    conv => whnf
    refine callrg0 (fun _ => val_Good l[i].2 (hl l[i] (List.getElem_mem h2))) rfl ?_
    conv => whnf
    refine ⟨fun h => by have := h.2; simp at this; rw [hw]; omega, ?_⟩
    conv => whnf
    rw [hw]
    refine ⟨.inl (by kernel_rfl), after0 ?_⟩
    conv => whnf
    have hc : (!nameS l[i].1 || !goodV l[i].2 || (decide ((0 : Int) < i) && (Op.bytesLess l[i].1 (pv l i) || decide (l[i].1 = pv l i)))) = !goodAt l i := by
      rw [bl_not, hA]
      cases nameS l[i].1 <;> cases goodV l[i].2 <;> cases decide ((0 : Int) < i) <;> cases Op.bytesLess (pv l i) l[i].1 <;> rfl
    refine ⟨fun h3 => ?_, fun h3 => ?_⟩
    · have h3 : goodAt l i = false := by have h3' := hc.symm.trans h3; simpa using h3'
      rw [h3, Bool.false_and] at hI2
      conv => whnf
      rw [← hI2]
    · have h3 : goodAt l i = true := by have h3' := hc.symm.trans h3; simpa using h3'
      rw [h3, Bool.true_and] at hI2
      conv => whnf
      refine ⟨i + 1, ⟨⟨by omega, hI2⟩, by omega⟩, ?_⟩
      (conv => whnf); refine ⟨rfl, ?_, ?_, ?_⟩ <;> (repeat' apply And.intro) <;> first | exact trivial | rfl | exact wr_succ _ (by omega) | assumption | exact decide_eq_false (by assumption) | exact decide_eq_true (by assumption)
  · conv => whnf
    rw [← hI2, List.drop_of_length_le (by rw [List.length_range]; simp at h2; omega)]
    rfl

end Go.Proofs.YtmdjonckcapkeaaDoor
/- The walks of val.EncodeProps and of the reference's. Own work. -/
set_option linter.unusedVariables false
set_option maxRecDepth 100000
namespace Go.Proofs.YtmdjonckcapkeaaDoor
open Go Go.RowKit OE

/-- a property's bytes; properties' bytes -/
def enc1 (p : PD.T) : List UInt8 := Num.putT p.1 ++ encV p.2
def encL (l : List PD.T) : List UInt8 := (l.map enc1).flatten
def encPs (l : List PD.T) : List UInt8 := if propsS l = true then Num.putN l.length ++ encL l else []
def errPs (l : List PD.T) : Int := if propsS l = true then 0 else 142

theorem props_all {l : List PD.T} (h : propsS l = true) : l.length ≤ 8 ∧ ∀ p ∈ l, nameS p.1 = true ∧ goodV p.2 = true := by
  simp only [propsS, Bool.and_eq_true, Bool.not_eq_true', decide_eq_false_iff_not] at h
  refine ⟨by omega, fun p hp => ?_⟩
  obtain ⟨i, hi, rfl⟩ := List.getElem_of_mem hp
  have := List.all_eq_true.1 h.2 i (by simpa using hi)
  have hg : gt (d := PD) l (i : Int) = l[i] := gt_nat (d := PD) l i hi
  simp only [goodAt, hg, Bool.and_eq_true] at this
  exact this.1
theorem encV_len {v : VD.T} (hv : Wf VD v) : (encV v).length ≤ 1040 := by
  have hz := wf_i64 hv.2.1
  have hzl := putZ_len v.2.1 hz.1 hz.2
  unfold encV
  split
  · show 1 ≤ _; omega
  · split
    · rename_i hg
      have hl := good_len hg
      split
      · show 1 + 1 ≤ _; omega
      · split
        · rw [List.length_append]; show 1 + _ ≤ _; omega
        · rw [List.length_append]
          have := Num.putN_ten (n := v.2.2.length) (Nat.lt_of_le_of_lt hl (by decide))
          unfold Num.putT
          rw [List.length_append]
          show 1 + _ ≤ _; omega
    · simp
theorem enc1_len {p : PD.T} (hp : Wf PD p) (hn : p.1.length ≤ 16) : (enc1 p).length ≤ 1066 := by
  have := encV_len hp.2
  have := Num.putN_ten (n := p.1.length) (Nat.lt_of_le_of_lt hn (by decide))
  unfold enc1 Num.putT
  rw [List.length_append, List.length_append]
  have hn : List.length p.1 ≤ 16 := hn
  omega
theorem encL_len : ∀ {l : List PD.T}, (∀ p ∈ l, Wf PD p ∧ p.1.length ≤ 16) → (encL l).length ≤ l.length * 1066
  | [], _ => by simp [encL]
  | p :: l, h => by
    have h1 := enc1_len (h p (by simp)).1 (h p (by simp)).2
    have h2 := encL_len (l := l) fun q hq => h q (by simp [hq])
    unfold encL at h2 ⊢
    rw [List.map_cons, List.flatten_cons, List.length_append, List.length_cons, Nat.add_mul]
    omega
theorem encL_step {l : List PD.T} {i : Nat} (h : i < l.length) : encL (l.take (i + 1)) = encL (l.take i) ++ enc1 l[i] := by
  rw [take_step h]
  unfold encL
  rw [List.map_append, List.flatten_append]
  simp only [List.map_cons, List.map_nil, List.flatten_cons, List.flatten_nil, List.append_nil]

theorem val_EncodeProps (l : List PD.T) (hl : Wf (.list PD) l) : FnD Tryd.prog 54 [.c (.dat PD l)] (· = .tup [(false, [.str (encPs l)]), (false, [.int .i64 (errPs l)])]) := by
  refine fn0 Tryd.func54 rfl rfl rfl ?_
  conv => whnf
  refine call1 (val_Props l (fun p hp => (hl.2 p hp).2.1)) rfl ?_
  conv => whnf
  refine ⟨fun h1 => ?_, fun h1 => ?_⟩
  · conv => whnf
    simp at h1
    simp [encPs, errPs, h1]
  simp at h1
  obtain ⟨hn, hall⟩ := props_all h1
  have hE : encPs l = Num.putN l.length ++ encL l := if_pos h1
  have hR : errPs l = 0 := if_pos h1
  rw [hE, hR]
  have hbd : ∀ i, (encL (l.take i)).length ≤ 8528 := fun i => by
    refine Nat.le_trans (encL_len fun p hp => ⟨hl.2 p (List.mem_of_mem_take hp), name_len (hall p (List.mem_of_mem_take hp)).1⟩) ?_
    rw [List.length_take]; omega
  have hpl := Num.putN_ten (n := l.length) (by omega)
  have hcat : ∀ i (h : i < l.length), (Num.putT l[i].1).length + (encV l[i].2).length ≤ 1066 := fun i h => by
    have := enc1_len (hl.2 l[i] (List.getElem_mem h)) (name_len (hall l[i] (List.getElem_mem h)).1)
    unfold enc1 at this
    rw [List.length_append] at this
    exact this
  have hnl : ∀ i (h : i < l.length), l[i].1.length ≤ 140737488355327 := fun i h => Nat.le_trans (name_len (hall l[i] (List.getElem_mem h)).1) (by decide)
  conv => whnf
  intro _
  conv => whnf
  rw [wru64 _ (by omega) (by omega)]
  refine call1 (num_Put l.length (by omega)) rfl ?_
  conv => whnf
  intro _
  conv => whnf
  refine loop0 (α := Nat) (fun i => i ≤ l.length) (fun i => ⟨[(4, .c (.str (Num.putN l.length ++ encL (l.take i)))), (14, .c (.dat PD l)), (15, .c (.int .i64 l.length)), (16, .c (.int .i64 i))], [], 0⟩) (fun i => l.length - i) ⟨0, by omega, ?_⟩ ?_
  · (conv => whnf); exact ⟨rfl, ⟨by simp [encL], rfl, rfl, rfl, trivial⟩, trivial, trivial⟩
  intro i hI
  have hb := hbd i
  conv => whnf
  refine ⟨fun h2 => ?_, fun h2 => ?_⟩
  · have h2 : i < l.length := by simp at h2; omega
    have hc := hcat i h2
    conv => whnf
    try (intro _; conv => whnf)
    refine ⟨by omega, ?_⟩
    rw [gt_nat (d := PD) l i h2]
    conv => whnf
    refine any0 ?_
    conv => whnf
    refine callr0 (num_PutText l[i].1 (hnl i h2)) rfl ?_
    conv => whnf
    refine callr0 (val_Encode l[i].2 (hl.2 l[i] (List.getElem_mem h2)).2) rfl ?_
    conv => whnf
    refine ⟨by omega, ?_⟩
    conv => whnf
    refine ⟨by rw [List.length_append, List.length_append]; omega, ?_⟩
    conv => whnf
    refine ⟨.inl (by kernel_rfl), after0 ?_⟩
    conv => whnf
    refine ⟨i + 1, ⟨by omega, by omega⟩, ?_⟩
    rw [encL_step h2]
    (conv => whnf); exact ⟨rfl, ⟨by rw [← List.append_assoc]; rfl, rfl, rfl, wr_succ _ (by omega), trivial⟩, trivial, trivial⟩
  · conv => whnf
    rw [List.take_of_length_le (by simp at h2; omega)]
end Go.Proofs.YtmdjonckcapkeaaDoor
/- What properties' bytes say; no program in sight. Own work. -/
set_option linter.unusedVariables false
set_option maxRecDepth 100000
namespace Go.Proofs.YtmdjonckcapkeaaDoor
open Go Go.RowKit OE

/-- n properties that stand from a place on, and how many bytes they have -/
def decL : Nat → List UInt8 → Int → Option (List PD.T × Nat)
  | 0, _, _ => some ([], 0)
  | n + 1, s, k => match Num.getT s k 16 with
    | none => none
    | some (t, i) => match decV s (k + i) with
      | none => none
      | some (v, j) => match decL n s (k + i + j) with
        | none => none
        | some (l, m) => some ((t, v) :: l, i + j + m)
def decPs (s : List UInt8) (k : Int) : Option (List PD.T × Nat) := match Num.getN s k with
  | none => none
  | some (n, i) => if 8 < n then none else match decL n s (k + i) with
    | none => none
    | some (l, m) => if propsS l = true then some (l, i + m) else none

/-- properties behind those that were read already -/
def joinD (done : List PD.T) (z : Nat) : Option (List PD.T × Nat) → Option (List PD.T × Nat)
  | none => none
  | some (l, m) => some (done ++ l, z + m)
theorem joinD_step (n : Nat) (s : List UInt8) (k : Int) (done : List PD.T) (z : Nat) : joinD done z (decL (n + 1) s k) = match Num.getT s k 16 with
    | none => none
    | some (t, i) => match decV s (k + i) with
      | none => none
      | some (v, j) => joinD (done ++ [(t, v)]) (z + (i + j)) (decL n s (k + i + j)) := by
  rw [decL]
  cases Num.getT s k 16 with
  | none => rfl
  | some p =>
    dsimp only
    cases decV s (k + p.2) with
    | none => rfl
    | some q =>
      dsimp only
      cases decL n s (k + p.2 + q.2) with
      | none => rfl
      | some r =>
        simp only [joinD, List.append_assoc, List.singleton_append, Nat.add_assoc]
theorem joinD_nil (o : Option (List PD.T × Nat)) : joinD [] 0 o = o := by
  cases o with
  | none => rfl
  | some p => simp [joinD]
theorem decV_bd {s : List UInt8} {k : Int} {v : VD.T} {j : Nat} (h : decV s k = some (v, j)) : 0 ≤ k ∧ k + j ≤ s.length := by
  unfold decV at h
  split at h
  · cases h
  · rename_i hr
    unfold decB at h
    split at h
    · simp only [Option.some.injEq, Prod.mk.injEq] at h; omega
    · split at h
      · split at h
        · rename_i h2; simp only [Option.some.injEq, Prod.mk.injEq] at h; omega
        · cases h
      · split at h
        · cases hg : Num.getN s (k + 1) with
          | none => rw [hg] at h; cases h
          | some p =>
            have hb := Num.getN_bd (m := p.1) (k := p.2) hg
            rw [hg] at h
            simp only [Option.some.injEq, Prod.mk.injEq] at h
            omega
        · split at h
          · cases hg : Num.getT s (k + 1) 1024 with
            | none => rw [hg] at h; cases h
            | some p =>
              have hb := getT_bd (t := p.1) (i := p.2) hg
              rw [hg] at h
              simp only [Option.some.injEq, Prod.mk.injEq] at h
              omega
          · cases h
theorem decV_kind {s : List UInt8} {k : Int} {v : VD.T} {j : Nat} (h : decV s k = some (v, j)) : (Lit.int .i64 v.1).wf = true := by
  unfold decV at h
  split at h
  · cases h
  · unfold decB at h
    split at h
    · simp only [Option.some.injEq, Prod.mk.injEq] at h; rw [← h.1]; rfl
    · split at h
      · split at h
        · simp only [Option.some.injEq, Prod.mk.injEq] at h; rw [← h.1]; rfl
        · cases h
      · split at h
        · cases hg : Num.getN s (k + 1) with
          | none => rw [hg] at h; cases h
          | some p =>
            rw [hg] at h
            simp only [Option.some.injEq, Prod.mk.injEq] at h
            rw [← h.1]; rfl
        · split at h
          · cases hg : Num.getT s (k + 1) 1024 with
            | none => rw [hg] at h; cases h
            | some p =>
              rw [hg] at h
              simp only [Option.some.injEq, Prod.mk.injEq] at h
              rw [← h.1]; rfl
          · cases h
end Go.Proofs.YtmdjonckcapkeaaDoor
/- Rules' bytes: what was encoded is decoded as it was, what was decoded is encoded as it stood; no program in sight. Own work. -/
set_option linter.unusedVariables false
set_option maxRecDepth 100000
namespace Go.Proofs.YtmdjonckcapkeaaDoor
open Go Go.RowKit OE

theorem gnS_at {s : List UInt8} {k : Int} (p : List UInt8) (n : Nat) (r : List UInt8) (hn : n ≤ 1000000) (hs : s = p ++ Num.putN n ++ r) (hk : k = p.length) : gnS s k = some (n, (Num.putN n).length) := by
  unfold gnS
  rw [hs, hk, Num.getN_put n p r (by omega)]
  exact if_pos hn
theorem gtS_at {s : List UInt8} {k : Int} (p : List UInt8) (t : List UInt8) (r : List UInt8) (hn : t.length ≤ 16) (hs : s = p ++ Num.putT t ++ r) (hk : k = p.length) : Num.getT s k 16 = some (t, (Num.putT t).length) := by
  rw [hs, hk, Num.getT_put t p r 16 (by omega) (by omega)]
theorem gnS_take {s : List UInt8} {k : Int} {n i : Nat} (h : gnS s k = some (n, i)) (j : Nat) (hj : k.toNat = j) : (s.drop j).take i = Num.putN n ∧ j + i ≤ s.length := by
  unfold gnS at h
  cases hg : Num.getN s k with
  | none => rw [hg] at h; cases h
  | some p =>
    rw [hg] at h
    dsimp only at h
    split at h
    · simp only [Option.some.injEq] at h
      rw [h] at hg
      have hb := Num.getN_bd hg
      rw [← hj]
      exact ⟨Num.getN_take hg, by omega⟩
    · cases h
theorem gtS_take {s : List UInt8} {k most : Int} {t : List UInt8} {i : Nat} (h : Num.getT s k most = some (t, i)) (j : Nat) (hj : k.toNat = j) : (s.drop j).take i = Num.putT t ∧ j + i ≤ s.length := by
  unfold Num.getT at h
  cases hg : Num.getN s k with
  | none => rw [hg] at h; cases h
  | some p =>
    have hb := Num.getN_bd (m := p.1) (k := p.2) hg
    have ht := Num.getN_take (m := p.1) (k := p.2) hg
    rw [hg] at h
    dsimp only at h
    split at h
    · cases h
    · rename_i hc
      simp only [Option.some.injEq, Prod.mk.injEq] at h
      obtain ⟨h1, h2⟩ := h
      rw [hj] at h1 ht hc hb
      have hl : t.length = p.1 := by rw [← h1, List.length_take, List.length_drop, List.length_drop]; omega
      refine ⟨?_, by omega⟩
      unfold Num.putT
      rw [← h2, List.take_add, ht, h1, hl]

theorem toNat_le (x : Int) (h : x ≤ 1000000) : x.toNat ≤ 1000000 := by omega

theorem bytS_len {r : RD.T} (h : okS r = true) : (bytS r).length ≤ 144 := by
  obtain ⟨i0, i1, k0, k1, n0, n1, s0, s1, t0, t1, t2, t3⟩ := okR h
  have p1 := putN_b r.1 i1
  have p2 := putN_b r.2.1 (Int.le_trans k1 (by decide))
  have p3 := putN_b r.2.2.2.2.2.2.2 (Int.le_trans s1 (by decide))
  have p4 := putN_b r.2.2.2.2.2.2.1 (Int.le_trans n1 (by decide))
  have q1 := putT_b t0
  have q2 := putT_b t1
  have q3 := putT_b t2
  have q4 := putT_b t3
  simp only [bytS, List.length_append]
  omega

theorem back1 (r : RD.T) (h : okS r = true) : decS ([120] ++ encS r ++ [120]) 1 = some (r, (encS r).length) := by
  obtain ⟨i0, i1, k0, k1, n0, n1, s0, s1, t0, t1, t2, t3⟩ := okR h
  have k1 : r.2.1 ≤ 1000000 := Int.le_trans k1 (by decide)
  have n1 : r.2.2.2.2.2.2.1 ≤ 1000000 := Int.le_trans n1 (by decide)
  have s1 : r.2.2.2.2.2.2.2 ≤ 1000000 := Int.le_trans s1 (by decide)
  have k0 : 0 ≤ r.2.1 := Int.le_trans (by decide) k0
  have e : encS r = bytS r := by unfold encS; rw [if_pos h]
  rw [e]
  have hd : decP ([120] ++ bytS r ++ [120]) 1 = some (r, (bytS r).length) := by
    obtain ⟨x1, x2, x3, x4, x5, x6, x7, x8⟩ := r
    dsimp only at *
    unfold bytS
    dsimp only
    have y1 := Int.toNat_of_nonneg i0
    have y2 := Int.toNat_of_nonneg k0
    have y7 := Int.toNat_of_nonneg n0
    have y8 := Int.toNat_of_nonneg s0
    generalize hS : ([120] ++ (Num.putN x1.toNat ++ Num.putN x2.toNat ++ Num.putN x8.toNat ++ Num.putN x7.toNat ++ Num.putT x3 ++ Num.putT x4 ++ Num.putT x5 ++ Num.putT x6) ++ [120] : List UInt8) = S
    have g1 := gnS_at (s := S) (k := 1) [120] x1.toNat (Num.putN x2.toNat ++ Num.putN x8.toNat ++ Num.putN x7.toNat ++ Num.putT x3 ++ Num.putT x4 ++ Num.putT x5 ++ Num.putT x6 ++ [120]) (toNat_le _ i1) (by rw [← hS]; simp only [List.append_assoc]) (by simp)
    have g2 := gnS_at (s := S) (k := 1 + ((Num.putN x1.toNat).length : Int)) ([120] ++ Num.putN x1.toNat) x2.toNat (Num.putN x8.toNat ++ Num.putN x7.toNat ++ Num.putT x3 ++ Num.putT x4 ++ Num.putT x5 ++ Num.putT x6 ++ [120]) (toNat_le _ k1) (by rw [← hS]; simp only [List.append_assoc]) (by simp only [List.length_append, List.length_singleton]; omega)
    have g3 := gnS_at (s := S) (k := 1 + ((Num.putN x1.toNat).length : Int) + ((Num.putN x2.toNat).length : Int)) ([120] ++ Num.putN x1.toNat ++ Num.putN x2.toNat) x8.toNat (Num.putN x7.toNat ++ Num.putT x3 ++ Num.putT x4 ++ Num.putT x5 ++ Num.putT x6 ++ [120]) (toNat_le _ s1) (by rw [← hS]; simp only [List.append_assoc]) (by simp only [List.length_append, List.length_singleton]; omega)
    have g4 := gnS_at (s := S) (k := 1 + ((Num.putN x1.toNat).length : Int) + ((Num.putN x2.toNat).length : Int) + ((Num.putN x8.toNat).length : Int)) ([120] ++ Num.putN x1.toNat ++ Num.putN x2.toNat ++ Num.putN x8.toNat) x7.toNat (Num.putT x3 ++ Num.putT x4 ++ Num.putT x5 ++ Num.putT x6 ++ [120]) (toNat_le _ n1) (by rw [← hS]; simp only [List.append_assoc]) (by simp only [List.length_append, List.length_singleton]; omega)
    have g5 := gtS_at (s := S) (k := 1 + ((Num.putN x1.toNat).length : Int) + ((Num.putN x2.toNat).length : Int) + ((Num.putN x8.toNat).length : Int) + ((Num.putN x7.toNat).length : Int)) ([120] ++ Num.putN x1.toNat ++ Num.putN x2.toNat ++ Num.putN x8.toNat ++ Num.putN x7.toNat) x3 (Num.putT x4 ++ Num.putT x5 ++ Num.putT x6 ++ [120]) t0 (by rw [← hS]; simp only [List.append_assoc]) (by simp only [List.length_append, List.length_singleton]; omega)
    have g6 := gtS_at (s := S) (k := 1 + ((Num.putN x1.toNat).length : Int) + ((Num.putN x2.toNat).length : Int) + ((Num.putN x8.toNat).length : Int) + ((Num.putN x7.toNat).length : Int) + ((Num.putT x3).length : Int)) ([120] ++ Num.putN x1.toNat ++ Num.putN x2.toNat ++ Num.putN x8.toNat ++ Num.putN x7.toNat ++ Num.putT x3) x4 (Num.putT x5 ++ Num.putT x6 ++ [120]) t1 (by rw [← hS]; simp only [List.append_assoc]) (by simp only [List.length_append, List.length_singleton]; omega)
    have g7 := gtS_at (s := S) (k := 1 + ((Num.putN x1.toNat).length : Int) + ((Num.putN x2.toNat).length : Int) + ((Num.putN x8.toNat).length : Int) + ((Num.putN x7.toNat).length : Int) + ((Num.putT x3).length : Int) + ((Num.putT x4).length : Int)) ([120] ++ Num.putN x1.toNat ++ Num.putN x2.toNat ++ Num.putN x8.toNat ++ Num.putN x7.toNat ++ Num.putT x3 ++ Num.putT x4) x5 (Num.putT x6 ++ [120]) t2 (by rw [← hS]; simp only [List.append_assoc]) (by simp only [List.length_append, List.length_singleton]; omega)
    have g8 := gtS_at (s := S) (k := 1 + ((Num.putN x1.toNat).length : Int) + ((Num.putN x2.toNat).length : Int) + ((Num.putN x8.toNat).length : Int) + ((Num.putN x7.toNat).length : Int) + ((Num.putT x3).length : Int) + ((Num.putT x4).length : Int) + ((Num.putT x5).length : Int)) ([120] ++ Num.putN x1.toNat ++ Num.putN x2.toNat ++ Num.putN x8.toNat ++ Num.putN x7.toNat ++ Num.putT x3 ++ Num.putT x4 ++ Num.putT x5) x6 [120] t3 (by rw [← hS]; simp only [List.append_assoc]) (by simp only [List.length_append, List.length_singleton]; omega)
    simp only [decP, g1, g2, g3, g4, g5, g6, g7, g8, List.length_append]
    rw [y1, y2, y7, y8]
  simp only [decS, hd, h, if_true]

theorem back2 {s : List UInt8} {q : RD.T} {n : Nat} (h : decS s 0 = some (q, n)) : okS q = true ∧ encS q = s.take n ∧ n ≤ s.length := by
  unfold decS at h
  cases hp : decP s 0 with
  | none => rw [hp] at h; cases h
  | some p =>
    rw [hp] at h
    dsimp only at h
    split at h
    case isFalse => cases h
    rename_i hok
    simp only [Option.some.injEq] at h
    rw [h] at hp hok
    refine ⟨hok, ?_⟩
    unfold encS
    rw [if_pos hok]
    unfold decP at hp
    cases g1 : gnS s 0 with
    | none => rw [g1] at hp; cases hp
    | some p1 =>
    rw [g1] at hp; dsimp only at hp
    cases g2 : gnS s (0 + p1.2) with
    | none => rw [g2] at hp; cases hp
    | some p2 =>
    rw [g2] at hp; dsimp only at hp
    cases g3 : gnS s (0 + p1.2 + p2.2) with
    | none => rw [g3] at hp; cases hp
    | some p3 =>
    rw [g3] at hp; dsimp only at hp
    cases g4 : gnS s (0 + p1.2 + p2.2 + p3.2) with
    | none => rw [g4] at hp; cases hp
    | some p4 =>
    rw [g4] at hp; dsimp only at hp
    cases g5 : Num.getT s (0 + p1.2 + p2.2 + p3.2 + p4.2) 16 with
    | none => rw [g5] at hp; cases hp
    | some p5 =>
    rw [g5] at hp; dsimp only at hp
    cases g6 : Num.getT s (0 + p1.2 + p2.2 + p3.2 + p4.2 + p5.2) 16 with
    | none => rw [g6] at hp; cases hp
    | some p6 =>
    rw [g6] at hp; dsimp only at hp
    cases g7 : Num.getT s (0 + p1.2 + p2.2 + p3.2 + p4.2 + p5.2 + p6.2) 16 with
    | none => rw [g7] at hp; cases hp
    | some p7 =>
    rw [g7] at hp; dsimp only at hp
    cases g8 : Num.getT s (0 + p1.2 + p2.2 + p3.2 + p4.2 + p5.2 + p6.2 + p7.2) 16 with
    | none => rw [g8] at hp; cases hp
    | some p8 =>
    rw [g8] at hp; dsimp only at hp
    simp only [Option.some.injEq, Prod.mk.injEq] at hp
    obtain ⟨rfl, rfl⟩ := hp
    have t1 := gnS_take (n := p1.1) (i := p1.2) g1 0 rfl
    have t2 := gnS_take (n := p2.1) (i := p2.2) g2 p1.2 (by omega)
    have t3 := gnS_take (n := p3.1) (i := p3.2) g3 (p1.2 + p2.2) (by omega)
    have t4 := gnS_take (n := p4.1) (i := p4.2) g4 (p1.2 + p2.2 + p3.2) (by omega)
    have t5 := gtS_take (t := p5.1) (i := p5.2) g5 (p1.2 + p2.2 + p3.2 + p4.2) (by omega)
    have t6 := gtS_take (t := p6.1) (i := p6.2) g6 (p1.2 + p2.2 + p3.2 + p4.2 + p5.2) (by omega)
    have t7 := gtS_take (t := p7.1) (i := p7.2) g7 (p1.2 + p2.2 + p3.2 + p4.2 + p5.2 + p6.2) (by omega)
    have t8 := gtS_take (t := p8.1) (i := p8.2) g8 (p1.2 + p2.2 + p3.2 + p4.2 + p5.2 + p6.2 + p7.2) (by omega)
    refine ⟨?_, t8.2⟩
    unfold bytS
    rw [List.take_add, List.take_add, List.take_add, List.take_add, List.take_add, List.take_add, List.take_add, t2.1, t3.1, t4.1, t5.1, t6.1, t7.1, t8.1, show s.take p1.2 = Num.putN p1.1 from t1.1]
    rfl
end Go.Proofs.YtmdjonckcapkeaaDoor
/- Values' and properties' bytes: what was encoded is decoded as it was, what was decoded is encoded as it stood; no program in sight. Own work. -/
set_option linter.unusedVariables false
set_option maxRecDepth 100000
namespace Go.Proofs.YtmdjonckcapkeaaDoor
open Go Go.RowKit OE

theorem zag_zig' (b : Int) : Num.zag (Num.zig b) = b := by
  unfold Num.zag Num.zig
  split <;> split <;> omega
theorem zig_zag' (u : Nat) : Num.zig (Num.zag u) = u := by
  unfold Num.zag Num.zig
  split <;> split <;> omega
theorem kb_small {n : Nat} (h : n < 256) : kb (n : Int) = [UInt8.ofNat n] := by
  unfold kb
  rw [wru8, show ((n : Int) % 256) = n by omega]
  rfl
theorem bt_at (p : List UInt8) (c : UInt8) (r : List UInt8) : bt (p ++ c :: r) (p.length : Int) = (c.toNat : Int) := by
  rw [bt_nat _ _ (by simp)]
  simp
theorem bt_at' {s : List UInt8} {k : Int} (p : List UInt8) (c : UInt8) (r : List UInt8) (hs : s = p ++ c :: r) (hk : k = p.length) : bt s k = (c.toNat : Int) := by
  rw [hs, hk, bt_at]
theorem blank_is {v : VD.T} (h : blankV v = true) : v = (0, 0, []) := by
  rw [← blank_eq] at h
  exact (D.eqb_iff VD v (0, 0, [])).1 h
theorem encV_blank : encV ((0, 0, []) : VD.T) = [0] := rfl

theorem decV_enc {v : VD.T} (hv : Wf VD v) (h : blankV v = true ∨ goodV v = true) (p r : List UInt8) {s : List UInt8} {k : Int} (hs : s = p ++ encV v ++ r) (hk : k = p.length) :
    decV s k = some (v, (encV v).length) := by
  by_cases hb : blankV v = true
  · have e := blank_is hb
    subst e
    rw [encV_blank] at hs ⊢
    have h0 : bt s k = 0 := by rw [bt_at' (s := s) (k := k) p 0 r (by rw [hs]; simp) hk]; rfl
    have hr : ¬ (k < 0 ∨ (s.length : Int) ≤ k) := by rw [hs, hk]; simp; omega
    unfold decV decB
    rw [if_neg hr, if_pos h0]
    rfl
  have hg : goodV v = true := h.resolve_left hb
  obtain ⟨x, y, t⟩ := v
  have hz := wf_i64 hv.2.1
  have hx : x = 1 ∨ x = 2 ∨ x = 3 := by
    unfold goodV at hg
    dsimp only at hg
    split at hg
    · exact .inl (by assumption)
    · split at hg
      · exact .inr (.inl (by assumption))
      · split at hg
        · exact .inr (.inr (by assumption))
        · cases hg
  rcases hx with rfl | rfl | rfl
  · have hE : encV ((1, y, t) : VD.T) = [1] ++ byl [IntKind.wrap .u8 y] := by
      unfold encV; rw [if_neg hb, if_pos hg]; rfl
    have hgg : (y = 0 ∨ y = 1) ∧ t = [] := by
      have : good1 ((1, y, t) : VD.T) = true := hg
      simpa [good1] using this
    obtain ⟨hy, rfl⟩ := hgg
    rw [hE] at hs ⊢
    have hby : byl [IntKind.wrap .u8 y] = [UInt8.ofNat y.toNat] := by rcases hy with rfl | rfl <;> rfl
    rw [hby] at hs ⊢
    have h0 : bt s k = 1 := by rw [bt_at' (s := s) (k := k) p 1 (UInt8.ofNat y.toNat :: r) (by rw [hs]; simp) hk]; rfl
    have h1 : bt s (k + 1) = y := by
      rw [bt_at' (s := s) (k := k + 1) (p ++ [1]) (UInt8.ofNat y.toNat) r (by rw [hs]; simp) (by rw [hk]; simp)]
      rcases hy with rfl | rfl <;> rfl
    have hr : ¬ (k < 0 ∨ (s.length : Int) ≤ k) := by rw [hs, hk]; simp; omega
    have hr2 : k + 1 < s.length := by rw [hs, hk]; simp; omega
    unfold decV decB
    rw [if_neg hr, h0, h1]
    rw [if_neg (by decide), if_pos rfl, if_pos ⟨hr2, by rcases hy with rfl | rfl <;> decide⟩]
    rfl
  · have hE : encV ((2, y, t) : VD.T) = [2] ++ Num.putZ y := by
      unfold encV; rw [if_neg hb, if_pos hg]; rfl
    have ht : t = [] := by
      have : decide (t = []) = true := hg
      simpa using this
    subst ht
    rw [hE] at hs ⊢
    have h0 : bt s k = 2 := by rw [bt_at' (s := s) (k := k) p 2 (Num.putZ y ++ r) (by rw [hs]; simp) hk]; rfl
    have hr : ¬ (k < 0 ∨ (s.length : Int) ≤ k) := by rw [hs, hk]; simp; omega
    have hgn : Num.getN s (k + 1) = some (Num.zig y, (Num.putZ y).length) := by
      have := Num.getN_put (Num.zig y) (p ++ [2]) r (zig_bd y hz.1 hz.2)
      rw [show s = p ++ [2] ++ Num.putN (Num.zig y) ++ r by rw [hs]; simp [Num.putZ], show k + 1 = ((p ++ [2]).length : Int) by rw [hk]; simp]
      exact this
    unfold decV decB
    rw [if_neg hr, h0, hgn]
    dsimp only
    rw [if_neg (by decide), if_neg (by decide), if_pos rfl, zag_zig', List.length_append]
    rw [Nat.add_comm]; rfl
  · have hE : encV ((3, y, t) : VD.T) = [3] ++ Num.putT t := by
      unfold encV; rw [if_neg hb, if_pos hg]; rfl
    have hgg : y = 0 ∧ (t.length : Int) ≤ 1024 := by
      have : good3 ((3, y, t) : VD.T) = true := hg
      simpa [good3] using this
    obtain ⟨rfl, hl⟩ := hgg
    rw [hE] at hs ⊢
    have h0 : bt s k = 3 := by rw [bt_at' (s := s) (k := k) p 3 (Num.putT t ++ r) (by rw [hs]; simp) hk]; rfl
    have hr : ¬ (k < 0 ∨ (s.length : Int) ≤ k) := by rw [hs, hk]; simp; omega
    have hgn : Num.getT s (k + 1) 1024 = some (t, (Num.putT t).length) := by
      have := Num.getT_put t (p ++ [3]) r 1024 hl (by omega)
      rw [show s = p ++ [3] ++ Num.putT t ++ r by rw [hs]; simp, show k + 1 = ((p ++ [3]).length : Int) by rw [hk]; simp]
      exact this
    unfold decV decB
    rw [if_neg hr, h0, hgn]
    dsimp only
    rw [if_neg (by decide), if_neg (by decide), if_neg (by decide), if_pos rfl, List.length_append]
    rw [Nat.add_comm]; rfl

theorem drop_take1 {s : List UInt8} {k : Nat} (h : k < s.length) (j : Nat) : (s.drop k).take (j + 1) = s[k] :: (s.drop (k + 1)).take j := by
  rw [List.drop_eq_getElem_cons h, List.take_succ_cons]
theorem kb_bt {s : List UInt8} {k : Nat} (h : k < s.length) : kb (bt s (k : Int)) = [s[k]] := by
  rw [bt_nat s k h, kb_small (UInt8.toNat_lt _)]
  simp
theorem getT_take' {s : List UInt8} {k most : Int} {t : List UInt8} {i : Nat} (h : Num.getT s k most = some (t, i)) (hk : 0 ≤ most) : (t.length : Int) ≤ most := by
  unfold Num.getT at h
  cases hg : Num.getN s k with
  | none => rw [hg] at h; cases h
  | some p =>
    rw [hg] at h
    dsimp only at h
    split at h
    · cases h
    · rename_i hc
      simp only [Option.some.injEq, Prod.mk.injEq] at h
      obtain ⟨h1, h2⟩ := h
      have : t.length ≤ p.1 := by rw [← h1, List.length_take]; omega
      omega
theorem decV_take {s : List UInt8} {k : Int} {v : VD.T} {j : Nat} (h : decV s k = some (v, j)) : (s.drop k.toNat).take j = encV v := by
  unfold decV at h
  split at h
  · cases h
  rename_i hr
  obtain ⟨n, rfl⟩ : ∃ n : Nat, k = n := ⟨k.toNat, by omega⟩
  have hn : n < s.length := by omega
  have hkb := kb_bt hn
  rw [Int.toNat_natCast]
  unfold decB at h
  split at h
  · rename_i h0
    simp only [Option.some.injEq, Prod.mk.injEq] at h
    obtain ⟨rfl, rfl⟩ := h
    rw [h0] at hkb
    rw [drop_take1 hn 0, encV_blank, List.take_zero]
    exact hkb.symm
  split at h
  · rename_i h0
    split at h
    · rename_i h1
      simp only [Option.some.injEq, Prod.mk.injEq] at h
      obtain ⟨rfl, rfl⟩ := h
      have hn1 : n + 1 < s.length := by omega
      have hb1 : bt s ((n : Int) + 1) = (s[n + 1].toNat : Int) := bt_nat s (n + 1) hn1
      have hkb1 := kb_bt hn1
      rw [h0] at hkb
      have h2 := h1.2
      rw [hb1] at h2 ⊢
      rw [show (bt s (((n + 1 : Nat)) : Int)) = (s[n + 1].toNat : Int) from hb1] at hkb1
      have hy : (s[n + 1].toNat : Int) = 0 ∨ (s[n + 1].toNat : Int) = 1 := by omega
      have hg : goodV ((1, (s[n + 1].toNat : Int), []) : VD.T) = true := by
        show good1 ((1, (s[n + 1].toNat : Int), []) : VD.T) = true
        simp only [good1, decide_true, Bool.and_true, Bool.or_eq_true, decide_eq_true_eq]
        exact hy
      have hb : ¬ blankV ((1, (s[n + 1].toNat : Int), []) : VD.T) = true := by simp [blankV]
      unfold encV
      rw [if_neg hb, if_pos hg]
      dsimp only
      rw [if_pos rfl, drop_take1 hn 1, drop_take1 hn1 0, List.take_zero]
      unfold kb at hkb hkb1 ⊢
      rw [hkb, hkb1]; rfl
    · cases h
  split at h
  · rename_i h0
    cases hg : Num.getN s ((n : Int) + 1) with
    | none => rw [hg] at h; cases h
    | some p =>
      rw [hg] at h
      simp only [Option.some.injEq, Prod.mk.injEq] at h
      obtain ⟨rfl, rfl⟩ := h
      have ht := Num.getN_take (m := p.1) (k := p.2) hg
      rw [show ((n : Int) + 1).toNat = n + 1 by omega] at ht
      rw [h0] at hkb
      have hgd : goodV ((2, Num.zag p.1, []) : VD.T) = true := rfl
      have hb : ¬ blankV ((2, Num.zag p.1, []) : VD.T) = true := by simp [blankV]
      unfold encV
      rw [if_neg hb, if_pos hgd]
      dsimp only
      rw [if_neg (by decide), if_pos rfl, drop_take1 hn p.2, ht]
      unfold Num.putZ
      rw [zig_zag', hkb]; rfl
  split at h
  · rename_i h0
    cases hg : Num.getT s ((n : Int) + 1) 1024 with
    | none => rw [hg] at h; cases h
    | some p =>
      rw [hg] at h
      simp only [Option.some.injEq, Prod.mk.injEq] at h
      obtain ⟨rfl, rfl⟩ := h
      have ht := (gtS_take (t := p.1) (i := p.2) hg (n + 1) (by omega)).1
      have hl := getT_take' (t := p.1) (i := p.2) hg (by decide)
      rw [h0] at hkb
      have hgd : goodV ((3, 0, p.1) : VD.T) = true := by
        show good3 ((3, 0, p.1) : VD.T) = true
        simp only [good3, decide_true, Bool.true_and, decide_eq_true_eq]
        exact hl
      have hb : ¬ blankV ((3, 0, p.1) : VD.T) = true := by simp [blankV]
      unfold encV
      rw [if_neg hb, if_pos hgd]
      dsimp only
      rw [if_neg (by decide), if_neg (by decide), drop_take1 hn p.2, ht, hkb]; rfl
  · cases h

theorem encL_cons (p : PD.T) (l : List PD.T) : encL (p :: l) = enc1 p ++ encL l := by
  unfold encL; rw [List.map_cons, List.flatten_cons]
theorem decL_enc : ∀ {l : List PD.T} (_ : ∀ p ∈ l, Wf PD p ∧ nameS p.1 = true ∧ goodV p.2 = true) (p r : List UInt8) {s : List UInt8} {k : Int} (_ : s = p ++ encL l ++ r) (_ : k = p.length),
    decL l.length s k = some (l, (encL l).length)
  | [], _, _, _, _, _, _, _ => rfl
  | q :: l, h, p, r, s, k, hs, hk => by
    have hq := h q (by simp)
    have hl := name_len hq.2.1
    rw [encL_cons] at hs ⊢
    unfold enc1 at hs ⊢
    have g1 := gtS_at (s := s) (k := k) p q.1 (encV q.2 ++ encL l ++ r) (by omega) (by rw [hs]; simp only [List.append_assoc]) hk
    have g2 := decV_enc (s := s) (k := k + ((Num.putT q.1).length : Int)) hq.1.2 (.inr hq.2.2) (p ++ Num.putT q.1) (encL l ++ r) (by rw [hs]; simp only [List.append_assoc]) (by rw [hk, List.length_append]; omega)
    have g3 := decL_enc (l := l) (fun x hx => h x (by simp [hx])) (p ++ Num.putT q.1 ++ encV q.2) r (s := s) (k := k + ((Num.putT q.1).length : Int) + ((encV q.2).length : Int)) (by rw [hs]; simp only [List.append_assoc]) (by rw [hk, List.length_append, List.length_append]; omega)
    rw [List.length_cons, decL, g1]
    dsimp only
    rw [g2]
    dsimp only
    rw [g3]
    dsimp only
    rw [List.length_append, List.length_append]
theorem decL_take : ∀ {n : Nat} {s : List UInt8} {k : Int} {l : List PD.T} {m : Nat}, 0 ≤ k → decL n s k = some (l, m) → (s.drop k.toNat).take m = encL l ∧ l.length = n ∧ ∀ p ∈ l, (Lit.int .i64 p.2.1).wf = true
  | 0, s, k, l, m, _, h => by
    simp only [decL, Option.some.injEq, Prod.mk.injEq] at h
    obtain ⟨rfl, rfl⟩ := h
    exact ⟨rfl, rfl, by simp⟩
  | n + 1, s, k, l, m, h0, h => by
    rw [decL] at h
    cases g1 : Num.getT s k 16 with
    | none => rw [g1] at h; cases h
    | some p1 =>
    rw [g1] at h; dsimp only at h
    cases g2 : decV s (k + p1.2) with
    | none => rw [g2] at h; cases h
    | some p2 =>
    rw [g2] at h; dsimp only at h
    cases g3 : decL n s (k + p1.2 + p2.2) with
    | none => rw [g3] at h; cases h
    | some p3 =>
    rw [g3] at h; dsimp only at h
    simp only [Option.some.injEq, Prod.mk.injEq] at h
    obtain ⟨rfl, rfl⟩ := h
    have t1 := (gtS_take (t := p1.1) (i := p1.2) g1 k.toNat rfl).1
    have t2 := decV_take (v := p2.1) (j := p2.2) g2
    have t3 := decL_take (l := p3.1) (m := p3.2) (by omega) g3
    rw [show (k + (p1.2 : Int)).toNat = k.toNat + p1.2 by omega] at t2
    rw [show (k + (p1.2 : Int) + (p2.2 : Int)).toNat = k.toNat + p1.2 + p2.2 by omega] at t3
    refine ⟨?_, by rw [List.length_cons, t3.2.1], fun q hq => ?_⟩
    · rw [encL_cons, List.take_add, List.take_add, List.drop_drop, List.drop_drop, ← Nat.add_assoc, t1, t2, t3.1]; rfl
    · rcases List.mem_cons.1 hq with rfl | hq
      · exact decV_kind (v := p2.1) (j := p2.2) g2
      · exact t3.2.2 q hq
theorem decPs_enc {l : List PD.T} (hl : Wf (.list PD) l) (h : propsS l = true) (p r : List UInt8) {s : List UInt8} {k : Int} (hs : s = p ++ encPs l ++ r) (hk : k = p.length) : decPs s k = some (l, (encPs l).length) := by
  have ha := props_all h
  have hE : encPs l = Num.putN l.length ++ encL l := if_pos h
  rw [hE] at hs ⊢
  have g1 : Num.getN s k = some (l.length, (Num.putN l.length).length) := by
    rw [show s = p ++ Num.putN l.length ++ (encL l ++ r) by rw [hs]; simp only [List.append_assoc], hk]
    exact Num.getN_put l.length p _ (by omega)
  have g2 := decL_enc (l := l) (fun q hq => ⟨hl.2 q hq, ha.2 q hq⟩) (p ++ Num.putN l.length) r (s := s) (k := k + ((Num.putN l.length).length : Int)) (by rw [hs]; simp only [List.append_assoc]) (by rw [hk, List.length_append]; omega)
  unfold decPs
  rw [g1]
  dsimp only
  rw [if_neg (by omega), g2]
  dsimp only
  rw [if_pos h, List.length_append]
theorem decL_bd : ∀ {n : Nat} {s : List UInt8} {k : Int} {l : List PD.T} {m : Nat}, decL n s k = some (l, m) → k ≤ s.length → k + m ≤ s.length
  | 0, s, k, l, m, h, h0 => by
    simp only [decL, Option.some.injEq, Prod.mk.injEq] at h
    omega
  | n + 1, s, k, l, m, h, h0 => by
    rw [decL] at h
    cases g1 : Num.getT s k 16 with
    | none => rw [g1] at h; cases h
    | some p1 =>
    rw [g1] at h; dsimp only at h
    cases g2 : decV s (k + p1.2) with
    | none => rw [g2] at h; cases h
    | some p2 =>
    rw [g2] at h; dsimp only at h
    cases g3 : decL n s (k + p1.2 + p2.2) with
    | none => rw [g3] at h; cases h
    | some p3 =>
    rw [g3] at h; dsimp only at h
    simp only [Option.some.injEq, Prod.mk.injEq] at h
    have b2 := decV_bd (v := p2.1) (j := p2.2) g2
    have b3 := decL_bd (l := p3.1) (m := p3.2) g3 (by omega)
    omega
theorem decPs_take {s : List UInt8} {l : List PD.T} {m : Nat} (h : decPs s 0 = some (l, m)) : propsS l = true ∧ s.take m = encPs l ∧ m ≤ s.length ∧ ∀ p ∈ l, (Lit.int .i64 p.2.1).wf = true := by
  unfold decPs at h
  cases g1 : Num.getN s 0 with
  | none => rw [g1] at h; cases h
  | some p1 =>
  rw [g1] at h; dsimp only at h
  split at h
  · cases h
  cases g2 : decL p1.1 s (0 + p1.2) with
  | none => rw [g2] at h; cases h
  | some p2 =>
  rw [g2] at h; dsimp only at h
  split at h
  case isFalse => cases h
  rename_i hp
  simp only [Option.some.injEq, Prod.mk.injEq] at h
  obtain ⟨rfl, rfl⟩ := h
  have t1 := Num.getN_take (m := p1.1) (k := p1.2) g1
  have t2 := decL_take (l := p2.1) (m := p2.2) (by omega) g2
  rw [show ((0 : Int) + (p1.2 : Int)).toNat = p1.2 by omega] at t2
  refine ⟨hp, ?_, ?_, t2.2.2⟩
  · unfold encPs
    rw [if_pos hp, List.take_add, t2.1, t2.2.1, show s.take p1.2 = Num.putN p1.1 from t1]
  · have b1 := Num.getN_bd (m := p1.1) (k := p1.2) g1
    have b2 := decL_bd (l := p2.1) (m := p2.2) g2 (by omega)
    omega

theorem i64_ok {a : Int} (h0 : -9223372036854775808 ≤ a) (h1 : a ≤ 9223372036854775807) : (Lit.int .i64 a).wf = true := by
  simpa [Lit.wf, IntKind.min, IntKind.max, IntKind.bits, IntKind.signed] using ⟨h0, h1⟩
theorem zag_bd (u : Nat) (h : u < 18446744073709551616) : -9223372036854775808 ≤ Num.zag u ∧ Num.zag u ≤ 9223372036854775807 := by
  unfold Num.zag; split <;> omega
theorem decV_wf {s : List UInt8} {k : Int} {v : VD.T} {j : Nat} (h : decV s k = some (v, j)) : Wf VD v := by
  have hk := decV_kind h
  refine ⟨hk, ?_⟩
  clear hk
  unfold decV at h
  split at h
  · cases h
  unfold decB at h
  split at h
  · simp only [Option.some.injEq, Prod.mk.injEq] at h
    rw [← h.1]; exact ⟨rfl, by simp [Wf]⟩
  split at h
  · split at h
    · simp only [Option.some.injEq, Prod.mk.injEq] at h
      have hb := bt_rng s (k + 1)
      rw [← h.1]; exact ⟨show (Lit.int .i64 (bt s (k + 1))).wf = true from i64_ok (by omega) (by omega), by simp [Wf]⟩
    · cases h
  split at h
  · cases hg : Num.getN s (k + 1) with
    | none => rw [hg] at h; cases h
    | some p =>
      have hb := Num.getN_bd (m := p.1) (k := p.2) hg
      have hz := zag_bd p.1 (Nat.lt_of_lt_of_le hb.1 (by decide))
      rw [hg] at h
      simp only [Option.some.injEq, Prod.mk.injEq] at h
      rw [← h.1]; exact ⟨i64_ok hz.1 hz.2, by simp [Wf]⟩
  split at h
  · cases hg : Num.getT s (k + 1) 1024 with
    | none => rw [hg] at h; cases h
    | some p =>
      have hl := getT_take' (t := p.1) (i := p.2) hg (by decide)
      rw [hg] at h
      simp only [Option.some.injEq, Prod.mk.injEq] at h
      rw [← h.1]; exact ⟨rfl, by show p.1.length ≤ _; omega⟩
  · cases h
theorem decL_wf : ∀ {n : Nat} {s : List UInt8} {k : Int} {l : List PD.T} {m : Nat}, decL n s k = some (l, m) → ∀ p ∈ l, Wf PD p
  | 0, s, k, l, m, h => by
    simp only [decL, Option.some.injEq, Prod.mk.injEq] at h
    rw [← h.1]; simp
  | n + 1, s, k, l, m, h => by
    rw [decL] at h
    cases g1 : Num.getT s k 16 with
    | none => rw [g1] at h; cases h
    | some p1 =>
    rw [g1] at h; dsimp only at h
    cases g2 : decV s (k + p1.2) with
    | none => rw [g2] at h; cases h
    | some p2 =>
    rw [g2] at h; dsimp only at h
    cases g3 : decL n s (k + p1.2 + p2.2) with
    | none => rw [g3] at h; cases h
    | some p3 =>
    rw [g3] at h; dsimp only at h
    simp only [Option.some.injEq, Prod.mk.injEq] at h
    intro q hq
    rw [← h.1] at hq
    rcases List.mem_cons.1 hq with rfl | hq
    · have hl := getT_take' (t := p1.1) (i := p1.2) g1 (by decide)
      exact ⟨by show p1.1.length ≤ _; omega, decV_wf (v := p2.1) (j := p2.2) g2⟩
    · exact decL_wf (l := p3.1) (m := p3.2) g3 q hq
theorem decPs_wf {s : List UInt8} {k : Int} {l : List PD.T} {m : Nat} (h : decPs s k = some (l, m)) : Wf (.list PD) l := by
  unfold decPs at h
  cases g1 : Num.getN s k with
  | none => rw [g1] at h; cases h
  | some p1 =>
  rw [g1] at h; dsimp only at h
  split at h
  · cases h
  cases g2 : decL p1.1 s (k + p1.2) with
  | none => rw [g2] at h; cases h
  | some p2 =>
  rw [g2] at h; dsimp only at h
  split at h
  case isFalse => cases h
  rename_i hp
  simp only [Option.some.injEq, Prod.mk.injEq] at h
  rw [← h.1]
  exact ⟨by have := (props_all hp).1; show p2.1.length ≤ _; omega, decL_wf (l := p2.1) (m := p2.2) g2⟩
end Go.Proofs.YtmdjonckcapkeaaDoor
/- What is small of a command, and of one that was read. Own work. -/
set_option linter.unusedVariables false
namespace Go.Proofs.YtmdjonckcapkeaaDoor
open Go Go.RowKit OE

structure SmC (m : MD.T) : Prop where
  ty : (mType m).length ≤ 1000
  nm : (mName m).length ≤ 1000
  v : Wf VD (mV m)
  to : Wf VD (mTo m)
  oty : (mOp m).2.2.1.length ≤ 1000
  onm : (mOp m).2.2.2.2.2.1.length ≤ 1000
  ov : Wf VD (oV (mOp m))
theorem putT_1000 {t : List UInt8} (h : t.length ≤ 1000) : (Num.putT t).length ≤ 1010 := by
  unfold Num.putT
  have := Num.putN_ten (n := t.length) (Nat.lt_of_le_of_lt h (by decide))
  rw [List.length_append]; omega
theorem txS_len {t : List UInt8} {e : Bool} (h : t.length ≤ 1000) : (txS t e).1.length ≤ 1010 := putT_1000 h
theorem nuS_len (n a b : Int) : (nuS n a b).1.length ≤ 10 := Num.putN_ten (wrap_u64 n).2
theorem vaS_len {v : VD.T} {e : Bool} (h : Wf VD v) : (vaS v e).1.length ≤ 1040 := encV_len h
theorem encS_144 (r : RD.T) : (encS r).length ≤ 144 := by
  unfold encS
  split
  · rename_i h; exact bytS_len h
  · simp
theorem putO_len {m : MD.T} (h : SmC m) (f : Int) : (putO (mOp m) f).1.length ≤ 1040 := by
  generalize hr : putO (mOp m) f = r
  unfold putO at hr
  repeat' split at hr
  all_goals subst hr
  all_goals first | exact Nat.le_trans (txS_len h.oty) (by decide) | exact Nat.le_trans (txS_len h.onm) (by decide) | exact Nat.le_trans (nuS_len _ _ _) (by decide) | exact vaS_len h.ov | (show 1 ≤ 1040; decide)
theorem allS_len {P : Int → List UInt8 × Bool} {B : Nat} (h : ∀ f, (P f).1.length ≤ B) (k : Int) (l : List UInt8) : (allS P k l).1.length ≤ 1 + l.length * B := by
  unfold allS
  split
  · have := flat_len h l
    rw [List.length_append]
    show 1 + _ ≤ _
    omega
  · exact Nat.zero_le _
theorem ops_three (k : Int) : (gt (d := .str) opsL k).length ≤ 3 := by
  show (opsL.getD k.toNat []).length ≤ 3
  rcases Nat.lt_or_ge k.toNat 6 with h | h
  · exact (by decide : ∀ n : Fin 6, (opsL.getD n.1 []).length ≤ 3) ⟨k.toNat, h⟩
  · have : opsL.getD k.toNat [] = [] := by rw [List.getD_eq_getElem?_getD, List.getElem?_eq_none h]; rfl
    rw [this]; decide
theorem cmd_four (k : Int) : (gt (d := .str) cmdL k).length ≤ 4 := by
  show (cmdL.getD k.toNat []).length ≤ 4
  rcases Nat.lt_or_ge k.toNat 21 with h | h
  · exact (by decide : ∀ n : Fin 21, (cmdL.getD n.1 []).length ≤ 4) ⟨k.toNat, h⟩
  · have : cmdL.getD k.toNat [] = [] := by rw [List.getD_eq_getElem?_getD, List.getElem?_eq_none h]; rfl
    rw [this]; decide
theorem chgS_len {m : MD.T} (h : SmC m) : (chgS (mOp m)).1.length ≤ 4000 := by
  unfold chgS
  split
  · exact Nat.zero_le _
  · refine Nat.le_trans (allS_len (putO_len h) _ _) ?_
    have := Nat.mul_le_mul_right 1040 (ops_three (mOp m).1)
    omega
theorem putM_len {m : MD.T} (h : SmC m) (f : Int) : (putM m f).1.length ≤ 4000 := by
  generalize hr : putM m f = r
  unfold putM at hr
  repeat' split at hr
  all_goals subst hr
  all_goals first | exact Nat.le_trans (txS_len h.ty) (by decide) | exact Nat.le_trans (txS_len h.nm) (by decide) | exact Nat.le_trans (nuS_len _ _ _) (by decide) | exact Nat.le_trans (vaS_len h.v) (by decide) | exact Nat.le_trans (vaS_len h.to) (by decide) | exact Nat.le_trans (encS_144 _) (by decide) | exact chgS_len h
theorem bytM_len {m : MD.T} (h : SmC m) : (bytM m).1.length ≤ 16001 := by
  unfold bytM
  split
  · exact Nat.zero_le _
  · refine Nat.le_trans (allS_len (putM_len h) _ _) ?_
    have := Nat.mul_le_mul_right 4000 (cmd_four m.1)
    omega
theorem SmC.m {m : MD.T} (h : SmC m) : SmM m := by
  have hl : (1000 : Nat) ≤ 140737488355327 := by decide
  exact ⟨h.ty, h.nm, h.v, h.to, fun f => Nat.le_trans (putO_len h f) (by decide), Nat.le_trans h.oty hl, Nat.le_trans h.onm hl, h.ov⟩
theorem small_bytes {m : MD.T} (h : SmC m) : FnD Tryd.prog 35 [.agg (mc m)] (· = paR (bytM m)) := wire_bytes m (fun f => Nat.le_trans (putM_len h f) (by decide)) h.m

/-! what was read is small -/
theorem tS_sm (s : List UInt8) (k : Int) : (tS s k).1.length ≤ 1000 := by
  unfold tS
  cases hg : Num.getT s k 16 with
  | none => exact Nat.zero_le _
  | some p =>
    obtain ⟨t, i⟩ := p
    unfold Num.getT at hg
    split at hg
    · cases hg
    · split at hg
      · cases hg
      · rename_i hc
        simp only [Option.some.injEq, Prod.mk.injEq] at hg
        simp only [Option.getD_some]
        rw [← hg.1, List.length_take]
        omega
theorem vS_sm (s : List UInt8) (k : Int) : Wf VD (vS' s k).1 := by
  unfold vS'
  cases hg : decV s k with
  | none => exact ⟨by decide, by decide, by decide⟩
  | some p => exact decV_wf hg
theorem gO_sm {m : MD.T} {f : Int} {s : List UInt8} {k : Int} (h : SmC m) : SmC (sO m (gO (mOp m) f s k).1) := by
  generalize hr : gO (mOp m) f s k = r
  unfold gO at hr
  repeat' split at hr
  all_goals subst hr
  · exact ⟨h.ty, h.nm, h.v, h.to, tS_sm s k, h.onm, h.ov⟩
  · exact ⟨h.ty, h.nm, h.v, h.to, h.oty, tS_sm s k, h.ov⟩
  · exact ⟨h.ty, h.nm, h.v, h.to, h.oty, h.onm, h.ov⟩
  · exact ⟨h.ty, h.nm, h.v, h.to, h.oty, h.onm, h.ov⟩
  · exact ⟨h.ty, h.nm, h.v, h.to, h.oty, h.onm, h.ov⟩
  · exact ⟨h.ty, h.nm, h.v, h.to, h.oty, h.onm, vS_sm s k⟩
  · exact ⟨h.ty, h.nm, h.v, h.to, h.oty, h.onm, h.ov⟩
  · exact ⟨h.ty, h.nm, h.v, h.to, h.oty, h.onm, h.ov⟩
theorem fld_sm {G : MD.T → Int → Int → MD.T × Int × Bool} (hG : ∀ m f k, SmC m → SmC (G m f k).1) : ∀ (l : List UInt8) (m : MD.T) (k z : Int), SmC m → SmC (fldS G l m k z).1
  | [], m, _, _, h => h
  | f :: l, m, k, z, h => by
    unfold fldS
    split
    · exact fld_sm hG l _ _ _ (hG _ _ _ h)
    · exact hG _ _ _ h
theorem gM_sm {m : MD.T} {f : Int} {s : List UInt8} {k : Int} (h : SmC m) : SmC (gM s m f k).1 := by
  generalize hr : gM s m f k = r
  unfold gM at hr
  repeat' split at hr
  all_goals subst hr
  · exact ⟨tS_sm s k, h.nm, h.v, h.to, h.oty, h.onm, h.ov⟩
  · exact ⟨h.ty, tS_sm s k, h.v, h.to, h.oty, h.onm, h.ov⟩
  · exact ⟨h.ty, h.nm, h.v, h.to, h.oty, h.onm, h.ov⟩
  · exact ⟨h.ty, h.nm, vS_sm s k, h.to, h.oty, h.onm, h.ov⟩
  · exact ⟨h.ty, h.nm, h.v, vS_sm s k, h.oty, h.onm, h.ov⟩
  · exact ⟨h.ty, h.nm, h.v, h.to, h.oty, h.onm, h.ov⟩
  · exact ⟨h.ty, h.nm, h.v, h.to, h.oty, h.onm, h.ov⟩
  · unfold chR
    split
    · exact h
    · exact fld_sm (fun m f k h => gO_sm h) _ _ _ _ ⟨h.ty, h.nm, h.v, h.to, h.oty, h.onm, h.ov⟩
theorem wf0 : Wf VD ((0, 0, []) : VD.T) := ⟨by decide, by decide, Nat.zero_le _⟩
theorem m0_sm (k : Int) : SmC (m0 k) := ⟨Nat.zero_le _, Nat.zero_le _, wf0, wf0, Nat.zero_le _, Nat.zero_le _, wf0⟩
theorem read_sm (s : List UInt8) : SmC (readS s).1 := by
  unfold readS
  split
  · exact m0_sm 0
  · exact fld_sm (fun m f k h => gM_sm h) _ _ _ _ (m0_sm _)
end Go.Proofs.YtmdjonckcapkeaaDoor
/- The walks of wire.Good, Encode, Decode, Message. Own work. -/
set_option linter.unusedVariables false
set_option maxRecDepth 100000
namespace Go.Proofs.YtmdjonckcapkeaaDoor
open Go Go.RowKit OE

def goodM (m : MD.T) : Bool := (bytM m).2 && ((readS (bytM m).1).2 && MD.eqb (readS (bytM m).1).1 m)
def encM (m : MD.T) : List UInt8 := if goodM m = true then (bytM m).1 else []
def errM (m : MD.T) : Int := if goodM m = true then 0 else 11
def decOk (s : List UInt8) : Bool := (readS s).2 && ((bytM (readS s).1).2 && decide ((bytM (readS s).1).1 = s))
def decM (s : List UInt8) : MD.T := if decOk s = true then (readS s).1 else MD.df
def derM (s : List UInt8) : Int := if decOk s = true then 0 else 11
def msgM (m : MD.T) : List UInt8 := if goodM m = true then Num.putT (bytM m).1 else []
theorem rl_tup {x : Cx} {b c : BE} (h : b.v = c.v) : ∀ {L : List (Bool × List C)} {vs : List Value}, RL (RP x) (L ++ [(false, [.bool b])]) vs → RL (RP x) (L ++ [(false, [.bool c])]) vs
  | [], [], hv => hv.elim
  | [], v :: vs, ⟨h1, h2⟩ => by
    refine ⟨?_, h2⟩
    unfold RP at h1 ⊢
    simp only [Bool.false_eq_true, if_false] at h1 ⊢
    obtain ⟨y, hy, h3⟩ := h1
    simp only [List.cons.injEq, and_true] at hy
    subst hy
    exact ⟨_, rfl, by show v = .bool c.v; rw [← h]; exact h3⟩
  | _ :: L, [], hv => hv.elim
  | _ :: L, v :: vs, ⟨h1, h2⟩ => ⟨h1, rl_tup h h2⟩
theorem FnD.tt {P : Program} {f : Nat} {args : List SV} {L : List (Bool × List C)} {b c : BE} (h : FnD P f args (· = .tup (L ++ [(false, [.bool b])]))) (hb : b.v = c.v) : FnD P f args (· = .tup (L ++ [(false, [.bool c])])) :=
  h.res fun r hr w ok v hv => by
    subst hr
    obtain ⟨vs, e, hl⟩ := hv
    exact ⟨vs, e, rl_tup hb hl⟩
theorem read_tt {s : List UInt8} (hs : s.length ≤ 100000000) (h : (readS s).2 = true) : FnD Tryd.prog 34 [.c (.str s)] (· = .tup [(true, mc (readS s).1), (false, [.bool .tt])]) :=
  FnD.tt (L := [(true, mc (readS s).1)]) (wire_read s hs) h
theorem read_ff {s : List UInt8} (hs : s.length ≤ 100000000) (h : (readS s).2 = false) : FnD Tryd.prog 34 [.c (.str s)] (· = .tup [(true, mc (readS s).1), (false, [.bool .ff])]) :=
  FnD.tt (L := [(true, mc (readS s).1)]) (wire_read s hs) h
theorem wire_Good (m : MD.T) (h : SmC m) : FnD Tryd.prog 36 [.agg (mc m)] (· = .c (.bool (.sym (goodM m)))) := by
  refine fn0 Tryd.func36 rfl rfl rfl ?_
  conv => whnf
  refine call1 (small_bytes h) rfl ?_
  conv => whnf
  refine ⟨fun a => ?_, fun a => ?_⟩
  · rw [show goodM m = false by unfold goodM; rw [wnt a]; rfl]
    conv => whnf
  have a : (bytM m).2 = true := wnf a
  have hl : (bytM m).1.length ≤ 100000000 := Nat.le_trans (bytM_len h) (by decide)
  rw [show goodM m = ((readS (bytM m).1).2 && MD.eqb (readS (bytM m).1).1 m) by unfold goodM; rw [a]; rfl]
  conv => whnf
  cases hr : (readS (bytM m).1).2 with
  | false =>
    refine call1 (read_ff hl hr) rfl ?_
    conv => whnf
    rfl
  | true =>
    refine call1 (read_tt hl hr) rfl ?_
    conv => whnf
    refine eqs0 MD (p := (readS (bytM m).1).1) (q := m) 100 rfl (by kernel_rfl) rfl (by kernel_rfl) rfl rfl rfl ?_
    conv => whnf
    rfl
theorem wire_Encode (m : MD.T) (h : SmC m) : FnD Tryd.prog 29 [.agg (mc m)] (· = .tup [(false, [.str (encM m)]), (false, [.int .i64 (errM m)])]) := by
  refine fn0 Tryd.func29 rfl rfl rfl ?_
  conv => whnf
  refine call1 (wire_Good m h) rfl ?_
  conv => whnf
  refine ⟨fun a => ?_, fun a => ?_⟩
  · have a := wnt a
    rw [show encM m = [] from if_neg (by rw [a]; decide), show errM m = 11 from if_neg (by rw [a]; decide)]
    conv => whnf
  have a := wnf a
  rw [show encM m = (bytM m).1 from if_pos a, show errM m = 0 from if_pos a]
  conv => whnf
  refine call1 (small_bytes h) rfl ?_
  conv => whnf
theorem wire_Message (m : MD.T) (h : SmC m) : FnD Tryd.prog 19 [.agg (mc m)] (· = .tup [(false, [.str (msgM m)]), (false, [.int .i64 (errM m)])]) := by
  refine fn0 Tryd.func19 rfl rfl rfl ?_
  conv => whnf
  refine call1 (wire_Encode m h) rfl ?_
  conv => whnf
  refine ⟨fun a => ?_, fun a => ?_⟩
  · have a : ¬ goodM m = true := fun hg => by rw [show errM m = 0 from if_pos hg] at a; cases a
    rw [show msgM m = [] from if_neg a]
    conv => whnf
  have a : goodM m = true := Decidable.byContradiction fun hg => by rw [show errM m = 11 from if_neg hg] at a; cases a
  rw [show msgM m = Num.putT (bytM m).1 from if_pos a, show errM m = 0 from if_pos a, show encM m = (bytM m).1 from if_pos a]
  conv => whnf
  refine call1 (num_PutText (bytM m).1 (Nat.le_trans (bytM_len h) (by decide))) rfl ?_
  conv => whnf
theorem wire_Decode (s : List UInt8) (hs : s.length ≤ 100000000) : FnD Tryd.prog 22 [.c (.str s)] (· = .tup [(true, mc (decM s)), (false, [.int .i64 (derM s)])]) := by
  have hO : decOk s = !(!(readS s).2 || !(bytM (readS s).1).2 || !decide ((bytM (readS s).1).1 = s)) := by
    unfold decOk; cases (readS s).2 <;> cases (bytM (readS s).1).2 <;> simp
  refine fn0 Tryd.func22 rfl rfl rfl ?_
  conv => whnf
  refine call1 (wire_read s hs) rfl ?_
  conv => whnf
  refine call1 (small_bytes (read_sm s)) rfl ?_
  conv => whnf
  refine ⟨fun a => ?_, fun a => ?_⟩
  · have a : decOk s = false := by rw [hO, a]; rfl
    rw [show decM s = MD.df from if_neg (by rw [a]; decide), show derM s = 11 from if_neg (by rw [a]; decide)]
    conv => whnf
    rfl
  have a : decOk s = true := by rw [hO, a]; rfl
  rw [show decM s = (readS s).1 from if_pos a, show derM s = 0 from if_pos a]
  conv => whnf
end Go.Proofs.YtmdjonckcapkeaaDoor
/- The walks of wire.lacks, Next. Own work. -/
set_option linter.unusedVariables false
set_option maxRecDepth 100000
namespace Go.Proofs.YtmdjonckcapkeaaDoor
open Go Go.RowKit OE

/-- may bytes become a message's length? -/
def lackS : List UInt8 → Bool
  | [] => true
  | [c] => decide (128 ≤ c.toNat)
  | _ => false
theorem wire_lacks (s : List UInt8) (hs : s.length ≤ 100000000) : FnD Tryd.prog 33 [.c (.str s), .c (.int .u64 8192)] (· = .c (.bool (.sym (lackS s)))) := by
  refine fn0 Tryd.func33 rfl rfl rfl ?_
  conv => whnf
  refine loop0 (α := Nat × Nat) (fun p => p.1 ≤ 1 ∧ p.2 < 128 ^ p.1 ∧ p.1 ≤ s.length ∧ (p.1 = 1 → ∃ c l, s = c :: l ∧ 128 ≤ c.toNat))
    (fun p => ⟨[(0, .c (.str s)), (1, .c (.int .u64 8192)), (5, .c (.int .u64 p.2)), (8, .c (.int .i64 s.length)), (9, .c (.int .i64 p.1))], [], 0⟩) (fun p => 2 - p.1) ⟨(0, 0), ⟨by dsimp only; omega, by decide, Nat.zero_le _, fun h => (by cases h)⟩, ?_⟩ ?_
  · (conv => whnf); refine ⟨rfl, ?_, ?_, ?_⟩ <;> (repeat' apply And.intro) <;> first | exact trivial | rfl | exact wr_succ _ (by omega) | assumption | exact decide_eq_false (by assumption) | exact decide_eq_true (by assumption)
  rintro ⟨i, n⟩ ⟨hI1, hI2, hI3, hI4⟩
  dsimp only at hI1 hI2 hI3 hI4 ⊢
  conv => whnf
  refine ⟨fun h4 => ?_, fun h4 => ?_⟩
  · have h4 : i < s.length := by simp at h4; omega
    have hb : bt s (i : Int) = ((s[i]).toNat : Int) := bt_nat s i h4
    conv => whnf
    refine ⟨by omega, ?_⟩
    conv => whnf
    rw [hb]
    have hlong : i = 1 → lackS s = false := fun h => by
      obtain ⟨c, l, rfl, _⟩ := hI4 h
      cases l with
      | nil => simp at h4; omega
      | cons d l => rfl
    refine ⟨fun h5 => ?_, fun h5 => ?_⟩
    · have hL : lackS s = false := by
        rcases Nat.lt_or_ge i 1 with hi | hi
        · have hi : i = 0 := by omega
          subst hi
          have h6 : s[0].toNat < 128 := by simp at h5; omega
          cases s with
          | nil => simp at h4
          | cons c l =>
            cases l with
            | nil => simp only [lackS]; exact decide_eq_false (by simpa using h6)
            | cons => rfl
        · exact hlong (by omega)
      rw [hL]
      conv => whnf
    have h6 : 128 ≤ s[i].toNat := by simp at h5; omega
    have hc := (s[i]).toNat_lt
    have hg := get_bits n s[i].toNat i hI2 (by omega) hc (by omega)
    have e7 : IntKind.wrap .i64 (7 * (i : Int)) = ((7 * i : Nat) : Int) := by rw [wr64 _ (by omega) (by omega)]; omega
    have e8 : IntKind.wrap .i64 (IntKind.wrap .i64 (7 * (i : Int)) + 7) = ((7 * i + 7 : Nat) : Int) := by rw [e7, wr64 _ (by omega) (by omega)]; omega
    conv => whnf
    refine ⟨by omega, ?_⟩
    conv => whnf
    rw [hb]
    refine ⟨by rw [e7]; omega, ?_⟩
    conv => whnf
    refine ⟨by rw [e8]; omega, ?_⟩
    conv => whnf
    rw [hg, e8]
    have hT : IntKind.wrap .u64 (((n + s[i].toNat % 128 * 128 ^ i : Nat) : Int) + IntKind.wrap .u64 (1 * 2 ^ min (((7 * i + 7 : Nat) : Int)).toNat IntKind.u64.bits)) = ((n + s[i].toNat % 128 * 128 ^ i + 2 ^ (7 * i + 7) : Nat) : Int) := by
      rcases Nat.lt_or_ge i 1 with hi | hi
      · have hi : i = 0 := by omega
        subst hi
        rw [show IntKind.wrap .u64 (1 * 2 ^ min (((7 * 0 + 7 : Nat) : Int)).toNat IntKind.u64.bits) = 128 from rfl, wru64 _ (by omega) (by omega)]
        try omega
      · have hi : i = 1 := by omega
        subst hi
        rw [show IntKind.wrap .u64 (1 * 2 ^ min (((7 * 1 + 7 : Nat) : Int)).toNat IntKind.u64.bits) = 16384 from rfl, wru64 _ (by omega) (by omega)]
        try omega
    rw [hT]
    refine ⟨fun h7 => ?_, fun h7 => ?_⟩
    · have h7 : 8192 < n + s[i].toNat % 128 * 128 ^ i + 2 ^ (7 * i + 7) := by have := of_decide_eq_true h7; omega
      rw [hlong (by
        rcases Nat.lt_or_ge i 1 with hi | hi
        · have hi : i = 0 := by omega
          subst hi
          simp at h7 hI2
          omega
        · omega)]
      conv => whnf
    have h7 : ¬ 8192 < n + s[i].toNat % 128 * 128 ^ i + 2 ^ (7 * i + 7) := fun h => by have := of_decide_eq_false h7; omega
    have hi : i = 0 := by
      rcases Nat.lt_or_ge i 1 with hi | hi
      · omega
      · have hi : i = 1 := by omega
        subst hi
        exfalso; omega
    subst hi
    conv => whnf
    refine ⟨(1, n + s[0].toNat % 128 * 128 ^ 0), ⟨⟨by dsimp only; omega, by dsimp only; simp at hI2 ⊢; omega, by dsimp only; omega, fun _ => ?_⟩, by dsimp only; omega⟩, ?_⟩
    · cases s with
      | nil => simp at h4
      | cons c l => exact ⟨c, l, rfl, h6⟩
    (conv => whnf); refine ⟨rfl, ?_, ?_, ?_⟩ <;> (repeat' apply And.intro) <;> first | exact trivial | rfl | exact wr_succ _ (by omega) | assumption | exact decide_eq_false (by assumption) | exact decide_eq_true (by assumption)
  · have h4 : i = s.length := by simp at h4; omega
    have hL : lackS s = true := by
      rcases Nat.lt_or_ge i 1 with hi | hi
      · have : s = [] := List.eq_nil_of_length_eq_zero (by omega)
        rw [this]; rfl
      · obtain ⟨c, l, rfl, h7⟩ := hI4 (by omega)
        cases l with
        | nil => exact decide_eq_true h7
        | cons => simp at h4; omega
    rw [hL]
    conv => whnf
/-- the message with which bytes begin: its body, its size, an error -/
def nextM (s : List UInt8) : List UInt8 × Int × Int :=
  if (Num.getN s 0).isSome = false ∧ lackS s = true then ([], 0, 0)
  else if (Num.getN s 0).isSome = false ∨ (8192 : Int) < (nS s 0).1 then ([], 0, 11)
  else if s.length < (nS s 0).1 + (nS s 0).2 then ([], 0, 0)
  else ((s.drop (nS s 0).2).take (nS s 0).1, ((nS s 0).2 + (nS s 0).1 : Nat), 0)
theorem wire_Next (s : List UInt8) (hs : s.length ≤ 100000000) : FnD Tryd.prog 21 [.c (.str s)] (· = .tup [(false, [.str (nextM s).1]), (false, [.int .i64 (nextM s).2.1]), (false, [.int .i64 (nextM s).2.2])]) := by
  refine fn0 Tryd.func21 rfl rfl rfl ?_
  conv => whnf
  refine call1 (num_Get s 0 (Nat.le_trans hs (by decide))) rfl ?_
  conv => whnf
  refine callg0 (fun _ => wire_lacks s hs) rfl ?_
  conv => whnf
  refine ⟨fun a => ?_, fun a => ?_⟩
  · rw [show nextM s = ([], 0, 0) from if_pos (by simpa using a)]
    conv => whnf
  have a : ¬ ((Num.getN s 0).isSome = false ∧ lackS s = true) := fun h => by rw [h.1, h.2] at a; cases a
  conv => whnf
  refine ⟨fun b => ?_, fun b => ?_⟩
  · rw [show nextM s = ([], 0, 11) by
      unfold nextM; rw [if_neg a, if_pos]
      rw [Bool.or_eq_true, decide_eq_true_eq, Bool.not_eq_true'] at b
      exact b]
    conv => whnf
  have b' : ¬ ((Num.getN s 0).isSome = false ∨ (8192 : Int) < (nS s 0).1) := by
    rw [Bool.or_eq_false_iff, decide_eq_false_iff_not, Bool.not_eq_false'] at b
    rintro (h | h)
    · rw [b.1] at h; cases h
    · exact b.2 h
  have b1 : (nS s 0).1 ≤ 8192 := by
    have : ¬ (8192 : Int) < (nS s 0).1 := fun h => b' (.inr h)
    omega
  have b2 : (nS s 0).2 ≤ s.length := by
    have := nS_bd (s := s) (k := 0) (by
      cases h : (Num.getN s 0).isSome with
      | true => rfl
      | false => exact (b' (.inl h)).elim)
    omega
  clear b
  conv => whnf
  rw [show ((Num.getN s 0).getD (0, 0)) = nS s 0 from rfl]
  generalize hn : nS s 0 = p at b1 b2 b'
  rw [wr64 ((s.length : Int) - (p.2 : Int)) (by omega) (by omega), wru64 ((s.length : Int) - (p.2 : Int)) (by omega) (by omega)]
  refine ⟨fun c => ?_, fun c => ?_⟩
  · rw [show nextM s = ([], 0, 0) by
      unfold nextM; rw [if_neg a, hn, if_neg b', if_pos (by simp at c; omega)]]
    conv => whnf
  have c : p.1 + p.2 ≤ s.length := by simp at c; omega
  rw [show nextM s = ((s.drop p.2).take p.1, ((p.2 + p.1 : Nat) : Int), 0) by
    unfold nextM; rw [if_neg a, hn, if_neg b', if_neg (by omega)]]
  conv => whnf
  have hw : IntKind.wrap .i64 ((p.2 : Int) + IntKind.wrap .i64 (p.1 : Int)) = ((p.2 + p.1 : Nat) : Int) := by
    rw [wr64 (p.1 : Int) (by omega) (by omega), wr64 _ (by omega) (by omega)]; omega
  rw [hw]
  refine ⟨⟨⟨by omega, by omega⟩, by omega, by omega⟩, ?_⟩
  conv => whnf
  rw [Int.toNat_natCast, Int.toNat_natCast, List.drop_take, show p.2 + p.1 - p.2 = p.1 by omega]
end Go.Proofs.YtmdjonckcapkeaaDoor
/- strings.Builder, in an object that is one with it: raw contracts, then handed by pointer. After the kit's own walks of it. Own work. -/
set_option linter.unusedVariables false
set_option maxRecDepth 100000
namespace Go.Proofs.YtmdjonckcapkeaaDoor.Ans
open Go Go.RowKit OE

theorem cell_heap {w : World} {b : Nat} {l : Array Value} {T : Nat} (h : w.heap[b]? = some (.cells l T (0, 0))) (i : Nat) : w.cell? ⟨b, i, none⟩ = l[i]? := by
  rw [Lib.cell_of_heap h]
set_option maxHeartbeats 1000000 in
theorem raw_check_used (b : Nat) (w : World) (h0 : w.cell? ⟨b, 0, none⟩ = some (.pointer (some ⟨b, 0, none⟩))) :
    Calls Tryd.prog 53 #[.pointer (some ⟨b, 0, none⟩)] w fun e w' => e = .returned (.tuple #[]) ∧ w' = w := by
  obtain ⟨j, hj, _⟩ := Option.map_eq_some_iff.1 (show (Tryd.prog.info? 89).map (·.size) = some 2 by kernel_rfl)
  go_enter Tryd.func53, Tryd.ntmps53
  go_wp2
  rw [Lib.run_neq_ptr_same w _ Tryd.underlying86 hj]
  go_wp2
  go_end0
  exact ⟨rfl, rfl⟩
set_option maxHeartbeats 1000000 in
theorem raw_check_fresh (b T n : Nat) (w : World) (h0 : w.cell? ⟨b, 0, none⟩ = some (.pointer none)) (hsh : w.shape? b = some (T, n)) (hn : 0 < n) (hl : liesAt Tryd.prog Tryd.prog.depth T (n / Tryd.prog.cellsOf T) 0 89 1 = true) (hfz : w.frozen? ⟨b, 0, none⟩ = false) :
    Calls Tryd.prog 53 #[.pointer (some ⟨b, 0, none⟩)] w fun e w' => e = .returned (.tuple #[]) ∧ w' = w.setCell ⟨b, 0, none⟩ (.pointer (some ⟨b, 0, none⟩)) := by
  obtain ⟨j, hj, hjs⟩ := Option.map_eq_some_iff.1 (show (Tryd.prog.info? 89).map (·.size) = some 2 by kernel_rfl)
  go_enter Tryd.func53, Tryd.ntmps53
  go_wp2
  rw [Lib.run_to_unsafe w ⟨b, 0, none⟩ Tryd.underlying86 Tryd.underlying136 hj (by rw [hjs]; decide) hsh hn]
  simp only [Result.andThen]
  rw [Oper.upon_value]
  go_wp2
  rw [run_callFunc_extern Tryd.func63 (by kernel_rfl) (by kernel_rfl) (by kernel_rfl) (e := Extern.AbiNoEscape.same) (by kernel_rfl)]
  rw [Lib.run_noEscape]
  simp only [Result.andThen]
  rw [Oper.upon_value]
  go_wp2
  rw [Lib.run_from_unsafe w ⟨b, 0, none⟩ Tryd.underlying136 Tryd.underlying86 hj hsh hl]
  simp only [Result.andThen]
  rw [Oper.upon_value]
  go_wp2
  go_end0
  exact ⟨rfl, rfl⟩
/-- a string's bytes behind a row of one's own: the row is the old one or a new one -/
theorem app_str {P : Program} {w : World} (t u ty e : TypeId) (i : TypeInfo) (ht : P.underlying t = some (.slice e)) (hu : P.underlying u = some .string) (hi : P.info? e = some i) (hz : i.zero = some (.int .u8 0)) (hsize : i.size = 1) (hby : i.bytes = 1)
    (v : Value) (n : Nat) (xs : List Value) (hown : w.ownsRow 0 e 1 v n xs) (s : ByteArray) (hb : n + s.size ≤ 140737488355328) :
    ∃ v' w', (Builtin.append_ #[t, u] ty #[v, .string s]).run P w = .ok v' w' ∧ w'.ownsRow 0 e 1 v' (n + s.size) (xs ++ Lib.strCells s) ∧ w.grownBy w' v.ownBlock ∧ (v'.ownBlock = v.ownBlock ∨ ∀ k, v'.ownBlock = some k → w.heap.size ≤ k ∧ k < w'.heap.size) := by
  obtain ⟨v', w', r1, r2, r3, r4⟩ := Lib.run_append_own_string (P := P) (w := w) 0 t u ty e i ht hu hi hz hsize hby v n xs hown s (by simp only [maxLen]; omega) hb (Nat.zero_le _)
  refine ⟨v', w', r1, r2, r3, ?_⟩
  rcases hown.2 with ⟨rfl, rfl⟩ | ⟨g, cap, cur, rfl, _, hg, hnc, hcm, hcs, htake⟩
  · by_cases hm : s.size = 0
    · rw [r4.2 ⟨rfl, hm⟩]; exact .inl rfl
    · have hex := run_append_nil_string (P := P) w t u ty e i (.int .u8 0) ht hu hi hz s (by omega) (by omega) (by rw [hby]; omega)
      rw [r1] at hex
      cases hex
      exact .inr fun k hk => by simp [Value.ownBlock] at hk; subst hk; exact ⟨Nat.le_refl _, by simp⟩
  · by_cases hroom : n + s.size ≤ cap
    · have hex := Lib.run_append_room_string (P := P) w t u ty e i ht hu hi hsize g n cap cur hg s hroom (by omega)
      rw [r1] at hex
      cases hex
      exact .inl rfl
    · have holds : ∀ j u, xs[j]? = some u → w.cell? ((⟨g, 0, none⟩ : Addr).add j) = some u := hown.cells (g := g) rfl
      have hex := Lib.run_append_grow_string (P := P) w t u ty e i (.int .u8 0) ht hu hi hz ⟨g, 0, none⟩ n cap xs (by rw [hsize, hown.1]) holds s (by omega) (by omega) (by rw [hby]; exact growslice_fits (by omega) (by omega))
      rw [r1] at hex
      cases hex
      exact .inr fun k hk => by simp [Value.ownBlock] at hk; subst hk; exact ⟨Nat.le_refl _, by simp⟩
theorem wpList_str {P : Program} {w : World} {ops : Array Oper} {rest : List Oper} {o : Oper} {a : Act} {Q : Exit → Act → World → Prop} (hgd : o.guard = none) (sl x : Operand) (t u : TypeId)
    (ho : o.op = .call { callee := .builtin .append, args := #[sl, x], argTypes := #[t, u] }) (e : TypeId) (i : TypeInfo) (ht : P.underlying t = some (.slice e)) (hu : P.underlying u = some .string) (hi : P.info? e = some i) (hz : i.zero = some (.int .u8 0)) (hsize : i.size = 1) (hby : i.bytes = 1)
    (v : Value) (n : Nat) (xs : List Value) (hs : a.eval sl = v) (hown : w.ownsRow 0 e 1 v n xs) (s : ByteArray) (hx : a.eval x = .string s) (hb : n + s.size ≤ 140737488355328)
    (h : ∀ v' w', w'.ownsRow 0 e 1 v' (n + s.size) (xs ++ Lib.strCells s) → w.grownBy w' v.ownBlock → (v'.ownBlock = v.ownBlock ∨ ∀ k, v'.ownBlock = some k → w.heap.size ≤ k ∧ k < w'.heap.size) → wpList P ops Q rest (a.put o.dst v') w') : wpList P ops Q (o :: rest) a w := by
  refine wpList_plain hgd fun K hK => ?_
  obtain ⟨v', w', hr, h2, h3, h4⟩ := app_str (P := P) (w := w) t u o.type e i ht hu hi hz hsize hby v n xs hown s hb
  unfold Oper.wp execOp
  simp only [ho, resolve, invoke, builtin, Sem.run_bind, Sem.run_pure, Result.andThen_ok, List.map_toArray, List.map_cons, List.map_nil, hs, hx, hr]
  exact hK _ _ (h v' w' h2 h3 h4)
/-- what a write leaves: the object's own cell, its row, all else as it was -/
structure Wrote (b T : Nat) (v : Value) (bs : List Value) (w w' : World) : Prop where
  os : w'.os = w.os
  tape : w'.tape = w.tape
  output : w'.output = w.output
  size : w.heap.size ≤ w'.heap.size
  block : ∀ k, k < w.heap.size → k ≠ b → some k ≠ v.ownBlock → w'.heap[k]? = w.heap[k]?
  row : ∃ v', w'.heap[b]? = some (.cells #[.pointer (some ⟨b, 0, none⟩), v'] T (0, 0)) ∧ w'.ownsRow 0 5 1 v' bs.length bs ∧ v'.ownBlock ≠ some b ∧ (v'.ownBlock = v.ownBlock ∨ ∀ k, v'.ownBlock = some k → w.heap.size ≤ k ∧ k < w'.heap.size)
set_option maxHeartbeats 2000000 in
theorem raw_write (b T : Nat) (p v : Value) (bs : List Value) (s : ByteArray) (w : World) (hT : T ≠ 5) (hl : liesAt Tryd.prog Tryd.prog.depth T (2 / Tryd.prog.cellsOf T) 0 89 1 = true)
    (hp : p = .pointer none ∨ p = .pointer (some ⟨b, 0, none⟩)) (hbk : w.heap[b]? = some (.cells #[p, v] T (0, 0))) (hown : w.ownsRow 0 5 1 v bs.length bs) (hne : v.ownBlock ≠ some b) (hb : bs.length + s.size ≤ 140737488355328) :
    Calls Tryd.prog 40 #[.pointer (some ⟨b, 0, none⟩), .string s] w fun e w' => e = .returned (.tuple #[.int .i64 s.size, .nilIface]) ∧ Wrote b T v (bs ++ Lib.strCells s) w w' := by
  have hchk : Calls Tryd.prog 53 #[.pointer (some ⟨b, 0, none⟩)] w fun e w' => e = .returned (.tuple #[]) ∧ w'.heap[b]? = some (.cells #[.pointer (some ⟨b, 0, none⟩), v] T (0, 0)) ∧ w'.ownsRow 0 5 1 v bs.length bs ∧ w'.os = w.os ∧ w'.tape = w.tape ∧ w'.output = w.output ∧ w'.heap.size = w.heap.size ∧ (∀ k, k ≠ b → w'.heap[k]? = w.heap[k]?) := by
    rcases hp with rfl | rfl
    · refine (raw_check_fresh b T 2 w (by rw [cell_heap hbk]; rfl) (by simp [World.shape?, hbk]) (by decide) hl (Lib.frozen_of_heap hbk 0)).mono ?_
      rintro e w' ⟨rfl, rfl⟩
      refine ⟨rfl, ?_, ?_, rfl, rfl, rfl, by simp [World.setCell], fun k hk => heap_setCell_other w _ k _ hk⟩
      · rw [heap_setCell_same w b 0 _ T _ hbk]; rfl
      · refine ⟨hown.1, hown.2.imp id ?_⟩
        rintro ⟨g, cap, cur, hv, h0, hg, rest⟩
        refine ⟨g, cap, cur, hv, h0, ?_, rest⟩
        rw [heap_setCell_other w _ g _ (fun e => hne (by rw [hv]; simp [Value.ownBlock, e]))]
        exact hg
    · refine (raw_check_used b w (by rw [cell_heap hbk]; rfl)).mono ?_
      rintro e w' ⟨rfl, rfl⟩
      exact ⟨rfl, hbk, hown, rfl, rfl, rfl, rfl, fun _ _ => rfl⟩
  obtain ⟨i0, hi, hii⟩ := Option.map_eq_some_iff.1 (show (Tryd.prog.info? 5).map (fun i => (i.zero, i.size, i.bytes)) = some (some (.int .u8 0), 1, 1) by kernel_rfl)
  simp only [Prod.mk.injEq] at hii
  obtain ⟨hz0, hz1, hz2⟩ := hii
  go_enter Tryd.func40, Tryd.ntmps40
  go_wp2_with (go_at_call 53; refine hchk.mono ?_)
  rintro e w1 ⟨rfl, hb1, ho1, h1, h2, h3, h4, h5⟩
  have c0 : w1.cell? ⟨b, 0, none⟩ = some (.pointer (some ⟨b, 0, none⟩)) := by rw [cell_heap hb1]; rfl
  have c1 : w1.cell? ⟨b, 1, none⟩ = some v := by rw [cell_heap hb1]; rfl
  go_wp2_with (at_builtin; refine wpList_str rfl _ _ 87 9 rfl 5 i0 Tryd.underlying87 Tryd.underlying9 hi hz0 hz1 hz2 _ _ _ rfl ho1 s rfl hb ?_)
  intro v' w2 hown' hgrow hnew
  have hlt : b < w1.heap.size := by
    rcases Nat.lt_or_ge b w1.heap.size with h' | h'
    · exact h'
    · simp [Array.getElem?_eq_none h'] at hb1
  have hb2 : w2.heap[b]? = some (.cells #[.pointer (some ⟨b, 0, none⟩), v] T (0, 0)) := by
    rw [hgrow.block b hlt (fun e => hne e.symm)]
    exact hb1
  have d0 : w2.cell? ⟨b, 0, none⟩ = some (.pointer (some ⟨b, 0, none⟩)) := by rw [cell_heap hb2]; rfl
  have d1 : w2.cell? ⟨b, 1, none⟩ = some v := by rw [cell_heap hb2]; rfl
  have f1 : w2.frozen? ⟨b, 1, none⟩ = false := Lib.frozen_of_heap hb2 1
  have hne' : v'.ownBlock ≠ some b := by
    rcases hnew with e | h
    · rw [e]; exact hne
    · intro e
      have := (h b e).1
      omega
  obtain ⟨ao, n', cap, rfl⟩ : ∃ ao n' cap, v' = .slice ao n' cap := by
    rcases hown'.2 with ⟨hv, _⟩ | ⟨g, cap, cur, hv, _⟩
    · exact ⟨_, _, _, hv⟩
    · exact ⟨_, _, _, hv⟩
  go_wp2
  go_ret2
  refine ⟨rfl, hgrow.os.trans h1, hgrow.tape.trans h2, hgrow.output.trans h3, ?_, ?_, _, ?_, ?_, hne', ?_⟩
  · rw [← h4]
    exact Nat.le_trans hgrow.size (by simp [World.setCell])
  · intro k hk hkb hkv
    rw [heap_setCell_other w2 _ k _ hkb, hgrow.block k (by omega) hkv]
    exact h5 k hkb
  · rw [heap_setCell_same w2 b 1 _ T _ hb2]; rfl
  · rw [show (bs ++ Lib.strCells s).length = bs.length + s.size by rw [List.length_append, Lib.strCells_length]]
    refine ⟨hown'.1, hown'.2.imp id ?_⟩
    rintro ⟨g, cp, cur, hv, g0, hg, rest⟩
    refine ⟨g, cp, cur, hv, g0, ?_, rest⟩
    rw [heap_setCell_other w2 _ g _ (fun e => hne' (by rw [hv]; simp [Value.ownBlock, e]))]
    exact hg
  · rcases hnew with e | h
    · exact .inl e
    · exact .inr fun k hk => by
        have := h k hk
        refine ⟨by omega, ?_⟩
        simp only [World.setCell, Array.size_modify]
        omega
/-! handed by a pointer -/
def byI (l : List UInt8) : List Int := l.map fun b => (b.toNat : Int)
theorem byI_app (a b : List UInt8) : byI (a ++ b) = byI a ++ byI b := List.map_append
abbrev hpB (T : Nat) (p : C) (bs : List UInt8) : List (Nat × Ob) := [(0, .cells T [p, .row 1]), (1, .row 5 (.int .u8) (byI bs))]
/-- the same behind a write: its row has a new name -/
abbrev hpC (T : Nat) (bs : List UInt8) : List (Nat × Ob) := [(0, .cells T [.ptr 0 0, .row 2]), (2, .row 5 (.int .u8) (byI bs))]
theorem byI_rd {w : World} {ok : Nat → Prop} : ∀ {l : List UInt8} {cs : List Value}, RdF (Rd w ok (.int .u8)) (byI l) cs ↔ cs = Lib.byteCells l
  | [], cs => by simp [byI, RdF, Lib.byteCells]
  | b :: l, cs => by
    have ih := fun c => byI_rd (w := w) (ok := ok) (l := l) (cs := c)
    constructor
    · rintro ⟨c1, c2, rfl, h1, h2⟩
      rw [(ih c2).1 h2, show c1 = [Value.int .u8 b.toNat] from h1]
      rfl
    · rintro rfl
      exact ⟨[Value.int .u8 b.toNat], Lib.byteCells l, rfl, rfl, (ih _).2 rfl⟩
theorem strCells_by (s : List UInt8) : Lib.strCells ⟨s.toArray⟩ = Lib.byteCells s := by
  simp [Lib.strCells, Lib.byteCells]
theorem byteCells_app (a b : List UInt8) : Lib.byteCells (a ++ b) = Lib.byteCells a ++ Lib.byteCells b := by
  simp [Lib.byteCells]
abbrev kpB : List (Nat × Bool) := [(0, false)]
/-- the object and its row, seen in the world -/
theorem hpB_see {T : Nat} {p : C} {bs : List UInt8} {w0 : W0} {η : Nat → Option Nat × Value} {w : World} (hp : p = .val (.pointer none) ∨ p = .ptr 0 0) (hH : RepH w0 (hpB T p bs) (lt 2) η w) :
    ∃ k pv, (η 0).1 = some k ∧ (pv = .pointer none ∨ pv = .pointer (some ⟨k, 0, none⟩)) ∧ w.heap[k]? = some (.cells #[pv, (η 1).2] T (0, 0)) ∧ (η 1).1 = (η 1).2.ownBlock ∧ w.ownsRow 0 5 1 (η 1).2 bs.length (Lib.byteCells bs) ∧ (η 1).2.ownBlock ≠ some k := by
  obtain ⟨k, us, h1, h2, h3⟩ := hH.obs 0 _ rfl
  obtain ⟨cs, g1, g2, g3⟩ := hH.obs 1 _ rfl
  have g3 : RdF (Rd w _ (.int .u8)) (byI bs) cs := g3
  rw [byI_rd] at g3
  subst g3
  have g1 : (η 1).1 = (η 1).2.ownBlock := g1
  have h1 : (η 0).1 = some k := h1
  have h3 : RL (RC (cxS w0 (hpB T p bs) (lt 2) η w)) [p, .row 1] us.toList := h3
  obtain ⟨us⟩ := us
  match us, h3 with
  | [a, r], ⟨ha, hr, _⟩ =>
    have hr : r = (η 1).2 := hr.2.1
    subst hr
    have hne : (η 1).2.ownBlock ≠ some k := fun e => by
      have := hH.sep 0 1 k (by simp [lk]) (by simp [lk]) h1 (g1.trans e)
      cases this
    have ha' : a = .pointer none ∨ a = .pointer (some ⟨k, 0, none⟩) := by
      rcases hp with rfl | rfl
      · exact .inl ha.1
      · obtain ⟨_, k', e1, e2⟩ := ha
        obtain rfl : k' = k := Option.some.inj (e1.symm.trans h1)
        exact .inr e2
    refine ⟨k, a, h1, ha', h2, g1, ?_, hne⟩
    have : (byI bs).length = bs.length := by simp [byI]
    have g2 : w.ownsRow 0 5 1 (η 1).2 (byI bs).length (Lib.byteCells bs) := g2
    rw [this] at g2
    exact g2
theorem sb_WriteString (T : Nat) (hT : T ≠ 5) (hl : liesAt Tryd.prog Tryd.prog.depth T (2 / Tryd.prog.cellsOf T) 0 89 1 = true) (p : C) (hp : p = .val (.pointer none) ∨ p = .ptr 0 0) (bs s : List UInt8) (hb : bs.length + s.length ≤ 140737488355328) :
    FnP Tryd.prog 40 [.c (.ptr 0 0), .c (.str s)] (hpB T p bs) 2 kpB (.tup [(false, [.int .i64 s.length]), (false, [.val .nilIface])]) (hpC T (bs ++ s)) 3 := by
  refine ⟨⟨_, Tryd.func40, rfl, rfl⟩, fun w0 η vs hH hv => ?_⟩
  obtain ⟨k, pv, h1, h2, h3, g1, g2, g3⟩ := hpB_see hp hH
  obtain ⟨vs⟩ := vs
  match vs, hv with
  | [x, y], ⟨hx, hy, _⟩ =>
  obtain ⟨_, k', e1, rfl⟩ := hx
  have e1 : (η 0).1 = some k' := e1
  rw [h1] at e1
  cases e1
  have hy : y = .string ⟨s.toArray⟩ := hy
  subst hy
  have hsz : (⟨s.toArray⟩ : ByteArray).size = s.length := by simp [ByteArray.size]
  have hbl : (Lib.byteCells bs).length = bs.length := by simp [Lib.byteCells]
  refine (raw_write k T pv (η 1).2 (Lib.byteCells bs) ⟨s.toArray⟩ w0.w hT hl h2 h3 (by rw [hbl]; exact g2) g3 (by rw [hbl, hsz]; exact hb)).mono ?_
  rintro e w' ⟨rfl, hW⟩
  obtain ⟨v', r1, r2, r3, r4⟩ := hW.row
  rw [strCells_by, ← byteCells_app] at r2
  have hsl : ∃ A n c, v' = .slice A n c := by
    rcases r2.2 with ⟨hv, _⟩ | ⟨g, cap, cur, hv, _⟩
    · exact ⟨_, _, _, hv⟩
    · exact ⟨_, _, _, hv⟩
  have hlen : (Lib.byteCells (bs ++ s)).length = (byI (bs ++ s)).length := by simp [Lib.byteCells, byI]
  have hk := hH.new 0 k (by simp [lk]) h1
  have hrow : ∀ j, v'.ownBlock = some j → ¬ w0.old j ∧ j < w'.heap.size := fun j hj => by
    rcases r4 with e | h
    · have := hH.new 1 j (by simp [lk]) (g1.trans (by rw [← e]; exact hj))
      exact ⟨this.1, Nat.lt_of_lt_of_le this.2 hW.size⟩
    · exact ⟨fun ho => by have := (h j hj).1; have := ho.1; omega, (h j hj).2⟩
  refine ⟨_, upd η 2 (v'.ownBlock, v'), rfl, ?_, ⟨?_, ?_, ?_, ?_, ?_⟩, ?_⟩
  · intro q hq
    simp only [List.mem_singleton] at hq
    subst hq
    exact ⟨rfl, fun h => by cases h⟩
  · intro b o ho
    simp only [lk] at ho
    split at ho
    · rename_i e
      subst e
      cases ho
      refine ⟨k, _, h1, r1, ⟨⟨by show (0 : Nat) < 3; decide, k, h1, rfl⟩, ⟨by show (2 : Nat) < 3; decide, rfl, hsl⟩, trivial⟩⟩
    · split at ho
      · rename_i e
        subst e
        cases ho
        refine ⟨Lib.byteCells (bs ++ s), rfl, ?_, byI_rd.2 rfl⟩
        show w'.ownsRow 0 5 1 v' (byI (bs ++ s)).length _
        rw [← hlen]
        exact r2
      · cases ho
  · intro b c j hb hc e1 e2
    have two : ∀ d, lk (hpC T (bs ++ s)) d ≠ none → d = 0 ∨ d = 2 := fun d hd => by
      simp only [lk] at hd
      split at hd
      · exact .inl (by assumption)
      · split at hd
        · exact .inr (by assumption)
        · exact (hd rfl).elim
    rcases two b hb with rfl | rfl <;> rcases two c hc with rfl | rfl
    · rfl
    · have e1 : (η 0).1 = some j := e1
      have e2 : v'.ownBlock = some j := e2
      rw [h1] at e1
      cases e1
      exact (r3 e2).elim
    · have e2 : (η 0).1 = some j := e2
      have e1 : v'.ownBlock = some j := e1
      rw [h1] at e2
      cases e2
      exact (r3 e1).elim
    · rfl
  · intro b j hb e1
    simp only [lk] at hb
    split at hb
    · rename_i e
      subst e
      have e1 : (η 0).1 = some j := e1
      rw [h1] at e1
      cases e1
      exact ⟨hk.1, Nat.lt_of_lt_of_le hk.2 hW.size⟩
    · split at hb
      · rename_i e
        subst e
        exact hrow j e1
      · exact (hb rfl).elim
  · intro b hb
    simp only [lk] at hb
    show b < 3
    split at hb
    · omega
    · split at hb
      · omega
      · exact (hb rfl).elim
  · refine ⟨hW.os, hW.tape, hW.output, hW.size, fun j hj => hW.block j hj.1 (fun e => hk.1 (by rw [← e]; exact hj)) (fun e => ?_), hH.bel.gl⟩
    exact (hH.new 1 j (by simp [lk]) (g1.trans e.symm)).1 hj
  · refine ⟨_, rfl, ⟨_, rfl, ?_⟩, ⟨_, rfl, ?_⟩, trivial⟩
    · show Value.int .i64 _ = .int .i64 _
      rw [hsz]
    · exact ⟨rfl, rfl⟩
set_option maxHeartbeats 2000000 in
theorem raw_string (b T g cap : Nat) (p : Value) (l : List UInt8) (cur : Array Value) (w : World) (h0 : l ≠ []) (hbk : w.heap[b]? = some (.cells #[p, .slice (some ⟨g, 0, none⟩) l.length cap] T (0, 0)))
    (hg : w.heap[g]? = some (.cells cur 5 (0, 0))) (hnc : l.length ≤ cap) (hcm : cap ≤ maxLen) (hcs : cur.size = cap * 1) (hown : w.ownsRow 0 5 1 (.slice (some ⟨g, 0, none⟩) l.length cap) l.length (Lib.byteCells l)) :
    Calls Tryd.prog 43 #[.pointer (some ⟨b, 0, none⟩)] w fun e w' => e = .returned (.string ⟨l.toArray⟩) ∧ w' = w.drew.freeze ⟨g, 0, none⟩ l.length := by
  have hl0 : l.length ≠ 0 := by simpa using h0
  have c1 : w.drew.cell? ⟨b, 1, none⟩ = some (.slice (some ⟨g, 0, none⟩) l.length cap) := by
    have : w.drew.heap[b]? = some (.cells #[p, .slice (some ⟨g, 0, none⟩) l.length cap] T (0, 0)) := hbk
    rw [cell_heap this]; rfl
  have hSD : (Builtin.unsafeSliceData_ #[87] 129 #[.slice (some ⟨g, 0, none⟩) l.length cap]).run Tryd.prog w.drew = .ok (.pointer (some ⟨g, 0, none⟩)) w.drew :=
    Lib.run_unsafeSliceData_row _ _ _ _ _ _ (by omega)
  have hUS : (Builtin.unsafeString_ #[129, 3] 9 #[.pointer (some ⟨g, 0, none⟩), .int .i64 l.length]).run Tryd.prog w.drew = .ok (.string ⟨l.toArray⟩) (w.drew.freeze ⟨g, 0, none⟩ l.length) := by
    refine Lib.run_unsafeString_row w.drew 129 3 9 5 Tryd.underlying129 (by kernel_rfl) g cur.size (by have hg' : w.drew.heap[g]? = some (.cells cur 5 (0, 0)) := hg; simp [World.shape?, hg']) l h0 (by omega) (by unfold maxLen at hcm; omega) ?_
    intro j x hx
    have := hown.cells (g := g) rfl j (.int .u8 x.toNat) (by simp [Lib.byteCells, hx])
    exact this
  go_enter Tryd.func43, Tryd.ntmps43
  go_wp2
  go_region
  all_goals (go_wp2; go_ret; exact ⟨rfl, rfl⟩)
theorem sb_String (T : Nat) (p : C) (hp : p = .val (.pointer none) ∨ p = .ptr 0 0) (bs : List UInt8) (h0 : bs ≠ []) :
    FnP Tryd.prog 43 [.c (.ptr 0 0)] (hpB T p bs) 2 [] (.c (.str bs)) [] 2 := by
  refine ⟨⟨_, Tryd.func43, rfl, rfl⟩, fun w0 η vs hH hv => ?_⟩
  obtain ⟨k, pv, h1, h2, h3, g1, g2, g3⟩ := hpB_see hp hH
  obtain ⟨vs⟩ := vs
  match vs, hv with
  | [x], ⟨hx, _⟩ =>
  obtain ⟨_, k', e1, rfl⟩ := hx
  obtain rfl : k' = k := Option.some.inj (e1.symm.trans h1)
  have hl0 : bs.length ≠ 0 := by simpa using h0
  rcases g2.2 with ⟨_, hz⟩ | ⟨g, cap, cur, hv, _, hg, hnc, hcm, hcs, htake⟩
  · exact (hl0 hz).elim
  rw [hv] at h3 g2
  refine (raw_string k' T g cap pv bs cur w0.w h0 h3 hg hnc hcm hcs g2).mono ?_
  rintro e w' ⟨rfl, rfl⟩
  have hgn := hH.new 1 g (by simp [lk]) (by rw [g1, hv]; rfl)
  have hB := Lib.below_freeze (Below.drew (Below.refl 0 w0.w)) (p := ⟨g, 0, none⟩) (Nat.zero_le _) bs.length
  have hsame : ∀ j, j ≠ g → (w0.w.drew.freeze ⟨g, 0, none⟩ bs.length).heap[j]? = w0.w.heap[j]? := fun j hj => by
    unfold World.freeze
    split
    · rfl
    · simp only [Array.getElem?_modify]
      rw [if_neg (fun e => hj e.symm)]
      rfl
  refine ⟨_, η, rfl, fun q hq => (by cases hq), ⟨fun b o ho => (by cases ho), fun b c j hb => (hb rfl).elim, fun b j hb => (hb rfl).elim, fun b hb => (hb rfl).elim, ?_⟩, rfl⟩
  exact ⟨hB.os, hB.tape, hB.output, hB.size, fun j hj => hsame j (fun e => hgn.1 (by rw [← e]; exact hj)), hH.bel.gl⟩
def u64 (n : Int) : Nat := (IntKind.wrap .u64 n).toNat
theorem wrap_u64 (n : Int) : IntKind.wrap .u64 n = (u64 n : Int) ∧ u64 n < 18446744073709551616 := by
  have h : IntKind.wrap .u64 n = n % 18446744073709551616 := by simp [IntKind.wrap, IntKind.bits, IntKind.signed]
  unfold u64
  rw [h]
  omega
theorem u64_of {n : Int} (h0 : 0 ≤ n) (h1 : n < 18446744073709551616) : u64 n = n.toNat := by
  have h : IntKind.wrap .u64 n = n % 18446744073709551616 := by simp [IntKind.wrap, IntKind.bits, IntKind.signed]
  unfold u64
  rw [h]
  omega
theorem lies_w : liesAt Tryd.prog Tryd.prog.depth 91 (2 / Tryd.prog.cellsOf 91) 0 89 1 = true := by kernel_rfl
theorem ww_WriteString (p : C) (hp : p = .val (.pointer none) ∨ p = .ptr 0 0) (bs s : List UInt8) (hb : bs.length + s.length ≤ 140737488355328) :
    FnP Tryd.prog 40 [.c (.ptr 0 0), .c (.str s)] (hpB 91 p bs) 2 kpB (.tup [(false, [.int .i64 s.length]), (false, [.val .nilIface])]) (hpC 91 (bs ++ s)) 3 :=
  sb_WriteString 91 (by decide) lies_w p hp bs s hb
theorem writer_number0 (bs : List UInt8) (n : Int) (hb : bs.length ≤ 100000000) :
    FnP Tryd.prog 39 [.c (.ptr 0 0), .c (.int .i64 n)] (hpB 91 (.val (.pointer none)) bs) 2 kpB .un (hpC 91 (bs ++ Num.putN (u64 n))) 3 := by
  obtain ⟨e, hl⟩ := wrap_u64 n
  have hn := Num.putN_ten hl
  refine fnP noI Tryd.func39 rfl rfl rfl rfl ?_
  conv => whnf
  refine any0 ?_
  conv => whnf
  rw [e]
  refine callr0 (num_Put (u64 n) hl) rfl ?_
  conv => whnf
  refine callrp0 [0, 1] rfl rfl rfl (ww_WriteString (.val (.pointer none)) (.inl rfl) bs (Num.putN (u64 n)) (by omega)) rfl rfl rfl rfl rfl rfl [] rfl rfl ?_
  conv => whnf
  refine ⟨.inl (by kernel_rfl), after0 ?_⟩
  conv => whnf
  refine ⟨rfl, ?_, ?_, ?_⟩ <;> (repeat' apply And.intro) <;> first | exact trivial | rfl | assumption
theorem writer_number (bs : List UInt8) (n : Int) (hb : bs.length ≤ 100000000) :
    FnP Tryd.prog 39 [.c (.ptr 0 0), .c (.int .i64 n)] (hpB 91 (.ptr 0 0) bs) 2 kpB .un (hpC 91 (bs ++ Num.putN (u64 n))) 3 := by
  obtain ⟨e, hl⟩ := wrap_u64 n
  have hn := Num.putN_ten hl
  refine fnP noI Tryd.func39 rfl rfl rfl rfl ?_
  conv => whnf
  refine any0 ?_
  conv => whnf
  rw [e]
  refine callr0 (num_Put (u64 n) hl) rfl ?_
  conv => whnf
  refine callrp0 [0, 1] rfl rfl rfl (ww_WriteString (.ptr 0 0) (.inr rfl) bs (Num.putN (u64 n)) (by omega)) rfl rfl rfl rfl rfl rfl [] rfl rfl ?_
  conv => whnf
  refine ⟨.inl (by kernel_rfl), after0 ?_⟩
  conv => whnf
  refine ⟨rfl, ?_, ?_, ?_⟩ <;> (repeat' apply And.intro) <;> first | exact trivial | rfl | assumption
end Go.Proofs.YtmdjonckcapkeaaDoor.Ans
/- The walk of val.DecodeProps. Own work. -/
set_option linter.unusedVariables false
set_option maxRecDepth 100000
namespace Go.Proofs.YtmdjonckcapkeaaDoor
open Go Go.RowKit OE

def decPR (o : Option (List PD.T × Nat)) (r : SV) : Prop := ∃ c, (c = .dat PD (o.getD ([], 0)).1 ∨ ((o.getD ([], 0)).1 = [] ∧ c = .val (.slice none 0 0))) ∧
  r = .tup [(false, [c]), (false, [.int .i64 ((o.getD ([], 0)).2 : Nat)]), (false, [.bool (.sym o.isSome)])]
def dpSt (s : List UInt8) (k : Int) (n j z : Nat) : List PD.T → St
  | [] => ⟨[(0, .c (.str s)), (1, .c (.int .i64 k)), (4, .c (.val (.slice none 0 0))), (5, .c (.int .i64 z)), (25, .c (.int .u64 n)), (26, .c (.int .u64 j))], [], 0⟩
  | x :: xs => ⟨[(0, .c (.str s)), (1, .c (.int .i64 k)), (4, .c (.row 0)), (5, .c (.int .i64 z)), (25, .c (.int .u64 n)), (26, .c (.int .u64 j))], [(0, .row 133 PD (x :: xs))], 1⟩

def decPT (o : Option (List PD.T × Nat)) : SV := .tup [(false, [.dat PD (o.getD ([], 0)).1]), (false, [.int .i64 ((o.getD ([], 0)).2 : Nat)]), (false, [.bool (.sym o.isSome)])]
end Go.Proofs.YtmdjonckcapkeaaDoor
/- The walk of the reference's DecodeProps. Own work; written by gendr.py. -/
set_option linter.unusedVariables false
set_option maxRecDepth 100000
namespace Go.Proofs.YtmdjonckcapkeaaDoor
open Go Go.RowKit OE

def decPA' (o : Option (List PD.T × Nat)) (r : SV) : Prop := ∃ c, (c = .dat PD (o.getD ([], 0)).1 ∨ ((o.getD ([], 0)).1 = [] ∧ c = .val (.slice none 0 0))) ∧
  r = .agg [c, .int .i64 ((o.getD ([], 0)).2 : Nat), .bool (.sym o.isSome)]
def decPA (o : Option (List PD.T × Nat)) : SV := .agg [.dat PD (o.getD ([], 0)).1, .int .i64 ((o.getD ([], 0)).2 : Nat), .bool (.sym o.isSome)]
end Go.Proofs.YtmdjonckcapkeaaDoor
/- The walks of hedgerowkeep: texts, catalogs. Own work. -/
set_option linter.unusedVariables false
set_option maxRecDepth 100000
namespace Go.Proofs.YtmdjonckcapkeaaDoor
open Go Go.RowKit OE

abbrev SD : D := .str
/-- an index: type, name -/
abbrev ID : D := .pair .str .str
/-- a catalog: types of nodes, of edges, rules, indexes, the next rule's Id -/
abbrev CD : D := .pair (.list .str) (.pair (.list .str) (.pair (.list RD) (.pair (.list ID) (.int .i64))))
abbrev cc (c : CD.T) : List C := [.dat .str c.1, .dat .str c.2.1, .dat RD c.2.2.1, .dat ID c.2.2.2.1, .int .i64 c.2.2.2.2]

def longT (s : SD.T) : Bool := decide ((1000 : Int) < s.length)
def longI (i : ID.T) : Bool := decide ((1000 : Int) < i.1.length) || decide ((1000 : Int) < i.2.length)
def largeCat (c : CD.T) : Bool := decide ((100 : Int) < c.1.length) || decide ((100 : Int) < c.2.1.length) || decide ((100 : Int) < c.2.2.1.length) || decide ((100 : Int) < c.2.2.2.1.length) ||
  (c.1.any longT || (c.2.1.any longT || (c.2.2.1.any largeRule || c.2.2.2.1.any longI)))
theorem ID_eqb (x y : ID.T) : ID.eqb x y = (decide (x.1 = y.1) && decide (x.2 = y.2)) := rfl
end Go.Proofs.YtmdjonckcapkeaaDoor
/- The walks of the reading of replies: numbers, texts, properties; the program's and the reference's. Own work. -/
set_option linter.unusedVariables false
set_option maxRecDepth 100000
namespace Go.Proofs.YtmdjonckcapkeaaDoor.Ans
open Go Go.RowKit OE

abbrev kp0 : List (Nat × Bool) := [(0, false)]
def nS (s : List UInt8) (k : Int) : Nat × Nat := (Num.getN s k).getD (0, 0)
def tS (s : List UInt8) (k m : Int) : List UInt8 × Nat := (Num.getT s k m).getD ([], 0)
theorem nS_bd {s : List UInt8} {k : Int} (h : (Num.getN s k).isSome = true) : k + ((nS s k).2 : Int) ≤ s.length := by
  unfold nS
  cases hg : Num.getN s k with
  | none => rw [hg] at h; cases h
  | some p =>
    obtain ⟨n, i⟩ := p
    have := Num.getN_bd hg
    simp only [Option.getD_some]
    omega
theorem tS_bd {s : List UInt8} {k m : Int} (h : (Num.getT s k m).isSome = true) : k + ((tS s k m).2 : Int) ≤ s.length := by
  unfold tS
  cases hg : Num.getT s k m with
  | none => rw [hg] at h; cases h
  | some p =>
    obtain ⟨n, i⟩ := p
    have := getT_bd hg
    simp only [Option.getD_some]
    omega
/-- where reading stands, and whether something was bad -/
abbrev obT (T : Nat) (s : List UInt8) (q : Int × Bool) : List (Nat × Ob) := [(0, .cells T [.str s, .int .i64 q.1, .bool (.sym q.2)])]
def rdN (s : List UInt8) (most : Int) (q : Int × Bool) : Int × Int × Bool := if q.2 = true ∨ (Num.getN s q.1).isSome = false ∨ most < ((nS s q.1).1 : Int) then (0, q.1, true) else (IntKind.wrap .i64 (nS s q.1).1, q.1 + (nS s q.1).2, q.2)
def rdT (s : List UInt8) (most : Int) (q : Int × Bool) : List UInt8 × Int × Bool := if q.2 = true ∨ (Num.getT s q.1 most).isSome = false then ([], q.1, true) else ((tS s q.1 most).1, q.1 + (tS s q.1 most).2, q.2)
def inS (s : List UInt8) (q : Int × Bool) : Prop := 0 ≤ q.1 ∧ q.1 ≤ s.length
theorem not_false' {b : Bool} (h : ¬ b = false) : b = true := by cases b <;> simp_all
theorem rdN_in {s : List UInt8} {q : Int × Bool} {most : Int} (h : inS s q) : inS s (rdN s most q).2 := by
  unfold rdN
  obtain ⟨h0, h1⟩ := h
  split
  · exact ⟨h0, h1⟩
  · rename_i hc
    have := nS_bd (not_false' fun h => hc (.inr (.inl h)))
    exact ⟨by dsimp only; omega, by dsimp only; omega⟩
theorem rdT_in {s : List UInt8} {q : Int × Bool} {most : Int} (h : inS s q) : inS s (rdT s most q).2 := by
  unfold rdT
  obtain ⟨h0, h1⟩ := h
  split
  · exact ⟨h0, h1⟩
  · rename_i hc
    have := tS_bd (not_false' fun h => hc (.inr h))
    exact ⟨by dsimp only; omega, by dsimp only; omega⟩
theorem yesno {a b : Bool} {X : Prop} [Decidable X] (h : (a || !b || decide X) = false) : ¬ (a = true ∨ b = false ∨ X) := by
  rw [Bool.or_eq_false_iff, Bool.or_eq_false_iff, decide_eq_false_iff_not] at h
  rintro (e | e | e)
  · rw [e] at h; cases h.1.1
  · rw [e] at h; cases h.1.2
  · exact h.2 e
theorem yesyes {a b : Bool} {X : Prop} [Decidable X] (h : (a || !b || decide X) = true) : a = true ∨ b = false ∨ X := by
  rw [Bool.or_eq_true, Bool.or_eq_true, decide_eq_true_eq, Bool.not_eq_true'] at h
  rcases h with (h | h) | h
  · exact .inl h
  · exact .inr (.inl h)
  · exact .inr (.inr h)
theorem yesno2 {a b : Bool} (h : (a || !b) = false) : ¬ (a = true ∨ b = false) := by
  cases a <;> cases b <;> simp_all
theorem yesyes2 {a b : Bool} (h : (a || !b) = true) : a = true ∨ b = false := by
  cases a <;> cases b <;> simp_all
/-! properties, as rows that may be nil -/
def pS (s : List UInt8) (k : Int) : List PD.T × Nat := (decPs s k).getD ([], 0)
def rdP (s : List UInt8) (q : Int × Bool) : List PD.T × Int × Bool := if q.2 = true ∨ (decPs s q.1).isSome = false then ([], q.1, true) else ((pS s q.1).1, q.1 + (pS s q.1).2, q.2)
theorem decPs_bd {s : List UInt8} {k : Int} {l : List PD.T} {m : Nat} (h : decPs s k = some (l, m)) : k + m ≤ s.length := by
  unfold decPs at h
  cases hg : Num.getN s k with
  | none => rw [hg] at h; cases h
  | some p =>
    obtain ⟨n, i⟩ := p
    have hb := Num.getN_bd hg
    rw [hg] at h
    dsimp only at h
    split at h
    · cases h
    · cases hd : decL n s (k + i) with
      | none => rw [hd] at h; cases h
      | some q =>
        obtain ⟨l', m'⟩ := q
        have := decL_bd hd (by omega)
        rw [hd] at h
        dsimp only at h
        split at h
        · simp only [Option.some.injEq, Prod.mk.injEq] at h
          omega
        · cases h
theorem pS_bd {s : List UInt8} {k : Int} (h : (decPs s k).isSome = true) : k + ((pS s k).2 : Int) ≤ s.length := by
  unfold pS
  cases hg : decPs s k with
  | none => rw [hg] at h; cases h
  | some p => exact decPs_bd hg
theorem rdP_in {s : List UInt8} {q : Int × Bool} (h : inS s q) : inS s (rdP s q).2 := by
  unfold rdP
  obtain ⟨h0, h1⟩ := h
  split
  · exact ⟨h0, h1⟩
  · rename_i hc
    have := pS_bd (not_false' fun h => hc (.inr h))
    exact ⟨by dsimp only; omega, by dsimp only; omega⟩
end Go.Proofs.YtmdjonckcapkeaaDoor.Ans
/- The walks of the reading of nodes, edges, lists of them. Own work. -/
set_option linter.unusedVariables false
set_option maxRecDepth 100000
namespace Go.Proofs.YtmdjonckcapkeaaDoor.Ans
open Go Go.RowKit OE

/-- a cut behind the block that a loop ends by -/
theorem cut_blk {E : En} {cur : FI} {c : Code} {id : Nat} {r : List It} {st : St} {stk : List Fm} {α : Type} (I : α → Prop) (σ : α → St) (h1 : Mean E cur (.code c :: .blk id :: .fin (fun st' => ∃ y, I y ∧ sub (σ y) st' stk) :: r) st stk)
    (h2 : ∀ y, I y → Mean E cur r (σ y) stk) : Mean E cur (.code c :: .blk id :: r) st stk := by
  intro w0 η S a w hS hR
  have hfin : ∀ e a w, TW E.P w0 cur S (RR E.P w0 (OE.Fin w0 E.post) cur S) (.fin (fun st' => ∃ y, I y ∧ sub (σ y) st' stk) :: r) e a w → TW E.P w0 cur S (RR E.P w0 (OE.Fin w0 E.post) cur S) r e a w := by
    intro e a w hq
    cases e with
    | normal =>
      obtain ⟨η1, st1, hR1, y, hy, hs⟩ := hq
      obtain ⟨η2, hR2⟩ := sub_sound hs hS hR1
      exact h2 y hy w0 η2 S a w hS hR2
    | exit id => exact hq
    | goto l => exact hq
    | ret => exact hq
    | panic ch => exact hq
    | outgrown => exact hq
  refine OE.wp_mono (h1 w0 η S a w hS hR) ?_
  intro e a w hq
  cases e with
  | normal => exact hfin .normal a w hq
  | exit j =>
    simp only [TW] at hq ⊢
    split
    · rename_i e
      rw [if_pos e] at hq
      exact hfin .normal a w hq
    · rename_i e
      rw [if_neg e] at hq
      exact hfin (.exit j) a w hq
  | goto l => exact hfin _ a w hq
  | ret => exact hfin _ a w hq
  | panic ch => exact hfin _ a w hq
  | outgrown => exact hfin _ a w hq
abbrev mxI : Int := 4611686018427387903
def oneN (s : List UInt8) (q : Int × Bool) : ND.T × Int × Bool := (((rdN s mxI q).1, (rdT s 16 (rdN s mxI q).2).1, (rdP s (rdT s 16 (rdN s mxI q).2).2).1), (rdP s (rdT s 16 (rdN s mxI q).2).2).2)
def oneE (s : List UInt8) (q : Int × Bool) : ED.T × Int × Bool :=
  (((rdN s mxI q).1, (rdT s 16 (rdN s mxI q).2).1, (rdN s mxI (rdT s 16 (rdN s mxI q).2).2).1, (rdN s mxI (rdN s mxI (rdT s 16 (rdN s mxI q).2).2).2).1, (rdP s (rdN s mxI (rdN s mxI (rdT s 16 (rdN s mxI q).2).2).2).2).1), (rdP s (rdN s mxI (rdN s mxI (rdT s 16 (rdN s mxI q).2).2).2).2).2)
theorem oneN_in {s : List UInt8} {q : Int × Bool} (h : inS s q) : inS s (oneN s q).2 := rdP_in (rdT_in (rdN_in h))
theorem oneE_in {s : List UInt8} {q : Int × Bool} (h : inS s q) : inS s (oneE s q).2 := rdP_in (rdN_in (rdN_in (rdT_in (rdN_in h))))
/-- a list that is read: as long as nothing is bad -/
def lstA {α : Type} (one : Int × Bool → α × Int × Bool) : Nat → List α → Int × Bool → List α × Int × Bool
  | 0, acc, q => (acc, q)
  | n + 1, acc, q => if q.2 = true then ([], q) else lstA one n (acc ++ [(one q).1]) (one q).2
def listA {α : Type} (s : List UInt8) (one : Int × Bool → α × Int × Bool) (q : Int × Bool) : List α × Int × Bool := lstA one (rdN s 1024 q).1.toNat [] (rdN s 1024 q).2
theorem rdN_val (s : List UInt8) (q : Int × Bool) {most : Int} (h0 : 0 ≤ most) (hm : most ≤ 4611686018427387903) : 0 ≤ (rdN s most q).1 ∧ (rdN s most q).1 ≤ most := by
  unfold rdN
  split
  · exact ⟨Int.le_refl 0, h0⟩
  · rename_i hc
    have : ¬ most < ((nS s q.1).1 : Int) := fun h => hc (.inr (.inr h))
    rw [wr64 _ (by omega) (by omega)]
    exact ⟨by omega, by omega⟩
def lsSt (T f : Nat) (U : Nat) (d : D) (s : List UInt8) (q : Int × Bool) (n j : Nat) : List d.T → St
  | [] => ⟨[(0, .c (.ptr 0 0)), (1, .c (.bm f 0 0)), (5, .c (.val (.slice none 0 0))), (7, .c (.int .i64 n)), (8, .c (.int .i64 j))], obT T s q, 1⟩
  | x :: xs => ⟨[(0, .c (.ptr 0 0)), (1, .c (.bm f 0 0)), (5, .c (.row 1)), (7, .c (.int .i64 n)), (8, .c (.int .i64 j))], (1, .row U d (x :: xs)) :: obT T s q, 2⟩
def lsEn (T : Nat) (U : Nat) (d : D) (s : List UInt8) (q : Int × Bool) : List d.T → St
  | [] => ⟨[(5, .c (.val (.slice none 0 0)))], obT T s q, 1⟩
  | x :: xs => ⟨[(5, .c (.row 1))], (1, .row U d (x :: xs)) :: obT T s q, 2⟩
def oneI (s : List UInt8) (q : Int × Bool) : Int × Int × Bool := rdN s mxI q
theorem oneI_in {s : List UInt8} {q : Int × Bool} (h : inS s q) : inS s (oneI s q).2 := rdN_in h
abbrev LD : D := .int .i64
end Go.Proofs.YtmdjonckcapkeaaDoor.Ans
/- The walks of cmp.Or, and of cmp.Compare at texts. Own work. -/
set_option linter.unusedVariables false
set_option maxRecDepth 100000
namespace Go.Proofs.YtmdjonckcapkeaaDoor
open Go Go.RowKit OE

abbrev ZD : D := .int .i64
def orI : List Int → Int
  | [] => 0
  | x :: l => if x = 0 then orI l else x

theorem orI_step {l : List Int} {i : Nat} (h : i < l.length) : orI (l.drop i) = if l[i] = 0 then orI (l.drop (i + 1)) else l[i] := by
  rw [List.drop_eq_getElem_cons h]; rfl
theorem cmp_Or (l : List Int) : FnD Tryd.prog 79 [.c (.dat (.int .i64) l)] (· = .c (.int .i64 (orI l))) := by
  refine fn0 Tryd.func79 rfl rfl rfl ?_
  conv => whnf
  intro _
  conv => whnf
  refine loop0 (α := Nat) (fun i => i ≤ l.length ∧ orI (l.drop i) = orI l)
    (fun i => ⟨[(3, .c (.int .i64 0)), (6, .c (.dat (.int .i64) l)), (7, .c (.int .i64 l.length)), (8, .c (.int .i64 i))], [], 0⟩) (fun i => l.length - i) ⟨0, ⟨by omega, rfl⟩, ?_⟩ ?_
  · (conv => whnf); refine ⟨rfl, ?_, ?_, ?_⟩ <;> (repeat' apply And.intro) <;> first | exact trivial | rfl | exact wr_succ _ (by omega) | assumption | exact decide_eq_false (by assumption) | exact decide_eq_true (by assumption)
  rintro i ⟨hI1, hI2⟩
  conv => whnf
  refine ⟨fun h2 => ?_, fun h2 => ?_⟩
  · have h2 : i < l.length := by simp at h2; omega
    rw [orI_step h2] at hI2
    conv => whnf
    try (intro _; conv => whnf)
    refine ⟨by omega, ?_⟩
    rw [gt_nat (d := ZD) l i h2]
    conv => whnf
    refine ⟨fun h3 => ?_, fun h3 => ?_⟩
    · conv => whnf
      simp at h3
      rw [if_neg h3] at hI2
      rw [hI2]
    · conv => whnf
      simp at h3
      rw [if_pos h3] at hI2
      refine ⟨i + 1, ⟨⟨by omega, hI2⟩, by omega⟩, ?_⟩
      (conv => whnf); refine ⟨rfl, ?_, ?_, ?_⟩ <;> (repeat' apply And.intro) <;> first | exact trivial | rfl | exact wr_succ _ (by omega) | assumption | exact decide_eq_false (by assumption) | exact decide_eq_true (by assumption)
  · conv => whnf
    rw [← hI2, List.drop_of_length_le (by simp at h2; omega)]
    rfl

/-- the order of texts, as a number -/
def cmpT (a b : List UInt8) : Int := if Op.bytesLess a b = true then -1 else if Op.bytesLess b a = true then 1 else 0
theorem isNaN_string (a : List UInt8) : FnD Tryd.prog 88 [.c (.str a)] (· = .c (.bool (.sym false))) := by
  refine fn0 Tryd.func88 rfl rfl rfl ?_
  conv => whnf
  simp
theorem cmp_string (a b : List UInt8) : FnD Tryd.prog 80 [.c (.str a), .c (.str b)] (· = .c (.int .i64 (cmpT a b))) := by
  refine fn0 Tryd.func80 rfl rfl rfl ?_
  conv => whnf
  refine call1 (isNaN_string a) rfl ?_
  conv => whnf
  refine call1 (isNaN_string b) rfl ?_
  conv => whnf
  refine fk rfl ?_
  conv => whnf
  refine fk rfl ?_
  conv => whnf
  refine ⟨fun h1 => ?_, fun h1 => ?_⟩
  · conv => whnf
    rw [cmpT, if_pos h1]
  conv => whnf
  refine ⟨fun h2 => ?_, fun h2 => ?_⟩
  · conv => whnf
    have h3 : Op.bytesLess b a = true := by
      have := bl_not b a
      rw [h1] at this
      rcases bl_tri a b with h | h | h
      · rw [h1] at h; cases h
      · subst h; simp [h1] at h2
      · exact h
    rw [cmpT, if_neg (by simp [h1]), if_pos h3]
  · conv => whnf
    have h3 : Op.bytesLess b a = false := by
      rcases bl_tri a b with h | h | h
      · rw [h1] at h; cases h
      · subst h; exact h1
      · simp [h1] at h2; subst h2; exact h1
    rw [cmpT, if_neg (by simp [h1]), if_neg (by simp [h3])]
theorem cmpT_zero (a b : List UInt8) : cmpT a b = 0 ↔ a = b := by
  unfold cmpT
  rcases bl_tri a b with h | h | h
  · rw [if_pos h]
    exact ⟨fun h => (by cases h), fun e => by subst e; rw [bytesLess_irr] at h; cases h⟩
  · subst h; rw [bytesLess_irr]; simp
  · have h1 : ¬ Op.bytesLess a b = true := fun h' => by
      have := bl_trans h h'
      rw [bytesLess_irr] at this; cases this
    rw [if_neg h1, if_pos h]
    exact ⟨fun h => (by cases h), fun e => by subst e; rw [bytesLess_irr] at h; cases h⟩
end Go.Proofs.YtmdjonckcapkeaaDoor
/- The order of indexes, and the walks of cat.ahead and of the reference's. Own work. -/
set_option linter.unusedVariables false
set_option maxRecDepth 100000
namespace Go.Proofs.YtmdjonckcapkeaaDoor
open Go Go.RowKit OE

def ltIx (a b : ID.T) : Bool := Op.bytesLess a.1 b.1 || (decide (a.1 = b.1) && Op.bytesLess a.2 b.2)
def cmpIx (a b : ID.T) : Int := orI [cmpT a.1 b.1, cmpT a.2 b.2]
theorem cmpIx_eq (a b : ID.T) : cmpIx a b = if ltIx a b = true then -1 else if a = b then 0 else 1 := by
  obtain ⟨x, y⟩ := a
  obtain ⟨x', y'⟩ := b
  unfold cmpIx ltIx
  simp only [orI]
  by_cases h1 : x = x'
  · subst h1
    rw [(cmpT_zero x x).2 rfl, bytesLess_irr]
    simp only [Bool.false_or, decide_true, Bool.true_and, if_true, Prod.mk.injEq, true_and]
    by_cases h2 : y = y'
    · subst h2
      rw [(cmpT_zero y y).2 rfl, bytesLess_irr]; simp
    · have h3 : cmpT y y' ≠ 0 := fun h => h2 ((cmpT_zero _ _).1 h)
      rw [if_neg h3]
      unfold cmpT at h3 ⊢
      by_cases h4 : Op.bytesLess y y' = true
      · rw [if_pos h4, if_pos h4]
      · rw [if_neg h4, if_neg h4, if_neg h2]
        rcases bl_tri y y' with h | h | h
        · exact (h4 h).elim
        · exact (h2 h).elim
        · rw [if_pos h]
  · have h3 : cmpT x x' ≠ 0 := fun h => h1 ((cmpT_zero _ _).1 h)
    rw [if_neg h3]
    simp only [decide_eq_false h1, Bool.false_and, Bool.or_false]
    unfold cmpT
    by_cases h4 : Op.bytesLess x x' = true
    · rw [if_pos h4, if_pos h4]
    · rw [if_neg h4, if_neg h4, if_neg (show ¬ ((x, y) : ID.T) = (x', y') from fun e => h1 (congrArg Prod.fst e))]
      rcases bl_tri x x' with h | h | h
      · exact (h4 h).elim
      · exact (h1 h).elim
      · rw [if_pos h]
theorem ltIx_irr (a : ID.T) : ltIx a a = false := by unfold ltIx; rw [bytesLess_irr, bytesLess_irr]; simp
theorem ltIx_iff (a b : ID.T) : ltIx a b = true ↔ Op.bytesLess a.1 b.1 = true ∨ a.1 = b.1 ∧ Op.bytesLess a.2 b.2 = true := by
  simp only [ltIx, Bool.or_eq_true, Bool.and_eq_true, decide_eq_true_eq]
theorem ltIx_trans {a b c : ID.T} (h1 : ltIx a b = true) (h2 : ltIx b c = true) : ltIx a c = true := by
  rw [ltIx_iff] at *
  rcases h1 with h1 | ⟨e1, h1⟩ <;> rcases h2 with h2 | ⟨e2, h2⟩
  · exact .inl (bl_trans h1 h2)
  · exact .inl (e2 ▸ h1)
  · exact .inl (e1 ▸ h2)
  · exact .inr ⟨e1.trans e2, bl_trans h1 h2⟩
theorem ltIx_tri (a b : ID.T) : ltIx a b = true ∨ a = b ∨ ltIx b a = true := by
  rw [ltIx_iff, ltIx_iff]
  obtain ⟨x, y⟩ := a
  obtain ⟨x', y'⟩ := b
  dsimp only
  rcases bl_tri x x' with h | rfl | h
  · exact .inl (.inl h)
  · rcases bl_tri y y' with h | rfl | h
    · exact .inl (.inr ⟨rfl, h⟩)
    · exact .inr (.inl rfl)
    · exact .inr (.inr (.inr ⟨rfl, h⟩))
  · exact .inr (.inr (.inl h))
theorem cmpIx_lt (a b : ID.T) : decide (cmpIx a b < 0) = ltIx a b := by
  rw [cmpIx_eq]
  cases h : ltIx a b with
  | true => rfl
  | false => simp only [Bool.false_eq_true, if_false]; split <;> rfl
theorem cmpIx_zero (a b : ID.T) : cmpIx a b = 0 ↔ a = b := by
  rw [cmpIx_eq]
  cases h : ltIx a b with
  | true =>
    simp only [if_true]
    exact ⟨fun h => (by cases h), fun e => by subst e; rw [ltIx_irr] at h; cases h⟩
  | false =>
    simp only [Bool.false_eq_true, if_false]
    by_cases e : a = b
    · rw [if_pos e]; simp [e]
    · rw [if_neg e]; exact ⟨fun h => (by cases h), fun h => (e h).elim⟩

abbrev ic (i : ID.T) : List C := [.str i.1, .str i.2]
theorem cat_ahead (a b : ID.T) : FnD Tryd.prog 60 [.agg (ic a), .agg (ic b)] (· = .c (.int .i64 (cmpIx a b))) := by
  refine fn0 Tryd.func60 rfl rfl rfl ?_
  conv => whnf
  refine any0 ?_
  conv => whnf
  refine callr0 (cmp_string a.1 b.1) rfl ?_
  conv => whnf
  refine callr0 (cmp_string a.2 b.2) rfl ?_
  conv => whnf
  refine lendr0 (cmp_Or [cmpT a.1 b.1, cmpT a.2 b.2]) rfl rfl ?_
  conv => whnf
  refine ⟨.inl (by kernel_rfl), after0 ?_⟩
  conv => whnf
  rfl
end Go.Proofs.YtmdjonckcapkeaaDoor
/- The walks of schema.Has, rule.Known, the reference's. Own work. -/
set_option linter.unusedVariables false
set_option maxRecDepth 100000
namespace Go.Proofs.YtmdjonckcapkeaaDoor
open Go Go.RowKit OE

noncomputable def inlC : Nat → Option (FI × Code) := lk [(87, fiOf Tryd.f87, bodyOf Tryd.f87)]
instance : InlOk inlC := inl_cons Tryd.func87 rfl rfl inl_nil

def hasT (l : List SD.T) (v : List UInt8) : Bool := l.any fun x => decide (v = x)
theorem slices_Contains (l : List SD.T) (v : List UInt8) : FnD Tryd.prog 78 [.c (.dat SD l), .c (.str v)] (· = .c (.bool (.sym (hasT l v)))) := by
  refine fnI inlC Tryd.func78 rfl rfl rfl ?_
  conv => whnf
  intro hl
  conv => whnf
  refine loop0 (α := Nat) (fun i => i ≤ l.length ∧ (l.drop i).any (fun x => decide (v = x)) = hasT l v)
    (fun i => ⟨[(0, .c (.dat SD l)), (1, .c (.str v)), (7, .c (.int .i64 l.length)), (8, .c (.int .i64 i))], [], 0⟩) (fun i => l.length - i) ⟨0, ⟨by omega, rfl⟩, ?_⟩ ?_
  · (conv => whnf); refine ⟨rfl, ?_, ?_, ?_⟩ <;> (repeat' apply And.intro) <;> first | exact trivial | rfl | exact wr_succ _ (by omega) | assumption | exact decide_eq_false (by assumption) | exact decide_eq_true (by assumption)
  rintro i ⟨hI1, hI2⟩
  conv => whnf
  refine ⟨fun h2 => ?_, fun h2 => ?_⟩
  · have h2 : i < l.length := by simp at h2; omega
    rw [any_step h2] at hI2
    conv => whnf
    try (intro _; conv => whnf)
    refine ⟨by omega, ?_⟩
    rw [gt_nat (d := SD) l i h2]
    conv => whnf
    refine ⟨fun h3 => ?_, fun h3 => ?_⟩
    · conv => whnf
      rw [← hI2, h3]
      simp
    · conv => whnf
      refine ⟨i + 1, ⟨⟨by omega, ?_⟩, by omega⟩, ?_⟩
      · rw [← hI2, h3, Bool.false_or]
      · (conv => whnf); refine ⟨rfl, ?_, ?_, ?_⟩ <;> (repeat' apply And.intro) <;> first | exact trivial | rfl | exact wr_succ _ (by omega) | assumption | exact decide_eq_false (by assumption) | exact decide_eq_true (by assumption)
  · conv => whnf
    rw [← hI2, any_end (by simp at h2; omega)]
    rfl

/-- a catalog's types of a kind -/
def kindS (c : CD.T) (k : Int) : List SD.T := if k = 1 then c.1 else if k = 2 then c.2.1 else []
noncomputable def inlN : Nat → Option (FI × Code) := lk [(77, fiOf Tryd.f77, bodyOf Tryd.f77)]
instance : InlOk inlN := inl_cons Tryd.func77 rfl rfl inl_nil
theorem schema_Has (c : CD.T) (k : Int) (v : List UInt8) : FnD Tryd.prog 59 [.agg (cc c), .c (.int .i64 k), .c (.str v)] (· = .c (.bool (.sym (hasT (kindS c k) v)))) := by
  refine fnI inlN Tryd.func59 rfl rfl rfl ?_
  conv => whnf
  refine ⟨fun h1 => ?_, fun h1 => ?_⟩
  · conv => whnf
    refine call1 (slices_Contains c.1 v) rfl ?_
    conv => whnf
    simp at h1; simp [kindS, h1]
  · conv => whnf
    refine ⟨fun h2 => ?_, fun h2 => ?_⟩
    · conv => whnf
      refine call1 (slices_Contains c.2.1 v) rfl ?_
      conv => whnf
      simp at h1 h2; simp [kindS, h2]
    · conv => whnf
      simp at h1 h2; simp [kindS, h1, h2, hasT]

/-- are a rule's types known? -/
def knownS (c : CD.T) (r : RD.T) : Bool :=
  if r.2.1 = 1 ∨ r.2.1 = 2 then hasT (kindS c 1) r.2.2.1
  else if r.2.1 = 3 then hasT (kindS c 2) r.2.2.1 && hasT (kindS c 1) r.2.2.2.2.1 && hasT (kindS c 1) r.2.2.2.2.2.1
  else if r.2.1 = 4 then hasT (kindS c 2) r.2.2.1 else false
theorem rule_Known (c : CD.T) (r : RD.T) : FnD Tryd.prog 83 [.agg (cc c), .agg (rc r)] (· = .c (.bool (.sym (knownS c r)))) := by
  refine fn0 Tryd.func83 rfl rfl rfl ?_
  conv => whnf
  refine ⟨fun h1 => ?_, fun h1 => ?_⟩
  · conv => whnf
    refine call1 (schema_Has c 1 r.2.2.1) rfl ?_
    conv => whnf
    simp at h1; simp [knownS, h1]
  conv => whnf
  refine ⟨fun h2 => ?_, fun h2 => ?_⟩
  · conv => whnf
    refine call1 (schema_Has c 1 r.2.2.1) rfl ?_
    conv => whnf
    simp at h1 h2; simp [knownS, h2]
  conv => whnf
  refine ⟨fun h3 => ?_, fun h3 => ?_⟩
  · conv => whnf
    refine call1 (schema_Has c 2 r.2.2.1) rfl ?_
    conv => whnf
    refine callg0 (fun _ => schema_Has c 1 r.2.2.2.2.1) rfl ?_
    conv => whnf
    refine callg0 (fun _ => schema_Has c 1 r.2.2.2.2.2.1) rfl ?_
    conv => whnf
    simp at h1 h2 h3; simp [knownS, h3]
  conv => whnf
  refine ⟨fun h4 => ?_, fun h4 => ?_⟩
  · conv => whnf
    refine call1 (schema_Has c 2 r.2.2.1) rfl ?_
    conv => whnf
    simp at h1 h2 h3 h4; simp [knownS, h4]
  · conv => whnf
    simp at h1 h2 h3 h4; simp [knownS, h1, h2, h3, h4]

theorem small_cat {c : CD.T} (h : largeCat c = false) : c.1.length ≤ 1000 ∧ c.2.1.length ≤ 1000 ∧ c.2.2.1.length ≤ 1000 ∧ c.2.2.2.1.length ≤ 1000 := by
  simp only [largeCat, Bool.or_eq_false_iff, decide_eq_false_iff_not] at h
  omega

end Go.Proofs.YtmdjonckcapkeaaDoor
/- The walks of schema.Types and of the reference's Types. Own work. -/
set_option linter.unusedVariables false
set_option maxRecDepth 100000
namespace Go.Proofs.YtmdjonckcapkeaaDoor
open Go Go.RowKit OE

/-- each above the one ahead of it -/
def risF : List SD.T → Bool
  | x :: y :: l => Op.bytesLess x y && risF (y :: l)
  | _ => true
def tyS (l : List SD.T) : Bool := !decide ((16 : Int) < l.length) && (risF l && l.all nameS)
def typesS (c : CD.T) : Bool := tyS c.1 && tyS c.2.1

theorem ris_step {l : List SD.T} {i : Nat} (h : i + 1 < l.length) : risF (l.drop i) = (Op.bytesLess l[i] l[i + 1] && risF (l.drop (i + 1))) := by
  rw [List.drop_eq_getElem_cons (show i < l.length by omega), List.drop_eq_getElem_cons h]; rfl
theorem ris_end {l : List SD.T} {i : Nat} (h : l.length ≤ i + 1) : risF (l.drop i) = true := by
  cases hd : l.drop i with
  | nil => rfl
  | cons x m =>
    cases m with
    | nil => rfl
    | cons y m =>
      have := congrArg List.length hd
      rw [List.length_drop, List.length_cons, List.length_cons] at this
      omega

theorem schema_rising (l : List SD.T) : FnD Tryd.prog 81 [.c (.dat SD l)] (· = .c (.bool (.sym (risF l)))) := by
  refine fn0 Tryd.func81 rfl rfl rfl ?_
  conv => whnf
  refine loop0 (α := Nat) (fun i => i ≤ l.length ∧ risF (l.drop i) = risF l) (fun i => ⟨[(0, .c (.dat SD l)), (3, .c (.int .i64 ((i : Int) + 1)))], [], 0⟩) (fun i => l.length - i) ⟨0, ⟨by omega, rfl⟩, ?_⟩ ?_
  · (conv => whnf); refine ⟨rfl, ?_, ?_, ?_⟩ <;> (repeat' apply And.intro) <;> first | exact trivial | rfl | exact wr_succ _ (by omega) | assumption | exact decide_eq_false (by assumption) | exact decide_eq_true (by assumption)
  rintro i ⟨hI1, hI2⟩
  conv => whnf
  intro hl
  refine ⟨fun h2 => ?_, fun h2 => ?_⟩
  · have h2 : i + 1 < l.length := by simp at h2; omega
    rw [ris_step h2] at hI2
    have e1 : IntKind.wrap .i64 ((i : Int) + 1 - 1) = (i : Int) := by rw [wr64 _ (by omega) (by omega)]; omega
    have e2 : ((i : Int) + 1) = ((i + 1 : Nat) : Int) := by omega
    conv => whnf
    refine any0 ?_
    conv => whnf
    refine ⟨by omega, ?_⟩
    conv => whnf
    rw [e1]
    refine ⟨by omega, ?_⟩
    rw [gt_nat (d := SD) l i (by omega)]
    rw [e2, gt_nat (d := SD) l (i + 1) h2]
    conv => whnf
    refine ⟨.inl (by kernel_rfl), after0 ?_⟩
    conv => whnf
    have e3 : (Op.bytesLess l[i + 1] l[i] || decide (l[i + 1] = l[i])) = !Op.bytesLess l[i] l[i + 1] := bl_not _ _
    refine ⟨fun h3 => ?_, fun h3 => ?_⟩
    · conv => whnf
      have : Op.bytesLess l[i] l[i + 1] = false := by simpa using e3.symm.trans h3
      rw [← hI2, this]; rfl
    · conv => whnf
      have : Op.bytesLess l[i] l[i + 1] = true := by simpa using e3.symm.trans h3
      refine ⟨i + 1, ⟨⟨by omega, by rw [← hI2, this]; simp⟩, by omega⟩, ?_⟩
      have e4 : IntKind.wrap .i64 (((i + 1 : Nat) : Int) + 1) = ((i + 1 : Nat) : Int) + 1 := wr64 _ (by omega) (by omega)
      (conv => whnf); exact ⟨rfl, ⟨rfl, e4.symm, trivial⟩, trivial, trivial⟩
  · conv => whnf
    rw [← hI2, ris_end (by simp at h2; omega)]

theorem schema_Types (c : CD.T) : FnD Tryd.prog 61 [.agg (cc c)] (· = .c (.bool (.sym (typesS c)))) := by
  refine fn0 Tryd.func61 rfl rfl rfl ?_
  conv => whnf
  intro _
  conv => whnf
  refine unroll0 3 ?_
  conv => whnf
  refine tk rfl ?_
  conv => whnf
  intro _
  conv => whnf
  refine ⟨⟨by decide, by show (0 : Int) < 2; decide⟩, ?_⟩
  conv => whnf
  refine ⟨⟨by decide, by show (0 : Int) < 2; decide⟩, ?_⟩
  conv => whnf
  intro _
  conv => whnf
  refine callg0 (fun _ => schema_rising c.1) rfl ?_
  conv => whnf
  refine ⟨fun h0 => ?_, fun h0 => ?_⟩
  · conv => whnf
    have h0 : (decide ((16 : Int) < (c.1).length) || !risF c.1) = true := h0
    have : tyS c.1 = false := by
      unfold tyS
      cases hr : risF c.1 with
      | true => rw [hr] at h0; simp at h0; simp; omega
      | false => simp
    rw [typesS, this]; simp
  have h0 : (decide ((16 : Int) < (c.1).length) || !risF c.1) = false := h0
  have hT0 : tyS c.1 = (c.1).all nameS := by
    rw [Bool.or_eq_false_iff] at h0
    rw [tyS, h0.1, not_f h0.2]; rfl
  conv => whnf
  intro _
  conv => whnf
  refine loop0 (α := Nat) (fun i => i ≤ (c.1).length ∧ ((c.1).drop i).all nameS = (c.1).all nameS)
    (fun i => ⟨[(1, .c (.ptr 0 0)), (11, .c (.row 1)), (12, .c (.int .i64 2)), (13, .c (.int .i64 0)), (25, .c (.dat SD c.1)), (26, .c (.int .i64 (c.1).length)), (27, .c (.int .i64 i))], [(0, .cells 49 (cc c)), (1, .row 45 (.list .str) [c.1, c.2.1])], 2⟩) (fun i => (c.1).length - i) ⟨0, ⟨by omega, rfl⟩, ?_⟩ ?_
  · (conv => whnf); refine ⟨rfl, ?_, ?_, ?_⟩ <;> (repeat' apply And.intro) <;> first | exact trivial | rfl | exact wr_succ _ (by omega) | assumption | exact decide_eq_false (by assumption) | exact decide_eq_true (by assumption)
  rintro i ⟨hI1, hI2⟩
  conv => whnf
  refine ⟨fun h2 => ?_, fun h2 => ?_⟩
  · have h2 : i < (c.1).length := by simp at h2; omega
    rw [all_step h2] at hI2
    conv => whnf
    try (intro _; conv => whnf)
    refine ⟨by omega, ?_⟩
    rw [gt_nat (d := SD) (c.1) i h2]
    conv => whnf
    refine call1 (val_Name (c.1)[i]) rfl ?_
    conv => whnf
    refine ⟨fun h3 => ?_, fun h3 => ?_⟩
    · conv => whnf
      rw [not_t h3, Bool.false_and] at hI2
      rw [← hI2] at hT0
      rw [typesS, hT0]; simp
    · conv => whnf
      rw [not_f h3, Bool.true_and] at hI2
      refine ⟨i + 1, ⟨⟨by omega, hI2⟩, by omega⟩, ?_⟩
      (conv => whnf); refine ⟨rfl, ?_, ?_, ?_⟩ <;> (repeat' apply And.intro) <;> first | exact trivial | rfl | exact wr_succ _ (by omega) | assumption | exact decide_eq_false (by assumption) | exact decide_eq_true (by assumption)
  rw [all_end (by simp at h2; omega)] at hI2
  rw [← hI2] at hT0
  conv => whnf
  refine tk rfl ?_
  conv => whnf
  intro _
  conv => whnf
  refine ⟨⟨by decide, by show (1 : Int) < 2; decide⟩, ?_⟩
  conv => whnf
  refine ⟨⟨by decide, by show (1 : Int) < 2; decide⟩, ?_⟩
  conv => whnf
  intro _
  conv => whnf
  refine callg0 (fun _ => schema_rising c.2.1) rfl ?_
  conv => whnf
  refine ⟨fun h1 => ?_, fun h1 => ?_⟩
  · conv => whnf
    have h1 : (decide ((16 : Int) < (c.2.1).length) || !risF c.2.1) = true := h1
    have : tyS c.2.1 = false := by
      unfold tyS
      cases hr : risF c.2.1 with
      | true => rw [hr] at h1; simp at h1; simp; omega
      | false => simp
    rw [typesS, this]; simp
  have h1 : (decide ((16 : Int) < (c.2.1).length) || !risF c.2.1) = false := h1
  have hT1 : tyS c.2.1 = (c.2.1).all nameS := by
    rw [Bool.or_eq_false_iff] at h1
    rw [tyS, h1.1, not_f h1.2]; rfl
  conv => whnf
  intro _
  conv => whnf
  refine loop0 (α := Nat) (fun i => i ≤ (c.2.1).length ∧ ((c.2.1).drop i).all nameS = (c.2.1).all nameS)
    (fun i => ⟨[(1, .c (.ptr 0 0)), (11, .c (.row 1)), (12, .c (.int .i64 2)), (13, .c (.int .i64 1)), (25, .c (.dat SD c.2.1)), (26, .c (.int .i64 (c.2.1).length)), (27, .c (.int .i64 i))], [(0, .cells 49 (cc c)), (1, .row 45 (.list .str) [c.1, c.2.1])], 2⟩) (fun i => (c.2.1).length - i) ⟨0, ⟨by omega, rfl⟩, ?_⟩ ?_
  · (conv => whnf); refine ⟨rfl, ?_, ?_, ?_⟩ <;> (repeat' apply And.intro) <;> first | exact trivial | rfl | exact wr_succ _ (by omega) | assumption | exact decide_eq_false (by assumption) | exact decide_eq_true (by assumption)
  rintro i ⟨hI1, hI2⟩
  conv => whnf
  refine ⟨fun h2 => ?_, fun h2 => ?_⟩
  · have h2 : i < (c.2.1).length := by simp at h2; omega
    rw [all_step h2] at hI2
    conv => whnf
    try (intro _; conv => whnf)
    refine ⟨by omega, ?_⟩
    rw [gt_nat (d := SD) (c.2.1) i h2]
    conv => whnf
    refine call1 (val_Name (c.2.1)[i]) rfl ?_
    conv => whnf
    refine ⟨fun h3 => ?_, fun h3 => ?_⟩
    · conv => whnf
      rw [not_t h3, Bool.false_and] at hI2
      rw [← hI2] at hT1
      rw [typesS, hT1]; simp
    · conv => whnf
      rw [not_f h3, Bool.true_and] at hI2
      refine ⟨i + 1, ⟨⟨by omega, hI2⟩, by omega⟩, ?_⟩
      (conv => whnf); refine ⟨rfl, ?_, ?_, ?_⟩ <;> (repeat' apply And.intro) <;> first | exact trivial | rfl | exact wr_succ _ (by omega) | assumption | exact decide_eq_false (by assumption) | exact decide_eq_true (by assumption)
  rw [all_end (by simp at h2; omega)] at hI2
  rw [← hI2] at hT1
  conv => whnf
  refine fk rfl ?_
  conv => whnf
  rw [typesS, hT0, hT1]; rfl
end Go.Proofs.YtmdjonckcapkeaaDoor
/- Which catalogs are good; the walks of cat.Good and of the reference's. Own work. -/
set_option linter.unusedVariables false
set_option maxRecDepth 100000
namespace Go.Proofs.YtmdjonckcapkeaaDoor
open Go Go.RowKit OE

abbrev stR (r : RD.T) : Int := r.2.2.2.2.2.2.2
/-- a rule but for its Id and State -/
def bareS (r : RD.T) : RD.T := (0, r.2.1, r.2.2.1, r.2.2.2.1, r.2.2.2.2.1, r.2.2.2.2.2.1, r.2.2.2.2.2.2.1, 0)
def alikeS (q r : RD.T) : Bool := RD.eqb (bareS q) (bareS r)
def goodR (c : CD.T) (r : RD.T) : Bool := decide (r.1 < c.2.2.2.2) && (formS r && (knownS c r && (decide (1 ≤ stR r) && decide (stR r ≤ 2))))
/-- rules that stand behind others that are good -/
def goodL (c : CD.T) : List RD.T → Int → List RD.T → Bool
  | _, _, [] => true
  | d, last, r :: l => decide (last < r.1) && (goodR c r && (!(d.any fun q => alikeS q r) && goodL c (d ++ [r]) r.1 l))
def bldN (l : List RD.T) : Nat := l.countP fun r => decide (stR r = 1)
def rulesS (c : CD.T) : Bool := goodL c [] 0 c.2.2.1 && (decide (bldN c.2.2.1 ≤ 1) && decide (c.2.2.1.length ≤ 16))
/-- indexes that stand behind one (or none) -/
def idxL (c : CD.T) : Option ID.T → List ID.T → Bool
  | _, [] => true
  | p, x :: l => !(!hasT c.1 x.1 || !nameS x.2 || (match p with | none => false | some q => !ltIx q x)) && idxL c (some x) l
def idxS (c : CD.T) : Bool := idxL c none c.2.2.2.1
def goodC (c : CD.T) : Bool := typesS c && (decide (1 ≤ c.2.2.2.2) && (decide (c.2.2.2.2 ≤ 1000000) && (decide (c.2.2.2.1.length ≤ 16) && (idxS c && rulesS c))))

theorem goodL_step {c : CD.T} {d : List RD.T} {last : Int} {l : List RD.T} {i : Nat} (h : i < l.length) : goodL c d last (l.drop i) = (decide (last < l[i].1) && (goodR c l[i] && (!(d.any fun q => alikeS q l[i]) && goodL c (d ++ [l[i]]) l[i].1 (l.drop (i + 1))))) := by
  rw [List.drop_eq_getElem_cons h]; rfl
theorem idx_step0 {c : CD.T} {l : List ID.T} (h : 0 < l.length) : idxL c none l = (!(!hasT c.1 l[0].1 || !nameS l[0].2 || false) && idxL c (some l[0]) (l.drop 1)) := by
  cases l with
  | nil => simp at h
  | cons x l => rfl
theorem idx_step {c : CD.T} {l : List ID.T} {i : Nat} (h : i + 1 < l.length) : idxL c (some l[i]) (l.drop (i + 1)) = (!(!hasT c.1 l[i + 1].1 || !nameS l[i + 1].2 || !ltIx l[i] l[i + 1]) && idxL c (some l[i + 1]) (l.drop (i + 2))) := by
  rw [List.drop_eq_getElem_cons h]; rfl
theorem idx_end (c : CD.T) (p : Option ID.T) {l : List ID.T} {i : Nat} (h : l.length ≤ i) : idxL c p (l.drop i) = true := by
  rw [List.drop_of_length_le h]; cases p <;> rfl
/-- what stands ahead of a place -/
def prevI (l : List ID.T) : Nat → Option ID.T
  | 0 => none
  | i + 1 => l[i]?
theorem bld_step {l : List RD.T} {i : Nat} (h : i < l.length) : bldN (l.take (i + 1)) = bldN (l.take i) + (if decide (stR l[i] = 1) = true then 1 else 0) := by
  unfold bldN
  rw [take_step h, List.countP_append, List.countP_singleton]
theorem bld_le (l : List RD.T) : bldN l ≤ l.length := List.countP_le_length

theorem cat_bare (r : RD.T) : FnD Tryd.prog 82 [.agg (rc r)] (· = .agg (rc (bareS r))) := by
  refine fn0 Tryd.func82 rfl rfl rfl ?_
  conv => whnf
  rfl
theorem dle (a b : Int) : decide (a ≤ b) = !decide (b < a) := by
  rw [Bool.eq_iff_iff]; simp
theorem goodStep (c : CD.T) (r : RD.T) (last : Int) (A X : Bool) : (decide (last < r.1) && (goodR c r && (!A && X))) = (!(decide (r.1 ≤ last) || decide (c.2.2.2.2 ≤ r.1) || !formS r || !knownS c r || decide (stR r < 1) || decide (2 < stR r) || A) && X) := by
  unfold goodR
  rw [dle r.1 last, dle c.2.2.2.2 r.1, dle 1 (stR r), dle (stR r) 2]
  simp only [Bool.not_or, Bool.not_not, Bool.and_assoc]
theorem le64 {n : Nat} (h : n ≤ 140737488351232) : n ≤ 9223372036854775807 := by omega
theorem bare_ok {r : RD.T} (h : Wf RD r) : RD.ok (bareS r) := by
  obtain ⟨h1, h2, h3, h4, h5, h6, h7, h8⟩ := h
  exact ⟨by show (Lit.int .i64 0).wf = true; decide, h2, le64 h3, le64 h4, le64 h5, le64 h6, h7, by show (Lit.int .i64 0).wf = true; decide⟩

theorem cat_goodRules (c : CD.T) (hw : ∀ r ∈ c.2.2.1, Wf RD r) (hl : c.2.2.1.length ≤ 1000) : FnD Tryd.prog 62 [.agg (cc c)] (· = .c (.bool (.sym (rulesS c)))) := by
  refine fn0 Tryd.func62 rfl rfl rfl ?_
  conv => whnf
  intro _
  conv => whnf
  refine loop0 (α := Nat × Int × List (RD.T × Int)) (fun p => p.1 ≤ c.2.2.1.length ∧ (∀ k : RD.T, mval (kd := RD) (vd := .int .i64) p.2.2 k = ((c.2.2.1.take p.1).countP (fun q => RD.eqb (bareS q) k) : Nat)) ∧ goodL c (c.2.2.1.take p.1) p.2.1 (c.2.2.1.drop p.1) = goodL c [] 0 c.2.2.1)
    (fun p => ⟨[(1, .c (.ptr 0 0)), (3, .c (.mp 1)), (4, .c (.int .i64 p.2.1)), (5, .c (.int .i64 (bldN (c.2.2.1.take p.1)))), (10, .c (.dat RD c.2.2.1)), (11, .c (.int .i64 c.2.2.1.length)), (12, .c (.int .i64 p.1))],
      [(0, .cells 49 (cc c)), (1, .dmp 161 RD (.int .i64) p.2.2)], 2⟩) (fun p => c.2.2.1.length - p.1) ⟨(0, 0, []), ⟨by simp, fun k => by simp [mval, midx, D.df], rfl⟩, ?_⟩ ?_
  · (conv => whnf); refine ⟨rfl, ?_, ?_, ?_⟩ <;> (repeat' apply And.intro) <;> first | exact trivial | rfl | exact wr_succ _ (by omega) | assumption | exact decide_eq_false (by assumption) | exact decide_eq_true (by assumption)
  rintro ⟨i, last, es⟩ ⟨hI1, hI3, hI4⟩
  dsimp only at hI1 hI3 hI4 ⊢
  conv => whnf
  refine ⟨fun h2 => ?_, fun h2 => ?_⟩
  · have h2 : i < c.2.2.1.length := by simp at h2; omega
    rw [goodL_step h2] at hI4
    have hb := bld_step h2
    have hwr := hw c.2.2.1[i] (List.getElem_mem h2)
    conv => whnf
    try (intro _; conv => whnf)
    refine ⟨by omega, ?_⟩
    rw [gt_nat (d := RD) c.2.2.1 i h2]
    conv => whnf
    generalize hr : c.2.2.1[i] = r at hI4 hb hwr
    refine any0 ?_
    conv => whnf
    refine callr0 (cat_bare r) rfl ?_
    conv => whnf
    have hok := bare_ok hwr
    refine ⟨hok, ?_⟩
    conv => whnf
    refine ⟨hok, ?_⟩
    conv => whnf
    rw [show ((bareS r).1, (bareS r).2.1, (bareS r).2.2.1, (bareS r).2.2.2.1, (bareS r).2.2.2.2.1, (bareS r).2.2.2.2.2.1, (bareS r).2.2.2.2.2.2.1, (bareS r).2.2.2.2.2.2.2) = bareS r from rfl]
    have hlen := ent_len (kd := RD) (vd := .int .i64) es (bareS r)
    have hcnt := hI3 (bareS r)
    have hle : (c.2.2.1.take i).countP (fun q => RD.eqb (bareS q) (bareS r)) ≤ 1000 := Nat.le_trans List.countP_le_length (by rw [List.length_take]; omega)
    refine ⟨⟨by omega, by omega⟩, ?_⟩
    conv => whnf
    rw [Int.toNat_natCast, ent_mset (kd := RD) (vd := .int .i64) es (bareS r), hcnt, wr_succ' _ (by omega)]
    refine ⟨x0 3 5 rfl (by kernel_rfl) rfl rfl rfl rfl rfl rfl ?_ ?_, after0 ?_⟩
    · exact hok
    · show SV.c (.int .i64 (mval (kd := RD) (vd := .int .i64) (ment es (bareS r)) (bareS r))) = _
      rw [mval_ment (kd := RD) (vd := .int .i64), hcnt]
    conv => whnf
    refine callg0 (fun _ => rule_Form r) rfl ?_
    conv => whnf
    refine callg0 (fun _ => rule_Known c r) rfl ?_
    conv => whnf
    refine callg0 (fun _ => cat_bare r) rfl ?_
    conv => whnf
    refine ⟨fun _ => hok, ?_⟩
    conv => whnf
    rw [show ((bareS r).1, (bareS r).2.1, (bareS r).2.2.1, (bareS r).2.2.2.1, (bareS r).2.2.2.2.1, (bareS r).2.2.2.2.2.1, (bareS r).2.2.2.2.2.2.1, (bareS r).2.2.2.2.2.2.2) = bareS r from rfl, mval_mset (kd := RD) (vd := .int .i64), if_pos rfl]
    have hany : (c.2.2.1.take i).any (fun q => alikeS q r) = decide ((1 : Int) < (((c.2.2.1.take i).countP (fun q => RD.eqb (bareS q) (bareS r)) + 1 : Nat) : Int)) := by
      rw [Bool.eq_iff_iff, List.any_eq_true, decide_eq_true_eq]
      have : 0 < (c.2.2.1.take i).countP (fun q => RD.eqb (bareS q) (bareS r)) ↔ _ := List.countP_pos_iff
      constructor
      · intro h; have := this.2 h; omega
      · intro h; exact this.1 (by omega)
    rw [hany, goodStep] at hI4
    refine ⟨fun h4 => ?_, fun h4 => ?_⟩
    · rw [show (!_ && _) = _ from congrArg (fun b => !b && _) h4] at hI4
      rw [show rulesS c = false by unfold rulesS; rw [← hI4]; rfl]
      conv => whnf
    · rw [show (!_ && _) = _ from congrArg (fun b => !b && _) h4] at hI4
      conv => whnf
      simp only [Bool.not_false, Bool.true_and] at hI4
      have hle1 := bld_le (c.2.2.1.take i)
      rw [List.length_take] at hle1
      have hts : c.2.2.1.take (i + 1) = c.2.2.1.take i ++ [r] := by rw [take_step h2, hr]
      have hmap : ∀ k : RD.T, mval (kd := RD) (vd := .int .i64) (mset (kd := RD) (vd := .int .i64) es (bareS r) (((c.2.2.1.take i).countP (fun q => RD.eqb (bareS q) (bareS r)) + 1 : Nat) : Int)) k = ((c.2.2.1.take (i + 1)).countP (fun q => RD.eqb (bareS q) k) : Nat) := by
        intro k
        rw [mval_mset (kd := RD) (vd := .int .i64), hts, List.countP_append, List.countP_singleton]
        by_cases hk : bareS r = k
        · subst hk; rw [if_pos rfl, if_pos ((D.eqb_iff RD _ _).2 rfl)]
        · rw [if_neg hk, hI3 k, if_neg (fun e => hk ((D.eqb_iff RD _ _).1 e))]; rfl
      refine ⟨fun h5 => ?_, fun h5 => ?_⟩
      · conv => whnf
        rw [if_pos (by exact h5)] at hb
        refine ⟨(i + 1, r.1, mset (kd := RD) (vd := .int .i64) es (bareS r) (((c.2.2.1.take i).countP (fun q => RD.eqb (bareS q) (bareS r)) + 1 : Nat) : Int)), ⟨⟨by dsimp only; omega, hmap, by dsimp only; rw [hts, hI4]⟩, by dsimp only; omega⟩, ?_⟩
        rw [hb]
        (conv => whnf); refine ⟨rfl, ?_, ?_, ?_⟩ <;> (repeat' apply And.intro) <;> first | exact trivial | rfl | exact wr_succ _ (by omega) | assumption | exact decide_eq_false (by assumption) | exact decide_eq_true (by assumption)
      · conv => whnf
        rw [if_neg (by rw [Bool.not_eq_true]; exact h5)] at hb
        refine ⟨(i + 1, r.1, mset (kd := RD) (vd := .int .i64) es (bareS r) (((c.2.2.1.take i).countP (fun q => RD.eqb (bareS q) (bareS r)) + 1 : Nat) : Int)), ⟨⟨by dsimp only; omega, hmap, by dsimp only; rw [hts, hI4]⟩, by dsimp only; omega⟩, ?_⟩
        rw [hb]
        (conv => whnf); refine ⟨rfl, ?_, ?_, ?_⟩ <;> (repeat' apply And.intro) <;> first | exact trivial | rfl | exact wr_succ _ (by omega) | assumption | exact decide_eq_false (by assumption) | exact decide_eq_true (by assumption)
  · conv => whnf
    rw [List.take_of_length_le (by simp at h2; omega), List.drop_of_length_le (by simp at h2; omega)] at hI4
    rw [show goodL c c.2.2.1 last [] = true from rfl] at hI4
    intro _
    conv => whnf
    rw [List.take_of_length_le (by simp at h2; omega)]
    rw [show rulesS c = (decide (((bldN c.2.2.1 : Nat) : Int) ≤ 1) && decide ((c.2.2.1.length : Int) ≤ 16)) by
      unfold rulesS; rw [← hI4, Bool.true_and]; norm_cast]

theorem dc16 (n : Nat) : decide ((n : Int) ≤ 16) = decide (n ≤ 16) := by
  rw [Bool.eq_iff_iff, decide_eq_true_eq, decide_eq_true_eq]; omega
theorem wr_prd (i : Nat) (h : i ≤ 9223372036854775806) : IntKind.wrap .i64 (((i + 1 : Nat) : Int) - 1) = (i : Int) := by
  rw [show ((i + 1 : Nat) : Int) - 1 = (i : Int) by omega]
  exact wr64 _ (by omega) (by omega)
theorem cat_Good (c : CD.T) (hw : ∀ r ∈ c.2.2.1, Wf RD r) (hl : c.2.2.1.length ≤ 1000) : FnD Tryd.prog 52 [.agg (cc c)] (· = .c (.bool (.sym (goodC c)))) := by
  refine fn0 Tryd.func52 rfl rfl rfl ?_
  conv => whnf
  intro hl2
  conv => whnf
  refine loop0 (fun i => i ≤ c.2.2.2.1.length ∧ idxL c (prevI c.2.2.2.1 i) (c.2.2.2.1.drop i) = idxS c) (fun i => ⟨[(1, .c (.ptr 0 0)), (6, .c (.dat ID c.2.2.2.1)), (7, .c (.int .i64 c.2.2.2.1.length)), (8, .c (.int .i64 i))], [(0, .cells 49 (cc c))], 1⟩) (fun i => c.2.2.2.1.length - i) ⟨0, ⟨by simp, rfl⟩, ?_⟩ ?_
  · (conv => whnf); refine ⟨rfl, ?_, ?_, ?_⟩ <;> (repeat' apply And.intro) <;> first | exact trivial | rfl | exact wr_succ _ (by omega) | assumption | exact decide_eq_false (by assumption) | exact decide_eq_true (by assumption)
  rintro i ⟨hI1, hI2⟩
  conv => whnf
  refine ⟨fun h2 => ?_, fun h2 => ?_⟩
  · have h2 : i < c.2.2.2.1.length := by simp at h2; omega
    conv => whnf
    try (intro _; conv => whnf)
    refine ⟨by omega, ?_⟩
    rw [gt_nat (d := ID) c.2.2.2.1 i h2]
    conv => whnf
    cases i with
    | zero =>
      rw [show prevI c.2.2.2.1 0 = none from rfl, List.drop_zero, idx_step0 h2] at hI2
      refine any0 ?_
      conv => whnf
      refine callr0 (schema_Has c 1 c.2.2.2.1[0].1) rfl ?_
      conv => whnf
      refine callrg0 (fun _ => val_Name c.2.2.2.1[0].2) rfl ?_
      conv => whnf
      refine ⟨fun h => by simp at h, ?_⟩
      conv => whnf
      refine callrg0 (fun _ => cat_ahead _ c.2.2.2.1[0]) rfl ?_
      conv => whnf
      refine ⟨.inl (by kernel_rfl), after0 ?_⟩
      conv => whnf
      refine ⟨fun h3 => ?_, fun h3 => ?_⟩
      · have h3 : (!hasT c.1 c.2.2.2.1[0].1 || !nameS c.2.2.2.1[0].2 || false) = true := h3
        rw [h3] at hI2
        rw [show goodC c = false by unfold goodC; rw [← hI2]; simp]
        conv => whnf
      · have h3 : (!hasT c.1 c.2.2.2.1[0].1 || !nameS c.2.2.2.1[0].2 || false) = false := h3
        rw [h3, Bool.not_false, Bool.true_and] at hI2
        conv => whnf
        refine ⟨1, ⟨⟨by omega, by rw [← hI2]; exact congrArg (fun p => idxL c p _) (List.getElem?_eq_getElem h2)⟩, by omega⟩, ?_⟩
        (conv => whnf); refine ⟨rfl, ?_, ?_, ?_⟩ <;> (repeat' apply And.intro) <;> first | exact trivial | rfl | exact wr_succ _ (by omega) | assumption | exact decide_eq_false (by assumption) | exact decide_eq_true (by assumption)
    | succ i =>
      rw [show prevI c.2.2.2.1 (i + 1) = some c.2.2.2.1[i] from List.getElem?_eq_getElem (by omega), idx_step h2] at hI2
      refine any0 ?_
      conv => whnf
      refine callr0 (schema_Has c 1 c.2.2.2.1[i + 1].1) rfl ?_
      conv => whnf
      refine callrg0 (fun _ => val_Name c.2.2.2.1[i + 1].2) rfl ?_
      conv => whnf
      rw [wr_prd i (by omega)]
      refine ⟨fun _ => by omega, ?_⟩
      rw [gt_nat (d := ID) c.2.2.2.1 i (by omega)]
      conv => whnf
      refine callrg0 (fun _ => cat_ahead _ c.2.2.2.1[i + 1]) rfl ?_
      conv => whnf
      refine ⟨.inl (by kernel_rfl), after0 ?_⟩
      conv => whnf
      rw [show decide ((0 : Int) < ((i + 1 : Nat) : Int)) = true from decide_eq_true (by omega), Bool.true_and, dle 0, cmpIx_lt]
      refine ⟨fun h3 => ?_, fun h3 => ?_⟩
      · have h3 : (!hasT c.1 c.2.2.2.1[i + 1].1 || !nameS c.2.2.2.1[i + 1].2 || !ltIx c.2.2.2.1[i] c.2.2.2.1[i + 1]) = true := h3
        rw [h3] at hI2
        rw [show goodC c = false by unfold goodC; rw [← hI2]; simp]
        conv => whnf
      · have h3 : (!hasT c.1 c.2.2.2.1[i + 1].1 || !nameS c.2.2.2.1[i + 1].2 || !ltIx c.2.2.2.1[i] c.2.2.2.1[i + 1]) = false := h3
        rw [h3, Bool.not_false, Bool.true_and] at hI2
        conv => whnf
        refine ⟨i + 2, ⟨⟨by omega, by rw [← hI2]; exact congrArg (fun p => idxL c p _) (List.getElem?_eq_getElem h2)⟩, by omega⟩, ?_⟩
        (conv => whnf); refine ⟨rfl, ?_, ?_, ?_⟩ <;> (repeat' apply And.intro) <;> first | exact trivial | rfl | exact wr_succ _ (by omega) | assumption | exact decide_eq_false (by assumption) | exact decide_eq_true (by assumption)
  · rw [idx_end c _ (by simp at h2; omega)] at hI2
    conv => whnf
    refine call1 (schema_Types c) rfl ?_
    conv => whnf
    intro _
    conv => whnf
    refine callg0 (fun _ => cat_goodRules c hw hl) rfl ?_
    conv => whnf
    unfold goodC
    rw [← hI2]
    rw [dc16]
    simp only [Bool.true_and, Bool.and_assoc]

/-- the Id ahead of a place -/
def prevR (l : List RD.T) : Nat → Int
  | 0 => 0
  | i + 1 => (gt (d := RD) l i).1
theorem prevR_succ {l : List RD.T} {i : Nat} (h : i < l.length) : prevR l (i + 1) = l[i].1 := by
  show (gt (d := RD) l i).1 = _
  rw [gt_nat (d := RD) l i h]
theorem refStep (c : CD.T) (r : RD.T) (last : Int) (b : Bool) (hb : (decide (r.1 < 1) || b) = !decide (last < r.1)) (A X : Bool) : (decide (last < r.1) && (goodR c r && (!A && X))) = (!(decide (r.1 < 1) || decide (c.2.2.2.2 ≤ r.1) || b || !formS r || !knownS c r || (!decide (stR r = 1) && !decide (stR r = 2))) && (!A && X)) := by
  have h1 : (decide (1 ≤ stR r) && decide (stR r ≤ 2)) = !(!decide (stR r = 1) && !decide (stR r = 2)) := by
    rw [Bool.eq_iff_iff]; simp; omega
  have h2 : decide (last < r.1) = !(decide (r.1 < 1) || b) := by rw [hb, Bool.not_not]
  unfold goodR
  rw [h1, h2, dle c.2.2.2.2 r.1]
  generalize (!decide (stR r = 1) && !decide (stR r = 2)) = g
  simp only [Bool.not_or, Bool.not_not]
  ac_rfl
theorem anyT_step {l : List RD.T} {r : RD.T} {k : Nat} (h : k < l.length) : (l.take (k + 1)).any (fun q => alikeS q r) = ((l.take k).any (fun q => alikeS q r) || alikeS l[k] r) := by
  rw [take_step h, List.any_append]; simp
theorem idz1 (a : Int) : decide (a < 1) = !decide (0 < a) := by
  rw [Bool.eq_iff_iff]; simp; omega
theorem idz2 (a q : Int) (h : 0 ≤ q) : (decide (a < 1) || decide (a ≤ q)) = !decide (q < a) := by
  rw [Bool.eq_iff_iff]; simp; omega
end Go.Proofs.YtmdjonckcapkeaaDoor
/- The walks of answer.id, empty, Good and of the reference's. Own work. -/
set_option linter.unusedVariables false
set_option maxRecDepth 100000
namespace Go.Proofs.YtmdjonckcapkeaaDoor.Ans
open Go Go.RowKit OE

def okId (n : Int) : Bool := decide (0 ≤ n) && decide (n ≤ 4611686018427387903)
def idsS (l : List Int) : Bool := l.all okId
theorem ids_take {l : List Int} {i : Nat} (h : i < l.length) : (l.take (i + 1)).all okId = ((l.take i).all okId && okId l[i]) := by
  rw [List.take_add_one, List.all_append, List.getElem?_eq_getElem h]
  simp
theorem ans_id (l : List Int) : FnD Tryd.prog 48 [.c (.dat LD l)] (· = .c (.bool (.sym (idsS l)))) := by
  refine fn0 Tryd.func48 rfl rfl rfl ?_
  conv => whnf
  intro hlen
  conv => whnf
  refine loop0 (α := Nat) (fun i => i ≤ l.length ∧ (l.take i).all okId = true) (fun i => ⟨[(5, .c (.dat LD l)), (6, .c (.int .i64 l.length)), (7, .c (.int .i64 i))], [], 0⟩) (fun i => l.length - i) ⟨0, ⟨by omega, by simp⟩, ?_⟩ ?_
  · (conv => whnf); refine ⟨rfl, ?_, ?_, ?_⟩ <;> (repeat' apply And.intro) <;> first | exact trivial | rfl | exact wr_succ _ (by omega) | assumption | exact decide_eq_false (by assumption) | exact decide_eq_true (by assumption)
  rintro i ⟨hi, hI⟩
  conv => whnf
  refine ⟨fun h2 => ?_, fun h2 => ?_⟩
  · have h2 : i < l.length := by rw [decide_eq_true_eq] at h2; omega
    conv => whnf
    try (intro _; conv => whnf)
    refine ⟨by omega, ?_⟩
    rw [gt_nat (d := LD) l i h2]
    conv => whnf
    refine ⟨fun h3 => ?_, fun h3 => ?_⟩
    · have h3 : okId l[i] = false := by
        rw [Bool.or_eq_true, decide_eq_true_eq, decide_eq_true_eq] at h3
        unfold okId
        rcases h3 with h | h
        · rw [decide_eq_false (Int.not_le.2 h)]; rfl
        · rw [decide_eq_false (Int.not_le.2 h), Bool.and_false]
      have : idsS l = false := by
        unfold idsS
        rw [List.all_eq_false]
        exact ⟨l[i], List.getElem_mem h2, by rw [h3]; decide⟩
      rw [this]
      conv => whnf
    have h3 : okId l[i] = true := by
      rw [Bool.or_eq_false_iff, decide_eq_false_iff_not, decide_eq_false_iff_not] at h3
      unfold okId
      rw [decide_eq_true (Int.not_lt.1 h3.1), decide_eq_true (Int.not_lt.1 h3.2)]; rfl
    conv => whnf
    refine ⟨i + 1, ⟨⟨by omega, by rw [ids_take h2, hI, h3]; rfl⟩, by omega⟩, ?_⟩
    (conv => whnf); refine ⟨rfl, ?_, ?_, ?_⟩ <;> (repeat' apply And.intro) <;> first | exact trivial | rfl | exact wr_succ _ (by omega) | assumption | exact decide_eq_false (by assumption) | exact decide_eq_true (by assumption)
  · have h2 : l.length ≤ i := by rw [decide_eq_false_iff_not] at h2; omega
    rw [show idsS l = true by rw [List.take_of_length_le h2] at hI; exact hI]
    conv => whnf
/-- a reply: code, Id, rule, nodes, edges, Ids, catalog -/
abbrev AD : D := .pair (.int .i64) (.pair (.int .i64) (.pair (.int .i64) (.pair (.list ND) (.pair (.list ED) (.pair (.list LD) CD)))))
abbrev ac (r : AD.T) : List C := [.int .i64 r.1, .int .i64 r.2.1, .int .i64 r.2.2.1, .dat ND r.2.2.2.1, .dat ED r.2.2.2.2.1, .dat LD r.2.2.2.2.2.1, .dat .str r.2.2.2.2.2.2.1, .dat .str r.2.2.2.2.2.2.2.1, .dat RD r.2.2.2.2.2.2.2.2.1, .dat ID r.2.2.2.2.2.2.2.2.2.1, .int .i64 r.2.2.2.2.2.2.2.2.2.2]
def aC (r : AD.T) : CD.T := r.2.2.2.2.2.2
def emptyC (c : CD.T) : Bool := decide (c.2.2.2.2 = 0) && decide (c.1.length + c.2.1.length + c.2.2.1.length + c.2.2.2.1.length = 0)
theorem sum4 (a b c d : Nat) (h1 : a ≤ 140737488351232) (h2 : b ≤ 140737488351232) (h3 : c ≤ 140737488351232) (h4 : d ≤ 140737488351232) :
    IntKind.wrap .i64 (IntKind.wrap .i64 (IntKind.wrap .i64 ((a : Int) + b) + c) + d) = ((a + b + c + d : Nat) : Int) := by
  rw [wr64 ((a : Int) + b) (by omega) (by omega), wr64 ((a : Int) + b + c) (by omega) (by omega), wr64 _ (by omega) (by omega)]
  omega
theorem ans_empty (c : CD.T) (hw : Wf CD c) : FnD Tryd.prog 51 [.agg (cc c)] (· = .c (.bool (.sym (emptyC c)))) := by
  have w1 := hw.1.1
  have w2 := hw.2.1.1
  have w3 := hw.2.2.1.1
  have w4 := hw.2.2.2.1.1
  refine fn0 Tryd.func51 rfl rfl rfl ?_
  conv => whnf
  intro _
  conv => whnf
  intro _
  conv => whnf
  intro _
  conv => whnf
  intro _
  conv => whnf
  rw [sum4 _ _ _ _ w1 w2 w3 w4]
  unfold emptyC
  have e : ∀ n : Nat, decide ((n : Int) = 0) = decide (n = 0) := fun n => by
    rw [Bool.eq_iff_iff, decide_eq_true_eq, decide_eq_true_eq]; omega
  rw [e]
def goodN (n : ND.T) : Bool := okId n.1 && nameS n.2.1 && propsS n.2.2
def goodE (e : ED.T) : Bool := okId e.1 && okId e.2.2.1 && okId e.2.2.2.1 && nameS e.2.1 && propsS e.2.2.2.2
def bndA (r : AD.T) : Bool := decide ((r.1 : Int) < 0) || decide (1000 < (r.1 : Int)) || decide ((r.2.2.1 : Int) < 0) || decide (1000000 < (r.2.2.1 : Int)) || decide ((1024 : Int) < r.2.2.2.1.length) || decide ((1024 : Int) < r.2.2.2.2.1.length) || decide ((1024 : Int) < r.2.2.2.2.2.1.length)
def headA (r : AD.T) : Bool := !bndA r && (okId r.2.1 && idsS r.2.2.2.2.2.1)
def goodA (r : AD.T) : Bool := headA r && (r.2.2.2.1.all goodN && (r.2.2.2.2.1.all goodE && (emptyC (aC r) || goodC (aC r))))
theorem all_step {α : Type} {f : α → Bool} {l : List α} {i : Nat} (h : i < l.length) : (l.take (i + 1)).all f = ((l.take i).all f && f l[i]) := by
  rw [List.take_add_one, List.all_append, List.getElem?_eq_getElem h]
  simp
theorem all_no {α : Type} {f : α → Bool} {l : List α} {i : Nat} (h : i < l.length) (hf : f l[i] = false) : l.all f = false := by
  rw [List.all_eq_false]
  exact ⟨l[i], List.getElem_mem h, by rw [hf]; decide⟩
theorem ids_one (n : Int) : idsS [n] = okId n := by unfold idsS; simp
theorem ids_three (a b c : Int) : idsS [a, b, c] = (okId a && okId b && okId c) := by unfold idsS; simp [Bool.and_assoc]
theorem ans_Good (r : AD.T) (hw : Wf AD r) (hl : (aC r).2.2.1.length ≤ 1000) : FnD Tryd.prog 38 [.agg (ac r)] (· = .c (.bool (.sym (goodA r)))) := by
  refine fn0 Tryd.func38 rfl rfl rfl ?_
  conv => whnf
  intro _
  conv => whnf
  intro _
  conv => whnf
  intro _
  conv => whnf
  refine ⟨fun g => ?_, fun g => ?_⟩
  · have g : bndA r = true := g
    rw [show goodA r = false by unfold goodA headA; rw [g]; rfl]
    conv => whnf
  have g : bndA r = false := g
  conv => whnf
  refine lend0 (ans_id [r.2.1]) rfl rfl ?_
  conv => whnf
  refine callg0 (fun _ => ans_id r.2.2.2.2.2.1) rfl ?_
  conv => whnf
  rw [ids_one]
  refine ⟨fun k => ?_, fun k => ?_⟩
  · have : headA r = false := by
      unfold headA
      rw [g]
      revert k
      cases okId r.2.1 <;> cases idsS r.2.2.2.2.2.1 <;> simp
    rw [show goodA r = false by unfold goodA; rw [this]; rfl]
    conv => whnf
  have hh : headA r = true := by
    unfold headA
    rw [g]
    revert k
    cases okId r.2.1 <;> cases idsS r.2.2.2.2.2.1 <;> simp
  rw [show goodA r = (r.2.2.2.1.all goodN && (r.2.2.2.2.1.all goodE && (emptyC (aC r) || goodC (aC r)))) by unfold goodA; rw [hh]; rfl]
  conv => whnf
  intro _
  conv => whnf
  refine loop0 (α := Nat) (fun i => i ≤ r.2.2.2.1.length ∧ (r.2.2.2.1.take i).all goodN = true) (fun i => ⟨[(1, .c (.ptr 0 0)), (57, .c (.dat ND r.2.2.2.1)), (58, .c (.int .i64 r.2.2.2.1.length)), (59, .c (.int .i64 i))], [(0, .cells 51 (ac r))], 1⟩) (fun i => r.2.2.2.1.length - i) ⟨0, ⟨by omega, by simp⟩, ?_⟩ ?_
  · (conv => whnf); refine ⟨rfl, ?_, ?_, ?_⟩ <;> (repeat' apply And.intro) <;> first | exact trivial | rfl | exact wr_succ _ (by omega) | assumption | exact decide_eq_false (by assumption) | exact decide_eq_true (by assumption)
  rintro i ⟨hi, hI⟩
  conv => whnf
  refine ⟨fun h2 => ?_, fun h2 => ?_⟩
  · have h2 : i < r.2.2.2.1.length := by rw [decide_eq_true_eq] at h2; omega
    conv => whnf
    try (intro _; conv => whnf)
    refine ⟨by omega, ?_⟩
    rw [gt_nat (d := ND) r.2.2.2.1 i h2]
    conv => whnf
    refine lend0 (ans_id [r.2.2.2.1[i].1]) rfl rfl ?_
    conv => whnf
    refine callg0 (fun _ => val_Name r.2.2.2.1[i].2.1) rfl ?_
    conv => whnf
    refine callg0 (fun _ => val_Props r.2.2.2.1[i].2.2 (fun p hp => ((hw.2.2.2.1.2 _ (List.getElem_mem h2)).2.2.2 p hp).2.1)) rfl ?_
    conv => whnf
    rw [ids_one]
    refine ⟨fun h3 => ?_, fun h3 => ?_⟩
    · have : goodN r.2.2.2.1[i] = false := by
        unfold goodN
        revert h3
        cases okId r.2.2.2.1[i].1 <;> cases nameS r.2.2.2.1[i].2.1 <;> cases propsS r.2.2.2.1[i].2.2 <;> simp
      rw [all_no h2 this]
      conv => whnf
      rfl
    have h3 : goodN r.2.2.2.1[i] = true := by
      unfold goodN
      revert h3
      cases okId r.2.2.2.1[i].1 <;> cases nameS r.2.2.2.1[i].2.1 <;> cases propsS r.2.2.2.1[i].2.2 <;> simp
    conv => whnf
    refine ⟨i + 1, ⟨⟨by omega, by rw [all_step h2, hI, h3]; rfl⟩, by omega⟩, ?_⟩
    (conv => whnf); refine ⟨rfl, ?_, ?_, ?_⟩ <;> (repeat' apply And.intro) <;> first | exact trivial | rfl | exact wr_succ _ (by omega) | assumption | exact decide_eq_false (by assumption) | exact decide_eq_true (by assumption)
  have h2 : r.2.2.2.1.length ≤ i := by rw [decide_eq_false_iff_not] at h2; omega
  rw [show r.2.2.2.1.all goodN = true by rw [List.take_of_length_le h2] at hI; exact hI]
  clear hI h2 hi
  conv => whnf
  intro _
  conv => whnf
  refine loop0 (α := Nat) (fun i => i ≤ r.2.2.2.2.1.length ∧ (r.2.2.2.2.1.take i).all goodE = true) (fun i => ⟨[(1, .c (.ptr 0 0)), (82, .c (.dat ED r.2.2.2.2.1)), (83, .c (.int .i64 r.2.2.2.2.1.length)), (84, .c (.int .i64 i))], [(0, .cells 51 (ac r))], 1⟩) (fun i => r.2.2.2.2.1.length - i) ⟨0, ⟨by omega, by simp⟩, ?_⟩ ?_
  · (conv => whnf); refine ⟨rfl, ?_, ?_, ?_⟩ <;> (repeat' apply And.intro) <;> first | exact trivial | rfl | exact wr_succ _ (by omega) | assumption | exact decide_eq_false (by assumption) | exact decide_eq_true (by assumption)
  rintro i ⟨hi, hI⟩
  conv => whnf
  refine ⟨fun h2 => ?_, fun h2 => ?_⟩
  · have h2 : i < r.2.2.2.2.1.length := by rw [decide_eq_true_eq] at h2; omega
    conv => whnf
    try (intro _; conv => whnf)
    refine ⟨by omega, ?_⟩
    rw [gt_nat (d := ED) r.2.2.2.2.1 i h2]
    conv => whnf
    refine lend0 (ans_id [r.2.2.2.2.1[i].1, r.2.2.2.2.1[i].2.2.1, r.2.2.2.2.1[i].2.2.2.1]) rfl rfl ?_
    conv => whnf
    refine callg0 (fun _ => val_Name r.2.2.2.2.1[i].2.1) rfl ?_
    conv => whnf
    refine callg0 (fun _ => val_Props r.2.2.2.2.1[i].2.2.2.2 (fun p hp => ((hw.2.2.2.2.1.2 _ (List.getElem_mem h2)).2.2.2.2.2 p hp).2.1)) rfl ?_
    conv => whnf
    rw [ids_three]
    refine ⟨fun h3 => ?_, fun h3 => ?_⟩
    · have : goodE r.2.2.2.2.1[i] = false := by
        unfold goodE
        revert h3
        cases (okId r.2.2.2.2.1[i].1 && okId r.2.2.2.2.1[i].2.2.1 && okId r.2.2.2.2.1[i].2.2.2.1) <;> cases nameS r.2.2.2.2.1[i].2.1 <;> cases propsS r.2.2.2.2.1[i].2.2.2.2 <;> simp
      rw [all_no h2 this]
      conv => whnf
      rfl
    have h3 : goodE r.2.2.2.2.1[i] = true := by
      unfold goodE
      revert h3
      cases (okId r.2.2.2.2.1[i].1 && okId r.2.2.2.2.1[i].2.2.1 && okId r.2.2.2.2.1[i].2.2.2.1) <;> cases nameS r.2.2.2.2.1[i].2.1 <;> cases propsS r.2.2.2.2.1[i].2.2.2.2 <;> simp
    conv => whnf
    refine ⟨i + 1, ⟨⟨by omega, by rw [all_step h2, hI, h3]; rfl⟩, by omega⟩, ?_⟩
    (conv => whnf); refine ⟨rfl, ?_, ?_, ?_⟩ <;> (repeat' apply And.intro) <;> first | exact trivial | rfl | exact wr_succ _ (by omega) | assumption | exact decide_eq_false (by assumption) | exact decide_eq_true (by assumption)
  have h2 : r.2.2.2.2.1.length ≤ i := by rw [decide_eq_false_iff_not] at h2; omega
  rw [show r.2.2.2.2.1.all goodE = true by rw [List.take_of_length_le h2] at hI; exact hI]
  clear hI h2 hi
  conv => whnf
  refine call1 (ans_empty (aC r) hw.2.2.2.2.2.2) rfl ?_
  conv => whnf
  refine callg0 (fun _ => cat_Good (aC r) hw.2.2.2.2.2.2.2.2.1.2 hl) rfl ?_
  conv => whnf
  rfl
end Go.Proofs.YtmdjonckcapkeaaDoor.Ans
/- The bytes of a catalog; the walks of cat.Encode and of the reference's. Own work. -/
set_option linter.unusedVariables false
set_option maxRecDepth 100000
namespace Go.Proofs.YtmdjonckcapkeaaDoor
open Go Go.RowKit OE

def flB {α : Type} (f : α → List UInt8) (l : List α) : List UInt8 := (l.map f).flatten
theorem flB_step {α : Type} (f : α → List UInt8) {l : List α} {i : Nat} (h : i < l.length) : flB f (l.take (i + 1)) = flB f (l.take i) ++ f l[i] := by
  unfold flB; rw [take_step h, List.map_append, List.flatten_append]; simp only [List.map_cons, List.map_nil, List.flatten_cons, List.flatten_nil, List.append_nil]
theorem flB_len {α : Type} (f : α → List UInt8) (B : Nat) : ∀ {l : List α}, (∀ x ∈ l, (f x).length ≤ B) → (flB f l).length ≤ B * l.length
  | [], _ => by simp [flB]
  | x :: l, h => by
    have h1 := h x (by simp)
    have h2 := flB_len f B (l := l) (fun y hy => h y (by simp [hy]))
    unfold flB at h2 ⊢
    rw [List.map_cons, List.flatten_cons, List.length_append, List.length_cons, Nat.mul_add]
    omega
abbrev txtB (l : List SD.T) : List UInt8 := flB (α := List UInt8) Num.putT l
def ixB (i : ID.T) : List UInt8 := Num.putT i.1 ++ Num.putT i.2
/-- a good catalog's bytes -/
def catB' (c : CD.T) : List UInt8 := Num.putN c.1.length ++ txtB c.1 ++ (Num.putN c.2.1.length ++ txtB c.2.1) ++ Num.putN c.2.2.1.length ++ flB encS c.2.2.1 ++ Num.putN c.2.2.2.1.length ++ flB ixB c.2.2.2.1 ++ Num.putN (Int.toNat c.2.2.2.2)
def encCS (c : CD.T) : List UInt8 := if goodC c = true then catB' c else []
def errCS (c : CD.T) : Int := if goodC c = true then 0 else 11

theorem encS_len (r : RD.T) : (encS r).length ≤ 144 := by
  unfold encS
  split
  · rename_i h
    obtain ⟨i0, i1, k0, k1, n0, n1, s0, s1, t0, t1, t2, t3⟩ := okR h
    have p1 := putN_b r.1 i1
    have p2 := putN_b r.2.1 (Int.le_trans k1 (by decide))
    have p3 := putN_b r.2.2.2.2.2.2.2 (Int.le_trans s1 (by decide))
    have p4 := putN_b r.2.2.2.2.2.2.1 (Int.le_trans n1 (by decide))
    have q1 := putT_b t0
    have q2 := putT_b t1
    have q3 := putT_b t2
    have q4 := putT_b t3
    unfold bytS
    simp only [List.length_append]
    omega
  · simp
theorem goodL_mem {c : CD.T} : ∀ {l d : List RD.T} {x : Int}, goodL c d x l = true → ∀ r ∈ l, x < r.1 ∧ goodR c r = true
  | [], _, _, _, r, hr => by cases hr
  | a :: l, d, x, h, r, hr => by
    simp only [goodL, Bool.and_eq_true, decide_eq_true_eq] at h
    rcases List.mem_cons.1 hr with rfl | hr
    · exact ⟨h.1, h.2.1⟩
    · have := goodL_mem h.2.2.2 r hr
      exact ⟨Int.lt_trans h.1 this.1, this.2⟩
theorem idxL_mem {c : CD.T} : ∀ {l : List ID.T} {p : Option ID.T}, idxL c p l = true → ∀ x ∈ l, hasT c.1 x.1 = true ∧ nameS x.2 = true
  | [], _, _, x, hx => by cases hx
  | a :: l, p, h, x, hx => by
    simp only [idxL, Bool.and_eq_true, Bool.not_eq_true', Bool.or_eq_false_iff, Bool.not_eq_false'] at h
    rcases List.mem_cons.1 hx with rfl | hx
    · exact h.1.1
    · exact idxL_mem h.2 x hx
theorem tyS_mem {l : List SD.T} (h : tyS l = true) : l.length ≤ 16 ∧ ∀ s ∈ l, nameS s = true := by
  simp only [tyS, Bool.and_eq_true, Bool.not_eq_true', decide_eq_false_iff_not, List.all_eq_true] at h
  exact ⟨by omega, h.2.2⟩
structure GoodC (c : CD.T) : Prop where
  n1 : c.1.length ≤ 16
  n2 : c.2.1.length ≤ 16
  n3 : c.2.2.1.length ≤ 16
  n4 : c.2.2.2.1.length ≤ 16
  t1 : ∀ s ∈ c.1, nameS s = true
  t2 : ∀ s ∈ c.2.1, nameS s = true
  x0 : (1 : Int) ≤ c.2.2.2.2
  x1 : (show Int from c.2.2.2.2) ≤ 1000000
  r : ∀ r ∈ c.2.2.1, (0 : Int) < r.1 ∧ goodR c r = true
  i : ∀ x ∈ c.2.2.2.1, hasT c.1 x.1 = true ∧ nameS x.2 = true
theorem goodC_out {c : CD.T} (h : goodC c = true) : GoodC c := by
  simp only [goodC, rulesS, typesS, idxS, Bool.and_eq_true, decide_eq_true_eq] at h
  obtain ⟨⟨h1, h2⟩, h3, h4, h5, h6, h7, h8, h9⟩ := h
  have a1 := tyS_mem h1
  have a2 := tyS_mem h2
  exact ⟨a1.1, a2.1, h9, h5, a1.2, a2.2, h3, h4, goodL_mem h7, idxL_mem h6⟩
theorem hasT_mem {l : List SD.T} {v : List UInt8} (h : hasT l v = true) : v ∈ l := by
  simp only [hasT, List.any_eq_true, decide_eq_true_eq] at h
  obtain ⟨x, h1, h2⟩ := h
  rw [h2]; exact h1
theorem GoodC.il {c : CD.T} (h : GoodC c) {x : ID.T} (hx : x ∈ c.2.2.2.1) : x.1.length ≤ 16 ∧ x.2.length ≤ 16 :=
  ⟨nameS_len (h.t1 _ (hasT_mem (h.i x hx).1)), nameS_len (h.i x hx).2⟩
theorem txtB_len {l : List SD.T} (h : ∀ s ∈ l, nameS s = true) : (txtB l).length ≤ 26 * l.length := flB_len _ 26 fun s hs => putT_b (nameS_len (h s hs))

theorem gt0 {d : D} (a b : d.T) : gt [a, b] (0 : Int) = a := rfl
theorem gt1 {d : D} (a b : d.T) : gt [a, b] (IntKind.wrap .i64 (0 + 1)) = b := rfl
theorem txtB_step {l : List SD.T} {i : Nat} (h : i < l.length) : txtB (l.take (i + 1)) = txtB (l.take i) ++ Num.putT l[i] := flB_step (α := List UInt8) Num.putT h
theorem cat_Encode (c : CD.T) (hw : Wf CD c) (g3 : c.2.2.1.length ≤ 1000) : FnD Tryd.prog 42 [.agg (cc c)] (· = .tup [(false, [.str (encCS c)]), (false, [.int .i64 (errCS c)])]) := by
  refine fn0 Tryd.func42 rfl rfl rfl ?_
  conv => whnf
  refine call1 (cat_Good c hw.2.2.1.2 g3) rfl ?_
  conv => whnf
  refine ⟨fun h1 => ?_, fun h1 => ?_⟩
  · have h1 := not_t h1
    conv => whnf
    simp [encCS, errCS, h1]
  have h1 := not_f h1
  rw [encCS, errCS, if_pos h1, if_pos h1]
  have hg := goodC_out h1
  conv => whnf
  intro _
  conv => whnf
  refine unroll0 3 ?_
  conv => whnf
  refine tk rfl ?_
  conv => whnf
  intro _
  conv => whnf
  refine ⟨show (0 : Int) ≤ 0 ∧ (0 : Int) < 2 from by decide, ?_⟩
  conv => whnf
  refine ⟨show (0 : Int) ≤ 0 ∧ (0 : Int) < 2 from by decide, ?_⟩
  conv => whnf
  intro _
  conv => whnf
  rw [gt0]
  refine call1 (num_PutI ((c.1).length : Int) (Int.natCast_nonneg _) (by have := hg.n1; omega)) rfl ?_
  conv => whnf
  have pn0 := putN_b ((c.1).length : Int) (by have := hg.n1; omega)
  refine ⟨by exact Nat.le_trans (Nat.add_le_add (Nat.le_refl 0) pn0) (by decide), ?_⟩
  conv => whnf
  intro _
  conv => whnf
  refine loop0 (α := Nat × List UInt8) (fun p => p.1 ≤ (c.1).length ∧ p.2 = [] ++ Num.putN (c.1).length ++ txtB ((c.1).take p.1))
    (fun p => ⟨[(1, .c (.ptr 0 0)), (4, .c (.str p.2)), (22, .c (.row 1)), (23, .c (.int .i64 2)), (24, .c (.int .i64 0)), (34, .c (.dat SD c.1)), (35, .c (.int .i64 (c.1).length)), (36, .c (.int .i64 p.1))], [(0, .cells 49 (cc c)), (1, .row 45 (.list SD) [c.1, c.2.1])], 2⟩) (fun p => (c.1).length - p.1) ⟨(0, [] ++ Num.putN ((c.1).length : Int).toNat), ⟨Nat.zero_le _, (List.append_nil _).symm⟩, ?_⟩ ?_
  · (conv => whnf); refine ⟨rfl, ?_, ?_, ?_⟩ <;> (repeat' apply And.intro) <;> first | exact trivial | rfl | exact wr_succ _ (by omega) | assumption | exact decide_eq_false (by assumption) | exact decide_eq_true (by assumption)
  rintro ⟨i, s0⟩ ⟨hI1, hJ0⟩
  dsimp only at hI1 hJ0 ⊢
  have hsl0 : (s0).length ≤ 450 := by
    have h5 := txtB_len (l := (c.1).take i) fun s hs => hg.t1 s (List.mem_of_mem_take hs)
    have h6 := hg.n1
    rw [List.length_take] at h5
    rw [Int.toNat_natCast] at pn0
    rw [hJ0]; simp only [List.length_append, List.length_nil]; omega
  conv => whnf
  refine ⟨fun h2 => ?_, fun h2 => ?_⟩
  · have h2 : i < (c.1).length := by simp at h2; omega
    have h3 := nameS_len (hg.t1 _ (List.getElem_mem h2))
    have h4 := putT_b h3
    conv => whnf
    try (intro _; conv => whnf)
    refine ⟨by omega, ?_⟩
    rw [gt_nat (d := SD) (c.1) i h2]
    conv => whnf
    refine call1 (num_PutText _ (by omega)) rfl ?_
    conv => whnf
    refine ⟨by omega, ?_⟩
    conv => whnf
    refine ⟨(i + 1, s0 ++ Num.putT (c.1)[i]), ⟨⟨h2, ?_⟩, by dsimp only; omega⟩, ?_⟩
    · dsimp only
      rw [txtB_step h2, hJ0]; simp only [List.append_assoc]
    · (conv => whnf); refine ⟨rfl, ?_, ?_, ?_⟩ <;> (repeat' apply And.intro) <;> first | exact trivial | rfl | exact wr_succ _ (by omega) | assumption | exact decide_eq_false (by assumption) | exact decide_eq_true (by assumption)
  rw [List.take_of_length_le (by simp at h2; omega)] at hJ0
  clear h2
  conv => whnf
  refine tk rfl ?_
  conv => whnf
  intro _
  conv => whnf
  refine ⟨show (0 : Int) ≤ 1 ∧ (1 : Int) < 2 from by decide, ?_⟩
  conv => whnf
  refine ⟨show (0 : Int) ≤ 1 ∧ (1 : Int) < 2 from by decide, ?_⟩
  conv => whnf
  intro _
  conv => whnf
  rw [gt1]
  refine call1 (num_PutI ((c.2.1).length : Int) (Int.natCast_nonneg _) (by have := hg.n2; omega)) rfl ?_
  conv => whnf
  have pn1 := putN_b ((c.2.1).length : Int) (by have := hg.n2; omega)
  refine ⟨by omega, ?_⟩
  conv => whnf
  intro _
  conv => whnf
  refine loop0 (α := Nat × List UInt8) (fun p => p.1 ≤ (c.2.1).length ∧ p.2 = s0 ++ Num.putN (c.2.1).length ++ txtB ((c.2.1).take p.1))
    (fun p => ⟨[(1, .c (.ptr 0 0)), (4, .c (.str p.2)), (22, .c (.row 1)), (23, .c (.int .i64 2)), (24, .c (.int .i64 1)), (34, .c (.dat SD c.2.1)), (35, .c (.int .i64 (c.2.1).length)), (36, .c (.int .i64 p.1))], [(0, .cells 49 (cc c)), (1, .row 45 (.list SD) [c.1, c.2.1])], 2⟩) (fun p => (c.2.1).length - p.1) ⟨(0, s0 ++ Num.putN ((c.2.1).length : Int).toNat), ⟨Nat.zero_le _, (List.append_nil _).symm⟩, ?_⟩ ?_
  · (conv => whnf); refine ⟨rfl, ?_, ?_, ?_⟩ <;> (repeat' apply And.intro) <;> first | exact trivial | rfl | exact wr_succ _ (by omega) | assumption | exact decide_eq_false (by assumption) | exact decide_eq_true (by assumption)
  rintro ⟨i, s1⟩ ⟨hI1, hJ1⟩
  dsimp only at hI1 hJ1 ⊢
  have hsl1 : (s1).length ≤ 900 := by
    have h5 := txtB_len (l := (c.2.1).take i) fun s hs => hg.t2 s (List.mem_of_mem_take hs)
    have h6 := hg.n2
    rw [List.length_take] at h5
    rw [Int.toNat_natCast] at pn1
    rw [hJ1]; simp only [List.length_append]; omega
  conv => whnf
  refine ⟨fun h2 => ?_, fun h2 => ?_⟩
  · have h2 : i < (c.2.1).length := by simp at h2; omega
    have h3 := nameS_len (hg.t2 _ (List.getElem_mem h2))
    have h4 := putT_b h3
    conv => whnf
    try (intro _; conv => whnf)
    refine ⟨by omega, ?_⟩
    rw [gt_nat (d := SD) (c.2.1) i h2]
    conv => whnf
    refine call1 (num_PutText _ (by omega)) rfl ?_
    conv => whnf
    refine ⟨by omega, ?_⟩
    conv => whnf
    refine ⟨(i + 1, s1 ++ Num.putT (c.2.1)[i]), ⟨⟨h2, ?_⟩, by dsimp only; omega⟩, ?_⟩
    · dsimp only
      rw [txtB_step h2, hJ1]; simp only [List.append_assoc]
    · (conv => whnf); refine ⟨rfl, ?_, ?_, ?_⟩ <;> (repeat' apply And.intro) <;> first | exact trivial | rfl | exact wr_succ _ (by omega) | assumption | exact decide_eq_false (by assumption) | exact decide_eq_true (by assumption)
  rw [List.take_of_length_le (by simp at h2; omega)] at hJ1
  clear h2
  conv => whnf
  refine fk rfl ?_
  conv => whnf
  intro _
  conv => whnf
  refine call1 (num_PutI ((c.2.2.1).length : Int) (Int.natCast_nonneg _) (by have := hg.n3; omega)) rfl ?_
  conv => whnf
  have pn2 := putN_b ((c.2.2.1).length : Int) (by have := hg.n3; omega)
  refine ⟨by omega, ?_⟩
  conv => whnf
  intro _
  conv => whnf
  refine loop0 (α := Nat × List UInt8) (fun p => p.1 ≤ (c.2.2.1).length ∧ p.2 = s1 ++ Num.putN (c.2.2.1).length ++ flB encS ((c.2.2.1).take p.1))
    (fun p => ⟨[(1, .c (.ptr 0 0)), (4, .c (.str p.2)), (54, .c (.dat RD c.2.2.1)), (55, .c (.int .i64 (c.2.2.1).length)), (56, .c (.int .i64 p.1))], [(0, .cells 49 (cc c))], 1⟩) (fun p => (c.2.2.1).length - p.1) ⟨(0, s1 ++ Num.putN ((c.2.2.1).length : Int).toNat), ⟨Nat.zero_le _, (List.append_nil _).symm⟩, ?_⟩ ?_
  · (conv => whnf); refine ⟨rfl, ?_, ?_, ?_⟩ <;> (repeat' apply And.intro) <;> first | exact trivial | rfl | exact wr_succ _ (by omega) | assumption | exact decide_eq_false (by assumption) | exact decide_eq_true (by assumption)
  rintro ⟨i2, s2⟩ ⟨hL1, hL2⟩
  dsimp only at hL1 hL2 ⊢
  have hs2 : (s2).length ≤ 4000 := by
    have h5 := flB_len encS 144 (l := (c.2.2.1).take i2) fun s hs => encS_len s
    have h6 := hg.n3
    rw [List.length_take] at h5
    rw [Int.toNat_natCast] at pn2
    rw [hL2]; simp only [List.length_append]; omega
  conv => whnf
  refine ⟨fun h2 => ?_, fun h2 => ?_⟩
  · have h2 : i2 < (c.2.2.1).length := by simp at h2; omega
    have h4 := encS_len c.2.2.1[i2]
    conv => whnf
    try (intro _; conv => whnf)
    refine ⟨by omega, ?_⟩
    rw [gt_nat (d := RD) c.2.2.1 i2 h2]
    conv => whnf
    refine call1 (rule_Encode c.2.2.1[i2]) rfl ?_
    conv => whnf
    refine ⟨by omega, ?_⟩
    conv => whnf
    refine ⟨(i2 + 1, s2 ++ encS (c.2.2.1)[i2]), ⟨⟨h2, ?_⟩, by dsimp only; omega⟩, ?_⟩
    · dsimp only
      rw [flB_step _ h2, hL2]; simp only [List.append_assoc]
    · (conv => whnf); refine ⟨rfl, ?_, ?_, ?_⟩ <;> (repeat' apply And.intro) <;> first | exact trivial | rfl | exact wr_succ _ (by omega) | assumption | exact decide_eq_false (by assumption) | exact decide_eq_true (by assumption)
  rw [List.take_of_length_le (by simp at h2; omega)] at hL2
  clear h2
  conv => whnf
  intro _
  conv => whnf
  refine call1 (num_PutI ((c.2.2.2.1).length : Int) (Int.natCast_nonneg _) (by have := hg.n4; omega)) rfl ?_
  conv => whnf
  have pn3 := putN_b ((c.2.2.2.1).length : Int) (by have := hg.n4; omega)
  refine ⟨by omega, ?_⟩
  conv => whnf
  intro _
  conv => whnf
  refine loop0 (α := Nat × List UInt8) (fun p => p.1 ≤ (c.2.2.2.1).length ∧ p.2 = s2 ++ Num.putN (c.2.2.2.1).length ++ flB ixB ((c.2.2.2.1).take p.1))
    (fun p => ⟨[(1, .c (.ptr 0 0)), (4, .c (.str p.2)), (77, .c (.dat ID c.2.2.2.1)), (78, .c (.int .i64 (c.2.2.2.1).length)), (79, .c (.int .i64 p.1))], [(0, .cells 49 (cc c))], 1⟩) (fun p => (c.2.2.2.1).length - p.1) ⟨(0, s2 ++ Num.putN ((c.2.2.2.1).length : Int).toNat), ⟨Nat.zero_le _, (List.append_nil _).symm⟩, ?_⟩ ?_
  · (conv => whnf); refine ⟨rfl, ?_, ?_, ?_⟩ <;> (repeat' apply And.intro) <;> first | exact trivial | rfl | exact wr_succ _ (by omega) | assumption | exact decide_eq_false (by assumption) | exact decide_eq_true (by assumption)
  rintro ⟨i3, s3⟩ ⟨hM1, hM2⟩
  dsimp only at hM1 hM2 ⊢
  have hs3 : (s3).length ≤ 6000 := by
    have h5 := flB_len ixB 52 (l := (c.2.2.2.1).take i3) fun x hx => by
      have := hg.il (List.mem_of_mem_take hx)
      have q1 := putT_b this.1
      have q2 := putT_b this.2
      unfold ixB; rw [List.length_append]; omega
    have h6 := hg.n4
    rw [List.length_take] at h5
    rw [Int.toNat_natCast] at pn3
    rw [hM2]; simp only [List.length_append]; omega
  conv => whnf
  refine ⟨fun h2 => ?_, fun h2 => ?_⟩
  · have h2 : i3 < (c.2.2.2.1).length := by simp at h2; omega
    have h4 := hg.il (List.getElem_mem h2)
    have q1 := putT_b h4.1
    have q2 := putT_b h4.2
    conv => whnf
    try (intro _; conv => whnf)
    refine ⟨by omega, ?_⟩
    rw [gt_nat (d := ID) c.2.2.2.1 i3 h2]
    conv => whnf
    refine any0 ?_
    conv => whnf
    refine callr0 (num_PutText c.2.2.2.1[i3].1 (by omega)) rfl ?_
    conv => whnf
    refine callr0 (num_PutText c.2.2.2.1[i3].2 (by omega)) rfl ?_
    conv => whnf
    refine ⟨by omega, ?_⟩
    conv => whnf
    refine ⟨by rw [List.length_append]; omega, ?_⟩
    conv => whnf
    refine ⟨.inl (by kernel_rfl), after0 ?_⟩
    conv => whnf
    refine ⟨(i3 + 1, s3 ++ ixB c.2.2.2.1[i3]), ⟨⟨h2, ?_⟩, by dsimp only; omega⟩, ?_⟩
    · dsimp only
      rw [flB_step _ h2, hM2]; simp only [List.append_assoc]
    · (conv => whnf); refine ⟨rfl, ?_, ?_, ?_⟩ <;> (repeat' apply And.intro) <;> first | exact trivial | rfl | exact wr_succ _ (by omega) | assumption | exact decide_eq_false (by assumption) | exact decide_eq_true (by assumption)
  rw [List.take_of_length_le (by simp at h2; omega)] at hM2
  clear h2
  conv => whnf
  refine call1 (num_PutI (show Int from c.2.2.2.2) (Int.le_trans (by decide) hg.x0) hg.x1) rfl ?_
  conv => whnf
  have pn4 := putN_b (show Int from c.2.2.2.2) hg.x1
  refine ⟨by omega, ?_⟩
  conv => whnf
  rw [hM2, hL2, hJ1, hJ0]
  unfold catB'
  simp only [List.append_assoc, List.nil_append]
end Go.Proofs.YtmdjonckcapkeaaDoor
/- The walk of the reference's Decode of rules. Own work; written by gendec2.py. -/
set_option linter.unusedVariables false
set_option maxRecDepth 100000
set_option maxHeartbeats 2000000
namespace Go.Proofs.YtmdjonckcapkeaaDoor
open Go Go.RowKit OE

def decA (o : Option (RD.T × Nat)) : SV := .agg (rc (o.getD (R0, 0)).1 ++ [.int .i64 ((o.getD (R0, 0)).2 : Nat), .bool (.sym o.isSome)])

end Go.Proofs.YtmdjonckcapkeaaDoor
/- The walks of the readers' methods, cat's and the reference's. Own work. -/
set_option linter.unusedVariables false
set_option maxRecDepth 100000
namespace Go.Proofs.YtmdjonckcapkeaaDoor
open Go Go.RowKit OE

/-- a number that is read: it, the place behind it, and whether something was bad -/
def numA (s : List UInt8) (most a : Nat) (bad : Bool) : Nat × Nat × Bool :=
  match bad, Num.getN s a with
  | false, some p => if p.1 ≤ most then (p.1, a + p.2, false) else (0, a, true)
  | _, _ => (0, a, true)
def txA (s : List UInt8) (a : Nat) (bad : Bool) : List UInt8 × Nat × Bool :=
  match bad, Num.getT s a 16 with
  | false, some p => (p.1, a + p.2, false)
  | _, _ => ([], a, true)
theorem numA_bad {s : List UInt8} {most a : Nat} {bad : Bool} (h : (bad || !(Num.getN s a).isSome || decide ((most : Int) < (((Num.getN s a).getD (0, 0)).1 : Nat))) = true) : numA s most a bad = (0, a, true) := by
  unfold numA
  cases bad with
  | true => rfl
  | false =>
    cases hg : Num.getN s a with
    | none => rfl
    | some p =>
      rw [hg] at h
      simp at h
      exact if_neg (by omega)
theorem numA_ok {s : List UInt8} {most a : Nat} {bad : Bool} (h : (bad || !(Num.getN s a).isSome || decide ((most : Int) < (((Num.getN s a).getD (0, 0)).1 : Nat))) = false) : bad = false ∧ ∃ n k, Num.getN s a = some (n, k) ∧ n ≤ most ∧ numA s most a bad = (n, a + k, false) := by
  cases bad with
  | true => simp at h
  | false =>
    cases hg : Num.getN s a with
    | none => rw [hg] at h; simp at h
    | some p =>
      rw [hg] at h
      simp at h
      exact ⟨rfl, p.1, p.2, rfl, by omega, by unfold numA; rw [hg]; exact if_pos (by omega)⟩
theorem txA_bad {s : List UInt8} {a : Nat} {bad : Bool} (h : (bad || !(Num.getT s a 16).isSome) = true) : txA s a bad = ([], a, true) := by
  unfold txA
  cases bad with
  | true => rfl
  | false =>
    cases hg : Num.getT s a 16 with
    | none => rfl
    | some p => rw [hg] at h; simp at h
theorem txA_ok {s : List UInt8} {a : Nat} {bad : Bool} (h : (bad || !(Num.getT s a 16).isSome) = false) : bad = false ∧ ∃ t k, Num.getT s a 16 = some (t, k) ∧ txA s a bad = (t, a + k, false) := by
  cases bad with
  | true => simp at h
  | false =>
    cases hg : Num.getT s a 16 with
    | none => rw [hg] at h; simp at h
    | some p => exact ⟨rfl, p.1, p.2, rfl, by unfold txA; rw [hg]⟩
abbrev rdC (s : List UInt8) (a : Nat) (bad : Bool) : List C := [.str s, .int .i64 a, .bool (.sym bad)]

end Go.Proofs.YtmdjonckcapkeaaDoor
/- The empty catalog; a result that is a catalog, or one whose lists are nil. Own work. -/
set_option linter.unusedVariables false
set_option maxRecDepth 100000
namespace Go.Proofs.YtmdjonckcapkeaaDoor
open Go Go.RowKit OE

def C0 : CD.T := CD.df
/-- the catalog's cells where all its lists are nil -/
abbrev cn : List C := [.val (.slice none 0 0), .val (.slice none 0 0), .val (.slice none 0 0), .val (.slice none 0 0), .int .i64 0]
def catT (c : CD.T) (rest : List (Bool × List C)) (r : SV) : Prop := r = .tup ((true, cc c) :: rest) ∨ (c = C0 ∧ r = .tup ((true, cn) :: rest))
theorem nilC {w : World} {ok : Nat → Prop} {d : D} {v : Value} (h : RC (DX w ok) (.val (.slice none 0 0)) v) : RC (DX w ok) (.dat d []) v := nilA v h
theorem FnD.cat {P : Program} {f : Nat} {args : List SV} {c : CD.T} {rest : List (Bool × List C)} (h : FnD P f args (catT c rest)) : FnD P f args (· = .tup ((true, cc c) :: rest)) :=
  h.res fun r hr w ok v hv => by
    rcases hr with rfl | ⟨rfl, rfl⟩
    · exact hv
    · obtain ⟨vs, e, hl⟩ := hv
      refine ⟨vs, e, ?_⟩
      generalize vs.toList = m at hl
      cases m with
      | nil => exact hl.elim
      | cons x m =>
        refine ⟨?_, hl.2⟩
        have h1 := hl.1
        unfold RP at h1 ⊢
        simp only [if_true] at h1 ⊢
        obtain ⟨us, e2, hl2⟩ := h1
        refine ⟨us, e2, ?_⟩
        generalize us.toList = n at hl2
        match n, hl2 with
        | [a, b, c, d, e], ⟨h1, h2, h3, h4, h5, _⟩ => exact ⟨nilC h1, nilC h2, nilC h3, nilC h4, h5, trivial⟩
end Go.Proofs.YtmdjonckcapkeaaDoor
/- The catalog of bytes; the walk of cat.Decode. Own work. -/
set_option linter.unusedVariables false
set_option maxRecDepth 100000
namespace Go.Proofs.YtmdjonckcapkeaaDoor
open Go Go.RowKit OE

/-! what is still to be read, as a continuation -/
def numK (s : List UInt8) (most a : Nat) (K : Nat → Nat → Option CD.T) : Option CD.T := match Num.getN s a with | none => none | some p => if p.1 ≤ most then K p.1 (a + p.2) else none
def namK (s : List UInt8) : Nat → Nat → List SD.T → (List SD.T → Nat → Option CD.T) → Option CD.T
  | 0, a, l, K => K l a
  | n + 1, a, l, K => match Num.getT s a 16 with | none => none | some p => namK s n (a + p.2) (l ++ [p.1]) K
def rulK (s : List UInt8) : Nat → Nat → List RD.T → (List RD.T → Nat → Option CD.T) → Option CD.T
  | 0, a, l, K => K l a
  | n + 1, a, l, K => match decS s a with | none => none | some p => rulK s n (a + p.2) (l ++ [p.1]) K
def ixK (s : List UInt8) : Nat → Nat → List ID.T → (List ID.T → Nat → Option CD.T) → Option CD.T
  | 0, a, l, K => K l a
  | n + 1, a, l, K => match Num.getT s a 16 with
    | none => none
    | some p => match Num.getT s (a + p.2 : Nat) 16 with
      | none => none
      | some q => ixK s n (a + p.2 + q.2) (l ++ [(p.1, q.1)]) K
def finK (s : List UInt8) (l1 l2 : List SD.T) (rs : List RD.T) (is : List ID.T) (nx a : Nat) : Option CD.T :=
  if a = s.length ∧ goodC (l1, l2, rs, is, ((nx : Nat) : Int)) = true then some (l1, l2, rs, is, ((nx : Nat) : Int)) else none
def k9 (s l1 l2 rs is) (a : Nat) := numK s 1000000 a fun nx a => finK s l1 l2 rs is nx a
def k8 (s l1 l2 rs) (n a : Nat) (l : List ID.T) := ixK s n a l fun is a => k9 s l1 l2 rs is a
def k7 (s l1 l2 rs) (a : Nat) := numK s 16 a fun n a => k8 s l1 l2 rs n a []
def k6 (s l1 l2) (n a : Nat) (l : List RD.T) := rulK s n a l fun rs a => k7 s l1 l2 rs a
def k5 (s l1 l2) (a : Nat) := numK s 16 a fun n a => k6 s l1 l2 n a []
def k4 (s l1) (n a : Nat) (l : List SD.T) := namK s n a l fun l2 a => k5 s l1 l2 a
def k3 (s l1) (a : Nat) := numK s 16 a fun n a => k4 s l1 n a []
def k2 (s) (n a : Nat) (l : List SD.T) := namK s n a l fun l1 a => k3 s l1 a
def decO (s : List UInt8) : Option CD.T := numK s 16 0 fun n a => k2 s n a []
def decCS (s : List UInt8) : CD.T := (decO s).getD C0
def decCE (s : List UInt8) : Int := if (decO s).isSome then 0 else 11

/-- what is known while it is read -/
structure Inv (D X : Option CD.T) (len a : Nat) (bad : Bool) : Prop where
  le : a ≤ len
  ok : bad = false → X = D
  no : bad = true → D = none
theorem numA_le (s : List UInt8) (most a : Nat) (bad : Bool) : (numA s most a bad).1 ≤ most := by
  unfold numA
  split
  · split
    · assumption
    · exact Nat.zero_le _
  · exact Nat.zero_le _
theorem num_inv {s : List UInt8} {D : Option CD.T} {most a : Nat} {bad : Bool} {K : Nat → Nat → Option CD.T} (h : Inv D (numK s most a K) s.length a bad) :
    Inv D (K (numA s most a bad).1 (numA s most a bad).2.1) s.length (numA s most a bad).2.1 (numA s most a bad).2.2 := by
  obtain ⟨h1, h2, h3⟩ := h
  unfold numA
  cases bad with
  | true => exact ⟨h1, fun e => (by cases e), h3⟩
  | false =>
    have h2 := h2 rfl
    unfold numK at h2
    cases hg : Num.getN s a with
    | none => rw [hg] at h2; exact ⟨h1, fun e => (by cases e), fun _ => h2.symm⟩
    | some p =>
      rw [hg] at h2
      dsimp only at h2 ⊢
      have hb := Num.getN_bd (m := p.1) (k := p.2) hg
      split at h2
      · rename_i hle
        rw [if_pos hle]
        exact ⟨by dsimp only; omega, fun _ => h2, fun e => (by cases e)⟩
      · rename_i hle
        rw [if_neg hle]
        exact ⟨h1, fun e => (by cases e), fun _ => h2.symm⟩
theorem nam_inv {s : List UInt8} {D : Option CD.T} {n a : Nat} {bad : Bool} {l : List SD.T} {K : List SD.T → Nat → Option CD.T} (h : Inv D (namK s (n + 1) a l K) s.length a bad) :
    Inv D (namK s n (txA s a bad).2.1 (l ++ [(txA s a bad).1]) K) s.length (txA s a bad).2.1 (txA s a bad).2.2 := by
  obtain ⟨h1, h2, h3⟩ := h
  unfold txA
  cases bad with
  | true => exact ⟨h1, fun e => (by cases e), h3⟩
  | false =>
    have h2 := h2 rfl
    unfold namK at h2
    cases hg : Num.getT s a 16 with
    | none => rw [hg] at h2; exact ⟨h1, fun e => (by cases e), fun _ => h2.symm⟩
    | some p =>
      rw [hg] at h2
      have hb := gt_bd (t := p.1) (i := p.2) hg
      exact ⟨by dsimp only; omega, fun _ => h2, fun e => (by cases e)⟩
theorem wr_nn (a k : Nat) (h : a + k ≤ 100000000) : IntKind.wrap .i64 ((a : Int) + (k : Int)) = ((a + k : Nat) : Int) := by
  rw [wr64 _ (by omega) (by omega)]; omega
theorem txA_le {s : List UInt8} (n a : Nat) (bad : Bool) (h : a ≤ n) (hn : n = s.length := by rfl) : (txA s a bad).2.1 ≤ n := by
  unfold txA
  split
  · rename_i p hg
    have hb := gt_bd (t := p.1) (i := p.2) hg
    dsimp only; omega
  · exact h
theorem decS_bd {s : List UInt8} {a : Nat} {r : RD.T} {n : Nat} (h : decS s a = some (r, n)) : a + n ≤ s.length := by
  unfold decS at h
  split at h
  · cases h
  rename_i p hp
  split at h
  · cases h
    unfold decP at hp
    split at hp
    · cases hp
    split at hp
    · cases hp
    split at hp
    · cases hp
    split at hp
    · cases hp
    split at hp
    · cases hp
    split at hp
    · cases hp
    split at hp
    · cases hp
    split at hp
    · cases hp
    rename_i h8
    cases hp
    have := gt_bd h8
    omega
  · cases h
theorem lit_ok (n : Int) (h0 : 0 ≤ n) (h1 : n ≤ 1000000) : (Lit.int .i64 n).wf = true := by
  have h2 : -9223372036854775808 ≤ n := by omega
  have h3 : n ≤ 9223372036854775807 := by omega
  simpa [Lit.wf, IntKind.min, IntKind.max, IntKind.bits, IntKind.signed] using ⟨h2, h3⟩
theorem decS_wf (s : List UInt8) (a : Nat) : Wf RD ((decS s a).getD (R0, 0)).1 := by
  cases h : decS s a with
  | none => exact ⟨by decide, by decide, by decide, by decide, by decide, by decide, by decide, by decide⟩
  | some p =>
    have hok : okS p.1 = true := by
      unfold decS at h
      split at h
      · cases h
      · split at h
        · rename_i h1; cases h; exact h1
        · cases h
    obtain ⟨i0, i1, k0, k1, n0, n1, s0, s1, t0, t1, t2, t3⟩ := okR hok
    exact ⟨lit_ok _ i0 i1, lit_ok _ (Int.le_trans (by decide) k0) (Int.le_trans k1 (by decide)), Nat.le_trans t0 (by decide), Nat.le_trans t1 (by decide), Nat.le_trans t2 (by decide), Nat.le_trans t3 (by decide), lit_ok _ n0 (Int.le_trans n1 (by decide)), lit_ok _ s0 (Int.le_trans s1 (by decide))⟩
theorem rul_inv {s : List UInt8} {D : Option CD.T} {n a : Nat} {bad : Bool} {l : List RD.T} {K : List RD.T → Nat → Option CD.T} (h : Inv D (rulK s (n + 1) a l K) s.length a bad) :
    Inv D (rulK s n (a + ((decS s a).getD (R0, 0)).2) (l ++ [((decS s a).getD (R0, 0)).1]) K) s.length (a + ((decS s a).getD (R0, 0)).2) (bad || !(decS s a).isSome) := by
  obtain ⟨h1, h2, h3⟩ := h
  unfold rulK at h2
  cases hg : decS s a with
  | none =>
    rw [hg] at h2
    refine ⟨h1, fun e => by simp at e, fun _ => ?_⟩
    cases bad with
    | true => exact h3 rfl
    | false => exact (h2 rfl).symm
  | some p =>
    rw [hg] at h2
    have hb := decS_bd (r := p.1) (n := p.2) hg
    refine ⟨hb, fun e => ?_, fun e => ?_⟩
    · cases bad with
      | true => simp at e
      | false => exact h2 rfl
    · cases bad with
      | true => exact h3 rfl
      | false => simp at e
theorem ix_inv {s : List UInt8} {D : Option CD.T} {n a : Nat} {bad : Bool} {l : List ID.T} {K : List ID.T → Nat → Option CD.T} (h : Inv D (ixK s (n + 1) a l K) s.length a bad) :
    Inv D (ixK s n (txA s (txA s a bad).2.1 (txA s a bad).2.2).2.1 (l ++ [((txA s a bad).1, (txA s (txA s a bad).2.1 (txA s a bad).2.2).1)]) K) s.length (txA s (txA s a bad).2.1 (txA s a bad).2.2).2.1 (txA s (txA s a bad).2.1 (txA s a bad).2.2).2.2 := by
  obtain ⟨h1, h2, h3⟩ := h
  have hbad : ∀ a, txA s a true = ([], a, true) := fun a => rfl
  cases bad with
  | true => rw [hbad, hbad]; exact ⟨h1, fun e => (by cases e), h3⟩
  | false =>
    have h2 := h2 rfl
    unfold ixK at h2
    cases hg : Num.getT s a 16 with
    | none =>
      rw [hg] at h2
      rw [show txA s a false = ([], a, true) by unfold txA; rw [hg], hbad]
      exact ⟨h1, fun e => (by cases e), fun _ => h2.symm⟩
    | some p =>
      rw [hg] at h2
      dsimp only at h2
      have hb := gt_bd (t := p.1) (i := p.2) hg
      rw [show txA s a false = (p.1, a + p.2, false) by unfold txA; rw [hg]]
      dsimp only
      cases hg2 : Num.getT s (a + p.2 : Nat) 16 with
      | none =>
        rw [hg2] at h2
        rw [show txA s (a + p.2) false = ([], a + p.2, true) by unfold txA; rw [hg2]]
        exact ⟨by dsimp only; omega, fun e => (by cases e), fun _ => h2.symm⟩
      | some q =>
        rw [hg2] at h2
        dsimp only at h2
        have hb2 := gt_bd (t := q.1) (i := q.2) hg2
        rw [show txA s (a + p.2) false = (q.1, a + p.2 + q.2, false) by unfold txA; rw [hg2]]
        exact ⟨by dsimp only; omega, fun _ => h2, fun e => (by cases e)⟩

end Go.Proofs.YtmdjonckcapkeaaDoor
/- A catalog's bytes: what was encoded is decoded as it was, what was decoded is encoded as it stood; no program in sight. Own work. -/
set_option linter.unusedVariables false
set_option maxRecDepth 100000
namespace Go.Proofs.YtmdjonckcapkeaaDoor
open Go Go.RowKit OE

theorem back1g (p q : List UInt8) (r : RD.T) (h : okS r = true) : decS (p ++ encS r ++ q) p.length = some (r, (encS r).length) := by
  obtain ⟨i0, i1, k0, k1, n0, n1, s0, s1, t0, t1, t2, t3⟩ := okR h
  have k1 : r.2.1 ≤ 1000000 := Int.le_trans k1 (by decide)
  have n1 : r.2.2.2.2.2.2.1 ≤ 1000000 := Int.le_trans n1 (by decide)
  have s1 : r.2.2.2.2.2.2.2 ≤ 1000000 := Int.le_trans s1 (by decide)
  have k0 : 0 ≤ r.2.1 := Int.le_trans (by decide) k0
  have e : encS r = bytS r := by unfold encS; rw [if_pos h]
  rw [e]
  have hd : decP (p ++ bytS r ++ q) p.length = some (r, (bytS r).length) := by
    obtain ⟨x1, x2, x3, x4, x5, x6, x7, x8⟩ := r
    dsimp only at *
    unfold bytS
    dsimp only
    have y1 := Int.toNat_of_nonneg i0
    have y2 := Int.toNat_of_nonneg k0
    have y7 := Int.toNat_of_nonneg n0
    have y8 := Int.toNat_of_nonneg s0
    generalize hS : (p ++ (Num.putN x1.toNat ++ Num.putN x2.toNat ++ Num.putN x8.toNat ++ Num.putN x7.toNat ++ Num.putT x3 ++ Num.putT x4 ++ Num.putT x5 ++ Num.putT x6) ++ q : List UInt8) = S
    have g1 := gnS_at (s := S) (k := (p.length : Int)) p x1.toNat (Num.putN x2.toNat ++ Num.putN x8.toNat ++ Num.putN x7.toNat ++ Num.putT x3 ++ Num.putT x4 ++ Num.putT x5 ++ Num.putT x6 ++ q) (toNat_le _ i1) (by rw [← hS]; simp only [List.append_assoc]) rfl
    have g2 := gnS_at (s := S) (k := (p.length : Int) + ((Num.putN x1.toNat).length : Int)) (p ++ Num.putN x1.toNat) x2.toNat (Num.putN x8.toNat ++ Num.putN x7.toNat ++ Num.putT x3 ++ Num.putT x4 ++ Num.putT x5 ++ Num.putT x6 ++ q) (toNat_le _ k1) (by rw [← hS]; simp only [List.append_assoc]) (by simp only [List.length_append]; omega)
    have g3 := gnS_at (s := S) (k := (p.length : Int) + ((Num.putN x1.toNat).length : Int) + ((Num.putN x2.toNat).length : Int)) (p ++ Num.putN x1.toNat ++ Num.putN x2.toNat) x8.toNat (Num.putN x7.toNat ++ Num.putT x3 ++ Num.putT x4 ++ Num.putT x5 ++ Num.putT x6 ++ q) (toNat_le _ s1) (by rw [← hS]; simp only [List.append_assoc]) (by simp only [List.length_append]; omega)
    have g4 := gnS_at (s := S) (k := (p.length : Int) + ((Num.putN x1.toNat).length : Int) + ((Num.putN x2.toNat).length : Int) + ((Num.putN x8.toNat).length : Int)) (p ++ Num.putN x1.toNat ++ Num.putN x2.toNat ++ Num.putN x8.toNat) x7.toNat (Num.putT x3 ++ Num.putT x4 ++ Num.putT x5 ++ Num.putT x6 ++ q) (toNat_le _ n1) (by rw [← hS]; simp only [List.append_assoc]) (by simp only [List.length_append]; omega)
    have g5 := gtS_at (s := S) (k := (p.length : Int) + ((Num.putN x1.toNat).length : Int) + ((Num.putN x2.toNat).length : Int) + ((Num.putN x8.toNat).length : Int) + ((Num.putN x7.toNat).length : Int)) (p ++ Num.putN x1.toNat ++ Num.putN x2.toNat ++ Num.putN x8.toNat ++ Num.putN x7.toNat) x3 (Num.putT x4 ++ Num.putT x5 ++ Num.putT x6 ++ q) t0 (by rw [← hS]; simp only [List.append_assoc]) (by simp only [List.length_append]; omega)
    have g6 := gtS_at (s := S) (k := (p.length : Int) + ((Num.putN x1.toNat).length : Int) + ((Num.putN x2.toNat).length : Int) + ((Num.putN x8.toNat).length : Int) + ((Num.putN x7.toNat).length : Int) + ((Num.putT x3).length : Int)) (p ++ Num.putN x1.toNat ++ Num.putN x2.toNat ++ Num.putN x8.toNat ++ Num.putN x7.toNat ++ Num.putT x3) x4 (Num.putT x5 ++ Num.putT x6 ++ q) t1 (by rw [← hS]; simp only [List.append_assoc]) (by simp only [List.length_append]; omega)
    have g7 := gtS_at (s := S) (k := (p.length : Int) + ((Num.putN x1.toNat).length : Int) + ((Num.putN x2.toNat).length : Int) + ((Num.putN x8.toNat).length : Int) + ((Num.putN x7.toNat).length : Int) + ((Num.putT x3).length : Int) + ((Num.putT x4).length : Int)) (p ++ Num.putN x1.toNat ++ Num.putN x2.toNat ++ Num.putN x8.toNat ++ Num.putN x7.toNat ++ Num.putT x3 ++ Num.putT x4) x5 (Num.putT x6 ++ q) t2 (by rw [← hS]; simp only [List.append_assoc]) (by simp only [List.length_append]; omega)
    have g8 := gtS_at (s := S) (k := (p.length : Int) + ((Num.putN x1.toNat).length : Int) + ((Num.putN x2.toNat).length : Int) + ((Num.putN x8.toNat).length : Int) + ((Num.putN x7.toNat).length : Int) + ((Num.putT x3).length : Int) + ((Num.putT x4).length : Int) + ((Num.putT x5).length : Int)) (p ++ Num.putN x1.toNat ++ Num.putN x2.toNat ++ Num.putN x8.toNat ++ Num.putN x7.toNat ++ Num.putT x3 ++ Num.putT x4 ++ Num.putT x5) x6 q t3 (by rw [← hS]; simp only [List.append_assoc]) (by simp only [List.length_append]; omega)
    simp only [decP, g1, g2, g3, g4, g5, g6, g7, g8, List.length_append]
    rw [y1, y2, y7, y8]
  simp only [decS, hd, h, if_true]

/-! there: what was encoded is decoded -/
theorem numK_at {s : List UInt8} {most a n : Nat} {K : Nat → Nat → Option CD.T} (p r : List UInt8) (hs : s = p ++ Num.putN n ++ r) (ha : a = p.length) (hn : n ≤ most) (hb : n ≤ 1000000) : numK s most a K = K n (p ++ Num.putN n).length := by
  unfold numK
  rw [hs, ha, Num.getN_put n p r (by omega)]
  dsimp only
  rw [if_pos hn, List.length_append]
theorem namK_at {s : List UInt8} {K : List SD.T → Nat → Option CD.T} : ∀ {l : List SD.T} {acc : List SD.T} {a : Nat} (p r : List UInt8), s = p ++ txtB l ++ r → a = p.length → (∀ t ∈ l, nameS t = true) → namK s l.length a acc K = K (acc ++ l) (p ++ txtB l).length
  | [], acc, a, p, r, hs, ha, ht => by
    show K acc a = _
    rw [List.append_nil, ha, show txtB [] = [] from rfl, List.append_nil]
  | t :: l, acc, a, p, r, hs, ha, ht => by
    have e : txtB (t :: l) = Num.putT t ++ txtB l := rfl
    rw [e] at hs ⊢
    have hg := gtS_at (s := s) (k := (a : Int)) p t (txtB l ++ r) (nameS_len (ht t (by simp))) (by rw [hs]; simp only [List.append_assoc]) (by rw [ha])
    show namK s (l.length + 1) a acc K = _
    unfold namK
    rw [hg]
    dsimp only
    rw [namK_at (l := l) (p ++ Num.putT t) r (by rw [hs]; simp only [List.append_assoc]) (by rw [ha, List.length_append]) (fun x hx => ht x (by simp [hx]))]
    simp only [List.append_assoc, List.singleton_append]
theorem rulK_at {s : List UInt8} {K : List RD.T → Nat → Option CD.T} : ∀ {l : List RD.T} {acc : List RD.T} {a : Nat} (p r : List UInt8), s = p ++ flB encS l ++ r → a = p.length → (∀ t ∈ l, okS t = true) → rulK s l.length a acc K = K (acc ++ l) (p ++ flB encS l).length
  | [], acc, a, p, r, hs, ha, ht => by
    show K acc a = _
    rw [List.append_nil, ha, show flB encS [] = [] from rfl, List.append_nil]
  | t :: l, acc, a, p, r, hs, ha, ht => by
    have e : flB encS (t :: l) = encS t ++ flB encS l := rfl
    rw [e] at hs ⊢
    have hg := back1g p (flB encS l ++ r) t (ht t (by simp))
    rw [show p ++ encS t ++ (flB encS l ++ r) = s by rw [hs]; simp only [List.append_assoc], ← ha] at hg
    show rulK s (l.length + 1) a acc K = _
    unfold rulK
    rw [hg]
    dsimp only
    rw [rulK_at (l := l) (p ++ encS t) r (by rw [hs]; simp only [List.append_assoc]) (by rw [ha, List.length_append]) (fun x hx => ht x (by simp [hx]))]
    simp only [List.append_assoc, List.singleton_append]
theorem ixK_at {s : List UInt8} {K : List ID.T → Nat → Option CD.T} : ∀ {l : List ID.T} {acc : List ID.T} {a : Nat} (p r : List UInt8), s = p ++ flB ixB l ++ r → a = p.length → (∀ t ∈ l, t.1.length ≤ 16 ∧ t.2.length ≤ 16) → ixK s l.length a acc K = K (acc ++ l) (p ++ flB ixB l).length
  | [], acc, a, p, r, hs, ha, ht => by
    show K acc a = _
    rw [List.append_nil, ha, show flB ixB [] = [] from rfl, List.append_nil]
  | t :: l, acc, a, p, r, hs, ha, ht => by
    have e : flB ixB (t :: l) = Num.putT t.1 ++ Num.putT t.2 ++ flB ixB l := rfl
    rw [e] at hs ⊢
    have hg := gtS_at (s := s) (k := (a : Int)) p t.1 (Num.putT t.2 ++ flB ixB l ++ r) (ht t (by simp)).1 (by rw [hs]; simp only [List.append_assoc]) (by rw [ha])
    have hg2 := gtS_at (s := s) (k := ((a + (Num.putT t.1).length : Nat) : Int)) (p ++ Num.putT t.1) t.2 (flB ixB l ++ r) (ht t (by simp)).2 (by rw [hs]; simp only [List.append_assoc]) (by rw [ha, List.length_append])
    show ixK s (l.length + 1) a acc K = _
    unfold ixK
    rw [hg]
    dsimp only
    rw [hg2]
    dsimp only
    rw [ixK_at (l := l) (p ++ Num.putT t.1 ++ Num.putT t.2) r (by rw [hs]; simp only [List.append_assoc]) (by rw [ha, List.length_append, List.length_append]) (fun x hx => ht x (by simp [hx]))]
    simp only [List.append_assoc, List.singleton_append]
theorem good_okS {c : CD.T} (h : GoodC c) : ∀ r ∈ c.2.2.1, okS r = true := fun r hr => by
  obtain ⟨h1, h2⟩ := h.r r hr
  simp only [goodR, Bool.and_eq_true, decide_eq_true_eq] at h2
  obtain ⟨g1, g2, g3, g4, g5⟩ := h2
  have hx := h.x1
  simp only [okS, Bool.and_eq_true, decide_eq_true_eq]
  exact ⟨⟨⟨⟨g2, Int.le_of_lt h1⟩, Int.le_trans (Int.le_of_lt g1) hx⟩, Int.le_trans (by decide) g4⟩, g5⟩
theorem dec_enc {c : CD.T} (h : goodC c = true) : decO (encCS c) = some c := by
  have hg := goodC_out h
  have ho := good_okS hg
  rw [show encCS c = catB' c from if_pos h]
  obtain ⟨l1, l2, rs, is, nx⟩ := c
  generalize hs : catB' (l1, l2, rs, is, nx) = s
  have hs : Num.putN l1.length ++ txtB l1 ++ (Num.putN l2.length ++ txtB l2) ++ Num.putN rs.length ++ flB encS rs ++ Num.putN is.length ++ flB ixB is ++ Num.putN (Int.toNat nx) = s := hs
  have b1 : l1.length ≤ 16 := hg.n1
  have b2 : l2.length ≤ 16 := hg.n2
  have b3 : rs.length ≤ 16 := hg.n3
  have b4 : is.length ≤ 16 := hg.n4
  have x0 : (1 : Int) ≤ nx := hg.x0
  have x1 : Int.toNat nx ≤ 1000000 := toNat_le _ hg.x1
  have x2 : ((Int.toNat nx : Nat) : Int) = nx := Int.toNat_of_nonneg (Int.le_trans (by decide) x0)
  generalize Int.toNat nx = m at hs x1 x2
  unfold decO
  rw [numK_at (a := 0) (n := l1.length) [] (txtB l1 ++ (Num.putN l2.length ++ txtB l2) ++ Num.putN rs.length ++ flB encS rs ++ Num.putN is.length ++ flB ixB is ++ Num.putN m) (by rw [← hs]; simp only [List.append_assoc, List.nil_append]) rfl b1 (by omega)]
  unfold k2
  rw [namK_at (l := l1) ([] ++ Num.putN l1.length) (Num.putN l2.length ++ txtB l2 ++ Num.putN rs.length ++ flB encS rs ++ Num.putN is.length ++ flB ixB is ++ Num.putN m) (by rw [← hs]; simp only [List.append_assoc, List.nil_append]) rfl hg.t1]
  unfold k3
  rw [numK_at (n := l2.length) ([] ++ Num.putN l1.length ++ txtB l1) (txtB l2 ++ Num.putN rs.length ++ flB encS rs ++ Num.putN is.length ++ flB ixB is ++ Num.putN m) (by rw [← hs]; simp only [List.append_assoc, List.nil_append]) rfl b2 (by omega)]
  unfold k4
  rw [namK_at (l := l2) ([] ++ Num.putN l1.length ++ txtB l1 ++ Num.putN l2.length) (Num.putN rs.length ++ flB encS rs ++ Num.putN is.length ++ flB ixB is ++ Num.putN m) (by rw [← hs]; simp only [List.append_assoc, List.nil_append]) rfl hg.t2]
  unfold k5
  rw [numK_at (n := rs.length) ([] ++ Num.putN l1.length ++ txtB l1 ++ Num.putN l2.length ++ txtB l2) (flB encS rs ++ Num.putN is.length ++ flB ixB is ++ Num.putN m) (by rw [← hs]; simp only [List.append_assoc, List.nil_append]) rfl b3 (by omega)]
  unfold k6
  rw [rulK_at (l := rs) ([] ++ Num.putN l1.length ++ txtB l1 ++ Num.putN l2.length ++ txtB l2 ++ Num.putN rs.length) (Num.putN is.length ++ flB ixB is ++ Num.putN m) (by rw [← hs]; simp only [List.append_assoc, List.nil_append]) rfl ho]
  unfold k7
  rw [numK_at (n := is.length) ([] ++ Num.putN l1.length ++ txtB l1 ++ Num.putN l2.length ++ txtB l2 ++ Num.putN rs.length ++ flB encS rs) (flB ixB is ++ Num.putN m) (by rw [← hs]; simp only [List.append_assoc, List.nil_append]) rfl b4 (by omega)]
  unfold k8
  rw [ixK_at (l := is) ([] ++ Num.putN l1.length ++ txtB l1 ++ Num.putN l2.length ++ txtB l2 ++ Num.putN rs.length ++ flB encS rs ++ Num.putN is.length) (Num.putN m) (by rw [← hs]; simp only [List.append_assoc, List.nil_append]) rfl (fun x hx => hg.il hx)]
  unfold k9
  rw [numK_at (n := m) ([] ++ Num.putN l1.length ++ txtB l1 ++ Num.putN l2.length ++ txtB l2 ++ Num.putN rs.length ++ flB encS rs ++ Num.putN is.length ++ flB ixB is) [] (by rw [← hs]; simp only [List.append_assoc, List.nil_append, List.append_nil]) rfl x1 x1]
  unfold finK
  simp only [List.nil_append]
  rw [x2, if_pos]
  exact ⟨by rw [← hs]; simp only [List.append_assoc], h⟩

/-! back: what was decoded is encoded -/
theorem getN_sh {s : List UInt8} {a : Nat} (ha : a ≤ s.length) {x y : Int} (hy : 0 ≤ y) (hx : x = a + y) : Num.getN s x = Num.getN (s.drop a) y := by
  unfold Num.getN
  rw [List.length_drop, List.drop_drop, show a + y.toNat = x.toNat by omega]
  by_cases h : x > s.length
  · rw [if_pos (.inr h), if_pos (.inr (by omega))]
  · rw [if_neg (by omega), if_neg (by omega)]
theorem getT_sh {s : List UInt8} {a : Nat} (ha : a ≤ s.length) {x y m : Int} (hy : 0 ≤ y) (hx : x = a + y) : Num.getT s x m = Num.getT (s.drop a) y m := by
  unfold Num.getT
  rw [getN_sh ha hy hx]
  cases Num.getN (s.drop a) y with
  | none => rfl
  | some p =>
    obtain ⟨n, k⟩ := p
    dsimp only
    rw [List.length_drop, List.drop_drop (i := y.toNat), show a + y.toNat = x.toNat by omega]
    by_cases h : m < 0 ∨ (n : Int) > m ∨ x.toNat + k + n > s.length
    · rw [if_pos h, if_pos (by omega)]
    · rw [if_neg h, if_neg (by omega)]
theorem decS_sh {s : List UInt8} {a : Nat} (ha : a ≤ s.length) : decS s a = decS (s.drop a) 0 := by
  have g : ∀ x y : Int, 0 ≤ y → x = a + y → gnS s x = gnS (s.drop a) y := fun x y h1 h2 => by unfold gnS; rw [getN_sh ha h1 h2]
  have t : ∀ x y : Int, 0 ≤ y → x = a + y → Num.getT s x 16 = Num.getT (s.drop a) y 16 := fun x y h1 h2 => getT_sh ha h1 h2
  have e : decP s a = decP (s.drop a) 0 := by
    unfold decP
    rw [g a 0 (by omega) (by omega)]
    cases gnS (s.drop a) (0) with
    | none => rfl
    | some p1 =>
    dsimp only
    rw [g ((a : Int) + p1.2) ((0 : Int) + p1.2) (by omega) (by omega)]
    cases gnS (s.drop a) (0 + p1.2) with
    | none => rfl
    | some p2 =>
    dsimp only
    rw [g ((a : Int) + p1.2 + p2.2) ((0 : Int) + p1.2 + p2.2) (by omega) (by omega)]
    cases gnS (s.drop a) (0 + p1.2 + p2.2) with
    | none => rfl
    | some p3 =>
    dsimp only
    rw [g ((a : Int) + p1.2 + p2.2 + p3.2) ((0 : Int) + p1.2 + p2.2 + p3.2) (by omega) (by omega)]
    cases gnS (s.drop a) (0 + p1.2 + p2.2 + p3.2) with
    | none => rfl
    | some p4 =>
    dsimp only
    rw [t ((a : Int) + p1.2 + p2.2 + p3.2 + p4.2) ((0 : Int) + p1.2 + p2.2 + p3.2 + p4.2) (by omega) (by omega)]
    cases Num.getT (s.drop a) (0 + p1.2 + p2.2 + p3.2 + p4.2) 16 with
    | none => rfl
    | some p5 =>
    dsimp only
    rw [t ((a : Int) + p1.2 + p2.2 + p3.2 + p4.2 + p5.2) ((0 : Int) + p1.2 + p2.2 + p3.2 + p4.2 + p5.2) (by omega) (by omega)]
    cases Num.getT (s.drop a) (0 + p1.2 + p2.2 + p3.2 + p4.2 + p5.2) 16 with
    | none => rfl
    | some p6 =>
    dsimp only
    rw [t ((a : Int) + p1.2 + p2.2 + p3.2 + p4.2 + p5.2 + p6.2) ((0 : Int) + p1.2 + p2.2 + p3.2 + p4.2 + p5.2 + p6.2) (by omega) (by omega)]
    cases Num.getT (s.drop a) (0 + p1.2 + p2.2 + p3.2 + p4.2 + p5.2 + p6.2) 16 with
    | none => rfl
    | some p7 =>
    dsimp only
    rw [t ((a : Int) + p1.2 + p2.2 + p3.2 + p4.2 + p5.2 + p6.2 + p7.2) ((0 : Int) + p1.2 + p2.2 + p3.2 + p4.2 + p5.2 + p6.2 + p7.2) (by omega) (by omega)]
  unfold decS
  rw [e]
theorem numK_back {s : List UInt8} {most a : Nat} {K : Nat → Nat → Option CD.T} {d : CD.T} (h : numK s most a K = some d) : ∃ n k, n ≤ most ∧ K n (a + k) = some d ∧ s.take (a + k) = s.take a ++ Num.putN n := by
  unfold numK at h
  cases hg : Num.getN s a with
  | none => rw [hg] at h; cases h
  | some p =>
    rw [hg] at h
    dsimp only at h
    split at h
    · rename_i hle
      have ht := Num.getN_take (m := p.1) (k := p.2) hg
      exact ⟨p.1, p.2, hle, h, by rw [List.take_add]; exact congrArg (s.take a ++ ·) ht⟩
    · cases h
theorem namK_back {s : List UInt8} {K : List SD.T → Nat → Option CD.T} {d : CD.T} : ∀ {n a : Nat} {acc : List SD.T}, namK s n a acc K = some d → ∃ l a', l.length = n ∧ K (acc ++ l) a' = some d ∧ s.take a' = s.take a ++ txtB l
  | 0, a, acc, h => ⟨[], a, rfl, by rw [List.append_nil]; exact h, by rw [show txtB [] = [] from rfl, List.append_nil]⟩
  | n + 1, a, acc, h => by
    unfold namK at h
    cases hg : Num.getT s a 16 with
    | none => rw [hg] at h; cases h
    | some p =>
      rw [hg] at h
      dsimp only at h
      have ht := (gtS_take (t := p.1) (i := p.2) hg a rfl).1
      obtain ⟨l, a', h1, h2, h3⟩ := namK_back h
      refine ⟨p.1 :: l, a', by rw [List.length_cons, h1], by rw [← h2]; simp only [List.append_assoc, List.singleton_append], ?_⟩
      rw [h3, List.take_add, ht, show txtB (p.1 :: l) = Num.putT p.1 ++ txtB l from rfl]
      simp only [List.append_assoc]
theorem rulK_back {s : List UInt8} {K : List RD.T → Nat → Option CD.T} {d : CD.T} : ∀ {n a : Nat} {acc : List RD.T}, rulK s n a acc K = some d → ∃ l a', l.length = n ∧ K (acc ++ l) a' = some d ∧ s.take a' = s.take a ++ flB encS l
  | 0, a, acc, h => ⟨[], a, rfl, by rw [List.append_nil]; exact h, by rw [show flB encS [] = [] from rfl, List.append_nil]⟩
  | n + 1, a, acc, h => by
    unfold rulK at h
    cases hg : decS s a with
    | none => rw [hg] at h; cases h
    | some p =>
      rw [hg] at h
      dsimp only at h
      have hb := decS_bd (r := p.1) (n := p.2) hg
      rw [decS_sh (by omega)] at hg
      have ht := (back2 (q := p.1) (n := p.2) hg).2.1
      obtain ⟨l, a', h1, h2, h3⟩ := rulK_back h
      refine ⟨p.1 :: l, a', by rw [List.length_cons, h1], by rw [← h2]; simp only [List.append_assoc, List.singleton_append], ?_⟩
      rw [h3, List.take_add, ← ht, show flB encS (p.1 :: l) = encS p.1 ++ flB encS l from rfl]
      simp only [List.append_assoc]
theorem ixK_back {s : List UInt8} {K : List ID.T → Nat → Option CD.T} {d : CD.T} : ∀ {n a : Nat} {acc : List ID.T}, ixK s n a acc K = some d → ∃ l a', l.length = n ∧ K (acc ++ l) a' = some d ∧ s.take a' = s.take a ++ flB ixB l
  | 0, a, acc, h => ⟨[], a, rfl, by rw [List.append_nil]; exact h, by rw [show flB ixB [] = [] from rfl, List.append_nil]⟩
  | n + 1, a, acc, h => by
    unfold ixK at h
    cases hg : Num.getT s a 16 with
    | none => rw [hg] at h; cases h
    | some p =>
      rw [hg] at h
      dsimp only at h
      cases hg2 : Num.getT s (a + p.2 : Nat) 16 with
      | none => rw [hg2] at h; cases h
      | some q =>
        rw [hg2] at h
        dsimp only at h
        have ht := (gtS_take (t := p.1) (i := p.2) hg a rfl).1
        have ht2 := (gtS_take (t := q.1) (i := q.2) hg2 (a + p.2) rfl).1
        obtain ⟨l, a', h1, h2, h3⟩ := ixK_back h
        refine ⟨(p.1, q.1) :: l, a', by rw [List.length_cons, h1], by rw [← h2]; simp only [List.append_assoc, List.singleton_append], ?_⟩
        rw [h3, List.take_add, List.take_add, ht, ht2, show flB ixB ((p.1, q.1) :: l) = Num.putT p.1 ++ Num.putT q.1 ++ flB ixB l from rfl]
        simp only [List.append_assoc]
theorem enc_dec {s : List UInt8} {d : CD.T} (h : decO s = some d) : goodC d = true ∧ catB' d = s := by
  unfold decO at h
  obtain ⟨n1, x1, _, h, e1⟩ := numK_back h
  obtain ⟨l1, y1, f1, h, e2⟩ := namK_back h
  obtain ⟨n2, x2, _, h, e3⟩ := numK_back h
  obtain ⟨l2, y2, f2, h, e4⟩ := namK_back h
  obtain ⟨n3, x3, _, h, e5⟩ := numK_back h
  obtain ⟨rs, y3, f3, h, e6⟩ := rulK_back h
  obtain ⟨n4, x4, _, h, e7⟩ := numK_back h
  obtain ⟨is, y4, f4, h, e8⟩ := ixK_back h
  obtain ⟨nx, x5, _, h, e9⟩ := numK_back h
  unfold finK at h
  split at h
  · rename_i hc
    obtain ⟨hc1, hc2⟩ := hc
    cases h
    refine ⟨hc2, ?_⟩
    rw [hc1, List.take_length] at e9
    rw [e9, e8, e7, e6, e5, e4, e3, e2, e1, ← f1, ← f2, ← f3, ← f4]
    unfold catB'
    simp only [List.nil_append, List.append_assoc, Int.toNat_natCast, List.take_zero]
  · cases h
theorem good_wf {c : CD.T} (h : goodC c = true) : Wf CD c := by
  have hg := goodC_out h
  have nm : ∀ {l : List SD.T}, l.length ≤ 16 → (∀ s ∈ l, nameS s = true) → Wf (.list SD) l := fun h1 h2 => ⟨Nat.le_trans h1 (by decide), fun s hs => Nat.le_trans (nameS_len (h2 s hs)) (by decide)⟩
  refine ⟨nm hg.n1 hg.t1, nm hg.n2 hg.t2, ⟨Nat.le_trans hg.n3 (by decide), fun r hr => ?_⟩, ⟨Nat.le_trans hg.n4 (by decide), fun x hx => ⟨Nat.le_trans (hg.il hx).1 (by decide), Nat.le_trans (hg.il hx).2 (by decide)⟩⟩, lit_ok _ (Int.le_trans (by decide) hg.x0) hg.x1⟩
  obtain ⟨i0, i1, k0, k1, n0, n1, s0, s1, t0, t1, t2, t3⟩ := okR (good_okS hg r hr)
  exact ⟨lit_ok _ i0 i1, lit_ok _ (Int.le_trans (by decide) k0) (Int.le_trans k1 (by decide)), Nat.le_trans t0 (by decide), Nat.le_trans t1 (by decide), Nat.le_trans t2 (by decide), Nat.le_trans t3 (by decide), lit_ok _ n0 (Int.le_trans n1 (by decide)), lit_ok _ s0 (Int.le_trans s1 (by decide))⟩
end Go.Proofs.YtmdjonckcapkeaaDoor
/- What a reply's bytes are, and what bytes are read as; no program in sight. Own work. -/
set_option linter.unusedVariables false
set_option maxRecDepth 100000
namespace Go.Proofs.YtmdjonckcapkeaaDoor.Ans
open Go Go.RowKit OE

def encN (n : ND.T) : List UInt8 := Num.putN (u64 n.1) ++ Num.putT n.2.1 ++ encPs n.2.2
def encE (e : ED.T) : List UInt8 := Num.putN (u64 e.1) ++ Num.putT e.2.1 ++ Num.putN (u64 e.2.2.1) ++ Num.putN (u64 e.2.2.2.1) ++ encPs e.2.2.2.2
def encI (n : LD.T) : List UInt8 := Num.putN (u64 n)
def enc4 (r : AD.T) : List UInt8 := Num.putN (u64 r.1) ++ Num.putN (u64 r.2.1) ++ Num.putN (u64 r.2.2.1) ++ Num.putN (u64 r.2.2.2.1.length)
def enc5 (r : AD.T) : List UInt8 := enc4 r ++ flB encN r.2.2.2.1 ++ Num.putN (u64 r.2.2.2.2.1.length)
def enc6 (r : AD.T) : List UInt8 := enc5 r ++ flB encE r.2.2.2.2.1 ++ Num.putN (u64 r.2.2.2.2.2.1.length)
def encA (r : AD.T) : List UInt8 := enc6 r ++ flB (α := Int) encI r.2.2.2.2.2.1 ++ Num.putT (encCS (aC r))
def encAS (r : AD.T) : List UInt8 := if goodA r = true then encA r else []
def errA (r : AD.T) : Int := if goodA r = true then 0 else 11

def lstR {α : Type} (one : Int × Bool → α × Int × Bool) : Nat → List α → Int × Bool → List α × Int × Bool
  | 0, acc, q => (acc, q)
  | n + 1, acc, q => if q.2 = true then (acc, q) else lstR one n (acc ++ [(one q).1]) (one q).2
def listR {α : Type} (s : List UInt8) (one : Int × Bool → α × Int × Bool) (q : Int × Bool) : List α × Int × Bool := lstR one (rdN s 1024 q).1.toNat [] (rdN s 1024 q).2
def catOf (t : List UInt8) : CD.T × Bool := if t = [] then (C0, false) else (decCS t, !decide (decCE t = 0))
def qC (s : List UInt8) := rdN s 1000 (0, false)
def qI (s : List UInt8) := rdN s mxI (qC s).2
def qR (s : List UInt8) := rdN s 1000000 (qI s).2
def qN (s : List UInt8) := listA s (oneN s) (qR s).2
def qE (s : List UInt8) := listA s (oneE s) (qN s).2
def qD (s : List UInt8) := listA s (oneI s) (qE s).2
def qT (s : List UInt8) := rdT s s.length (qD s).2
def rawA (s : List UInt8) : AD.T := ((qC s).1, (qI s).1, (qR s).1, (qN s).1, (qE s).1, (qD s).1, (catOf (qT s).1).1)
def badA (s : List UInt8) : Bool := (qT s).2.2 || (catOf (qT s).1).2
def okA (s : List UInt8) : Bool := !badA s && (decide ((qT s).2.1 = s.length) && goodA (rawA s))
def A0 : AD.T := AD.df
def repA (s : List UInt8) : AD.T := if okA s = true then rawA s else A0
def repE (s : List UInt8) : Int := if okA s = true then 0 else 11
def pN (s : List UInt8) := listR s (oneN s) (qR s).2
def pE (s : List UInt8) := listR s (oneE s) (pN s).2
def pD (s : List UInt8) := listR s (oneI s) (pE s).2
def pT (s : List UInt8) := rdT s 1073741824 (pD s).2
def rawR (s : List UInt8) : AD.T := ((qC s).1, (qI s).1, (qR s).1, (pN s).1, (pE s).1, (pD s).1, (catOf (pT s).1).1)
def badR (s : List UInt8) : Bool := (pT s).2.2 || (catOf (pT s).1).2
def okR' (s : List UInt8) : Bool := !badR s && (decide ((pT s).2.1 = s.length) && goodA (rawR s))

theorem listA_in {α : Type} {s : List UInt8} {one : Int × Bool → α × Int × Bool} (h1 : ∀ q, inS s q → inS s (one q).2) : ∀ {n : Nat} {acc : List α} {q : Int × Bool}, inS s q → inS s (lstA one n acc q).2
  | 0, acc, q, h => h
  | n + 1, acc, q, h => by
    unfold lstA
    split
    · exact h
    · exact listA_in h1 (h1 q h)
theorem listR_in {α : Type} {s : List UInt8} {one : Int × Bool → α × Int × Bool} (h1 : ∀ q, inS s q → inS s (one q).2) : ∀ {n : Nat} {acc : List α} {q : Int × Bool}, inS s q → inS s (lstR one n acc q).2
  | 0, acc, q, h => h
  | n + 1, acc, q, h => by
    unfold lstR
    split
    · exact h
    · exact listR_in h1 (h1 q h)
theorem in0 (s : List UInt8) : inS s (0, false) := ⟨by decide, by dsimp only; omega⟩
theorem inC (s : List UInt8) : inS s (qC s).2 := rdN_in (in0 s)
theorem inI (s : List UInt8) : inS s (qI s).2 := rdN_in (inC s)
theorem inR (s : List UInt8) : inS s (qR s).2 := rdN_in (inI s)
theorem inN (s : List UInt8) : inS s (qN s).2 := listA_in (fun _ h => oneN_in h) (rdN_in (inR s))
theorem inE (s : List UInt8) : inS s (qE s).2 := listA_in (fun _ h => oneE_in h) (rdN_in (inN s))
theorem inD (s : List UInt8) : inS s (qD s).2 := listA_in (fun _ h => oneI_in h) (rdN_in (inE s))
theorem inT (s : List UInt8) : inS s (qT s).2 := rdT_in (inD s)
theorem inN' (s : List UInt8) : inS s (pN s).2 := listR_in (fun _ h => oneN_in h) (rdN_in (inR s))
theorem inE' (s : List UInt8) : inS s (pE s).2 := listR_in (fun _ h => oneE_in h) (rdN_in (inN' s))
theorem inD' (s : List UInt8) : inS s (pD s).2 := listR_in (fun _ h => oneI_in h) (rdN_in (inE' s))

/-! every result is one that memory holds -/
theorem rdN_wf (s : List UInt8) (q : Int × Bool) {most : Int} (h0 : 0 ≤ most) (hm : most ≤ 4611686018427387903) : (Lit.int .i64 (rdN s most q).1).wf = true := by
  have := rdN_val s q h0 hm
  exact i64_ok (by omega) (by omega)
theorem rdT_wf (s : List UInt8) (most : Int) (q : Int × Bool) (h0 : 0 ≤ most) (hm : most ≤ 1073741824) : (rdT s most q).1.length ≤ 140737488351232 := by
  unfold rdT
  split
  · show ([] : List UInt8).length ≤ _
    simp
  · rename_i hc
    have hs := not_false' fun h => hc (.inr h)
    unfold tS
    cases hg : Num.getT s q.1 most with
    | none => rw [hg] at hs; cases hs
    | some p =>
      have hl : ((p.1).length : Int) ≤ most := by
        unfold Num.getT at hg
        cases g : Num.getN s q.1 with
        | none => rw [g] at hg; cases hg
        | some p' =>
          rw [g] at hg
          dsimp only at hg
          split at hg
          · cases hg
          · rename_i hc
            simp only [Option.some.injEq] at hg
            rw [← hg]
            have : ((List.take p'.1 (List.drop p'.2 (List.drop q.1.toNat s))).length) ≤ p'.1 := by rw [List.length_take]; omega
            dsimp only
            omega
      show p.1.length ≤ _
      omega
theorem rdP_wf (s : List UInt8) (q : Int × Bool) : Wf (.list PD) (rdP s q).1 := by
  unfold rdP
  split
  · exact ⟨by show (0 : Nat) ≤ _; omega, fun p hp => by cases hp⟩
  · rename_i hc
    have hs := not_false' fun h => hc (.inr h)
    unfold pS
    cases hg : decPs s q.1 with
    | none => rw [hg] at hs; cases hs
    | some p => exact decPs_wf (l := p.1) (m := p.2) hg
theorem oneN_wf (s : List UInt8) (q : Int × Bool) : Wf ND (oneN s q).1 := ⟨rdN_wf s _ (by decide) (by decide), rdT_wf s 16 _ (by decide) (by decide), rdP_wf s _⟩
theorem oneE_wf (s : List UInt8) (q : Int × Bool) : Wf ED (oneE s q).1 := ⟨rdN_wf s _ (by decide) (by decide), rdT_wf s 16 _ (by decide) (by decide), rdN_wf s _ (by decide) (by decide), rdN_wf s _ (by decide) (by decide), rdP_wf s _⟩
theorem oneI_wf (s : List UInt8) (q : Int × Bool) : Wf LD (oneI s q).1 := rdN_wf s _ (by decide) (by decide)
theorem lstA_wf {α : Type} {W : α → Prop} {one : Int × Bool → α × Int × Bool} (h1 : ∀ q, W (one q).1) : ∀ {n : Nat} {acc : List α} {q : Int × Bool}, (∀ x ∈ acc, W x) → (lstA one n acc q).1.length ≤ acc.length + n ∧ ∀ x ∈ (lstA one n acc q).1, W x
  | 0, acc, q, h => ⟨Nat.le_refl _, h⟩
  | n + 1, acc, q, h => by
    unfold lstA
    split
    · exact ⟨Nat.zero_le _, fun x hx => by cases hx⟩
    · have := lstA_wf (W := W) h1 (n := n) (acc := acc ++ [(one q).1]) (q := (one q).2) (fun x hx => by
        rcases List.mem_append.1 hx with h' | h'
        · exact h x h'
        · rw [List.mem_singleton.1 h']; exact h1 q)
      rw [List.length_append, List.length_singleton] at this
      exact ⟨by omega, this.2⟩
theorem lstR_wf {α : Type} {W : α → Prop} {one : Int × Bool → α × Int × Bool} (h1 : ∀ q, W (one q).1) : ∀ {n : Nat} {acc : List α} {q : Int × Bool}, (∀ x ∈ acc, W x) → (lstR one n acc q).1.length ≤ acc.length + n ∧ ∀ x ∈ (lstR one n acc q).1, W x
  | 0, acc, q, h => ⟨Nat.le_refl _, h⟩
  | n + 1, acc, q, h => by
    unfold lstR
    split
    · exact ⟨Nat.le_add_right _ _, h⟩
    · have := lstR_wf (W := W) h1 (n := n) (acc := acc ++ [(one q).1]) (q := (one q).2) (fun x hx => by
        rcases List.mem_append.1 hx with h' | h'
        · exact h x h'
        · rw [List.mem_singleton.1 h']; exact h1 q)
      rw [List.length_append, List.length_singleton] at this
      exact ⟨by omega, this.2⟩
theorem listA_wf {d : D} (s : List UInt8) {one : Int × Bool → d.T × Int × Bool} (h1 : ∀ q, Wf d (one q).1) (q : Int × Bool) : (listA s one q).1.length ≤ 1024 ∧ Wf (.list d) (listA s one q).1 := by
  have hv := rdN_val s q (most := 1024) (by decide) (by decide)
  have := lstA_wf (W := Wf d) h1 (n := (rdN s 1024 q).1.toNat) (acc := []) (q := (rdN s 1024 q).2) (fun x hx => by cases hx)
  have hl : (listA s one q).1.length ≤ 1024 := by
    refine Nat.le_trans this.1 ?_
    show 0 + _ ≤ _
    omega
  exact ⟨hl, Nat.le_trans hl (by decide), this.2⟩
theorem listR_wf {d : D} (s : List UInt8) {one : Int × Bool → d.T × Int × Bool} (h1 : ∀ q, Wf d (one q).1) (q : Int × Bool) : (listR s one q).1.length ≤ 1024 ∧ Wf (.list d) (listR s one q).1 := by
  have hv := rdN_val s q (most := 1024) (by decide) (by decide)
  have := lstR_wf (W := Wf d) h1 (n := (rdN s 1024 q).1.toNat) (acc := []) (q := (rdN s 1024 q).2) (fun x hx => by cases hx)
  have hl : (listR s one q).1.length ≤ 1024 := by
    refine Nat.le_trans this.1 ?_
    show 0 + _ ≤ _
    omega
  exact ⟨hl, Nat.le_trans hl (by decide), this.2⟩
theorem good_n {c : CD.T} (h : goodC c = true) : Wf CD c ∧ c.2.2.1.length ≤ 1000 := ⟨good_wf h, Nat.le_trans (goodC_out h).n3 (by decide)⟩
theorem catOf_wf (t : List UInt8) : Wf CD (catOf t).1 ∧ (catOf t).1.2.2.1.length ≤ 1000 := by
  have h0 : Wf CD C0 ∧ C0.2.2.1.length ≤ 1000 := by
    refine ⟨⟨⟨by decide, fun x hx => by cases hx⟩, ⟨by decide, fun x hx => by cases hx⟩, ⟨by decide, fun x hx => by cases hx⟩, ⟨by decide, fun x hx => by cases hx⟩, by decide⟩, by decide⟩
  unfold catOf
  split
  · exact h0
  · unfold decCS
    cases hd : decO t with
    | none => exact h0
    | some d => exact good_n (enc_dec hd).1
theorem repA_wf (s : List UInt8) : Wf AD (rawA s) ∧ (aC (rawA s)).2.2.1.length ≤ 1000 := by
  have hc : Wf CD (catOf (qT s).1).1 ∧ (catOf (qT s).1).1.2.2.1.length ≤ 1000 := catOf_wf _
  exact ⟨⟨rdN_wf s _ (by decide) (by decide), rdN_wf s _ (by decide) (by decide), rdN_wf s _ (by decide) (by decide), (listA_wf s (oneN_wf s) _).2, (listA_wf s (oneE_wf s) _).2, (listA_wf (d := LD) s (oneI_wf s) _).2, hc.1⟩, hc.2⟩
/-! how long bytes are -/
theorem encPs_len {l : List PD.T} (hl : Wf (.list PD) l) : (encPs l).length ≤ 8600 := by
  unfold encPs
  split
  · rename_i h
    have ha := props_all h
    have h1 := encL_len (l := l) fun p hp => ⟨hl.2 p hp, name_len (ha.2 p hp).1⟩
    have h2 := Num.putN_ten (n := l.length) (by have := ha.1; omega)
    have h3 := ha.1
    rw [List.length_append]
    omega
  · simp
theorem encN_len {n : ND.T} (hw : Wf ND n) (hg : goodN n = true) : (encN n).length ≤ 9000 := by
  unfold goodN at hg
  simp only [Bool.and_eq_true] at hg
  have h1 := Num.putN_ten (wrap_u64 n.1).2
  have h2 := putT_b (nameS_len hg.1.2)
  have h3 := encPs_len hw.2.2
  unfold encN
  rw [List.length_append, List.length_append]
  omega
theorem encE_len {n : ED.T} (hw : Wf ED n) (hg : goodE n = true) : (encE n).length ≤ 9000 := by
  unfold goodE at hg
  simp only [Bool.and_eq_true] at hg
  have h1 := Num.putN_ten (wrap_u64 n.1).2
  have h4 := Num.putN_ten (wrap_u64 n.2.2.1).2
  have h5 := Num.putN_ten (wrap_u64 n.2.2.2.1).2
  have h2 := putT_b (nameS_len hg.1.2)
  have h3 := encPs_len hw.2.2.2.2
  unfold encE
  rw [List.length_append, List.length_append, List.length_append, List.length_append]
  omega
theorem flB_le {α : Type} {f : α → List UInt8} {B : Nat} {l : List α} {n : Nat} (h : ∀ x ∈ l, (f x).length ≤ B) (hn : l.length ≤ n) : (flB f l).length ≤ B * n :=
  Nat.le_trans (flB_len f B h) (Nat.mul_le_mul_left B hn)
theorem flB_cut {α : Type} {f : α → List UInt8} {B : Nat} {l : List α} {n : Nat} (h : ∀ x ∈ l, (f x).length ≤ B) (hn : l.length ≤ n) (i : Nat) : (flB f (l.take i)).length ≤ B * n :=
  flB_le (fun x hx => h x (List.mem_of_mem_take hx)) (Nat.le_trans (by rw [List.length_take]; exact Nat.min_le_right _ _) hn)
theorem enc4_len (r : AD.T) : (enc4 r).length ≤ 40 := by
  have h1 := Num.putN_ten (wrap_u64 r.1).2
  have h2 := Num.putN_ten (wrap_u64 r.2.1).2
  have h3 := Num.putN_ten (wrap_u64 r.2.2.1).2
  have h4 := Num.putN_ten (wrap_u64 r.2.2.2.1.length).2
  unfold enc4
  simp only [List.length_append]
  omega
/-- what of a good reply its length hangs on -/
structure ShortA (r : AD.T) : Prop where
  n1 : r.2.2.2.1.length ≤ 1024
  n2 : r.2.2.2.2.1.length ≤ 1024
  n3 : r.2.2.2.2.2.1.length ≤ 1024
  g1 : ∀ x ∈ r.2.2.2.1, (encN x).length ≤ 9000
  g2 : ∀ x ∈ r.2.2.2.2.1, (encE x).length ≤ 9000
theorem encI_len (n : LD.T) : (encI n).length ≤ 10 := Num.putN_ten (wrap_u64 n).2
theorem ShortA.f1 {r : AD.T} (h : ShortA r) (i : Nat) : (flB encN (r.2.2.2.1.take i)).length ≤ 9216000 := flB_cut h.g1 h.n1 i
theorem ShortA.f2 {r : AD.T} (h : ShortA r) (i : Nat) : (flB encE (r.2.2.2.2.1.take i)).length ≤ 9216000 := flB_cut h.g2 h.n2 i
theorem ShortA.f3 {r : AD.T} (h : ShortA r) (i : Nat) : (flB (α := Int) encI (r.2.2.2.2.2.1.take i)).length ≤ 10240 := flB_cut (α := Int) (fun x _ => encI_len x) h.n3 i
theorem ShortA.l5 {r : AD.T} (h : ShortA r) : (enc5 r).length ≤ 9216050 := by
  have h1 := enc4_len r
  have h2 := h.f1 r.2.2.2.1.length
  have h3 := Num.putN_ten (wrap_u64 r.2.2.2.2.1.length).2
  rw [List.take_length] at h2
  unfold enc5
  rw [List.length_append, List.length_append]
  omega
theorem ShortA.l6 {r : AD.T} (h : ShortA r) : (enc6 r).length ≤ 18432060 := by
  have h1 := h.l5
  have h2 := h.f2 r.2.2.2.2.1.length
  have h3 := Num.putN_ten (wrap_u64 r.2.2.2.2.2.1.length).2
  rw [List.take_length] at h2
  unfold enc6
  rw [List.length_append, List.length_append]
  omega
theorem encCS_len (c : CD.T) : (encCS c).length ≤ 1000000 := by
  unfold encCS
  split
  · rename_i h
    have hg := goodC_out h
    have b1 := txtB_len hg.t1
    have b2 := txtB_len hg.t2
    have b3 := flB_len encS 144 (l := c.2.2.1) fun r _ => encS_len r
    have b4 := flB_len ixB 52 (l := c.2.2.2.1) fun x hx => by
      have := hg.il hx
      have q1 := putT_b this.1
      have q2 := putT_b this.2
      unfold ixB; rw [List.length_append]; omega
    have m1 := hg.n1
    have m2 := hg.n2
    have m3 := hg.n3
    have m4 := hg.n4
    have p1 := Num.putN_ten (n := c.1.length) (by omega)
    have p2 := Num.putN_ten (n := c.2.1.length) (by omega)
    have p3 := Num.putN_ten (n := c.2.2.1.length) (by omega)
    have p4 := Num.putN_ten (n := c.2.2.2.1.length) (by omega)
    have p5 := putN_b (show Int from c.2.2.2.2) hg.x1
    have p6 : (Num.putN (Int.toNat c.2.2.2.2)).length ≤ 10 := p5
    unfold catB'
    simp only [List.length_append]
    omega
  · simp
theorem putT_len (t : List UInt8) (h : t.length ≤ 1000000000) : (Num.putT t).length ≤ 10 + t.length := by
  have := Num.putN_ten (n := t.length) (by omega)
  unfold Num.putT
  rw [List.length_append]
  omega
theorem ShortA.len {r : AD.T} (h : ShortA r) : (encA r).length ≤ 100000000 := by
  have h1 := h.l6
  have h2 := h.f3 r.2.2.2.2.2.1.length
  have h3 := encCS_len (aC r)
  have h4 := putT_len (encCS (aC r)) (by omega)
  rw [List.take_length] at h2
  unfold encA
  rw [List.length_append, List.length_append]
  omega
/-- what a good reply is -/
structure GoodA (r : AD.T) : Prop where
  c0 : 0 ≤ (show Int from r.1)
  c1 : (show Int from r.1) ≤ 1000
  i : okId r.2.1 = true
  r0 : 0 ≤ (show Int from r.2.2.1)
  r1 : (show Int from r.2.2.1) ≤ 1000000
  n1 : r.2.2.2.1.length ≤ 1024
  n2 : r.2.2.2.2.1.length ≤ 1024
  n3 : r.2.2.2.2.2.1.length ≤ 1024
  g1 : ∀ x ∈ r.2.2.2.1, goodN x = true
  g2 : ∀ x ∈ r.2.2.2.2.1, goodE x = true
  g3 : ∀ x ∈ (show List Int from r.2.2.2.2.2.1), okId x = true
  cat : (emptyC (aC r) || goodC (aC r)) = true
theorem goodA_out {r : AD.T} (h : goodA r = true) : GoodA r := by
  obtain ⟨c, i, u, ns, es, is, k⟩ := r
  unfold goodA headA bndA idsS at h
  simp only [Bool.and_eq_true, Bool.not_eq_true', Bool.or_eq_false_iff, decide_eq_false_iff_not, List.all_eq_true] at h
  obtain ⟨⟨⟨⟨⟨⟨⟨⟨h1, h2⟩, h3⟩, h4⟩, h5⟩, h6⟩, h7⟩, h8, h9⟩, h10, h11, h12⟩ := h
  exact ⟨Int.not_lt.1 h1, Int.not_lt.1 h2, h8, Int.not_lt.1 h3, Int.not_lt.1 h4, by show ns.length ≤ _; omega, by show es.length ≤ _; omega, by show is.length ≤ _; omega, h10, h11, h9, h12⟩
theorem GoodA.short {r : AD.T} (hw : Wf AD r) (h : GoodA r) : ShortA r := ⟨h.n1, h.n2, h.n3, fun x hx => encN_len (hw.2.2.2.1.2 x hx) (h.g1 x hx), fun x hx => encE_len (hw.2.2.2.2.1.2 x hx) (h.g2 x hx)⟩
theorem encA_len {r : AD.T} (hw : Wf AD r) (h : goodA r = true) : (encA r).length ≤ 100000000 := ((goodA_out h).short hw).len
end Go.Proofs.YtmdjonckcapkeaaDoor.Ans
/- What a session is, and what is done with it; no program in sight. Own work. -/
set_option linter.unusedVariables false
set_option maxRecDepth 100000
namespace Go.Proofs.YtmdjonckcapkeaaDoor
open Go Go.RowKit OE

/-- a session: bytes that came in, the channel (what lies in it, how many were sent and received), the head and whether it is there, what goes out, closed -/
structure Ss where
  inp : List UInt8
  xs : List MD.T
  s : Nat
  r : Nat
  hd : MD.T
  there : Bool
  out : List UInt8
  cl : Bool
def Ss.q (a : Ss) : List MD.T := if a.there = true then a.hd :: a.xs else a.xs
def S0 : Ss := ⟨[], [], 0, 0, MD.df, false, [], false⟩
def headS (a : Ss) : Ss := if a.there = true then a else match a.xs with
  | [] => a
  | y :: ys => { a with xs := ys, r := a.r + 1, hd := y, there := true }
def nx1 (s : List UInt8) : List UInt8 := (nextM s).1
def nx2 (s : List UInt8) : Int := (nextM s).2.1
def nx3 (s : List UInt8) : Int := (nextM s).2.2
def badF (a : Ss) : Bool := !decide (nx3 a.inp = 0) || (decide (0 < nx2 a.inp) && decide (a.q.length = 64))
def takeF (a : Ss) : Ss := { a with xs := a.xs ++ [decM (nx1 a.inp)], s := a.s + 1, inp := a.inp.drop (nx2 a.inp).toNat }
def fdL : Nat → Ss → Ss
  | 0, a => a
  | n + 1, a => if badF a = true then { a with inp := [], cl := true } else if nx2 a.inp = 0 then a else fdL n (takeF a)
def feedS (a : Ss) (d : List UInt8) : Ss := if a.cl = true then a else fdL (a.inp.length + d.length + 1) { a with inp := a.inp ++ d }
def ansS (a : Ss) (r : Ans.AD.T) : Ss × Int := if (headS a).there = false then (headS a, 60) else if Ans.goodA r = true then ({ headS a with there := false, out := a.out ++ Num.putT (Ans.encA r) }, 0) else (headS a, 11)
theorem nx_bd (s : List UInt8) : 0 ≤ nx2 s ∧ nx2 s ≤ s.length := by
  unfold nx2 nextM
  split
  · exact ⟨Int.le_refl 0, Int.natCast_nonneg _⟩
  split
  · exact ⟨Int.le_refl 0, Int.natCast_nonneg _⟩
  split
  · exact ⟨Int.le_refl 0, Int.natCast_nonneg _⟩
  · exact ⟨Int.natCast_nonneg _, by dsimp only; omega⟩
theorem nx1_le (s : List UInt8) : (nx1 s).length ≤ s.length := by
  unfold nx1 nextM
  split
  · exact Nat.zero_le _
  split
  · exact Nat.zero_le _
  split
  · exact Nat.zero_le _
  · dsimp only
    rw [List.length_take, List.length_drop]
    omega
theorem q_len (a : Ss) : a.q.length = a.xs.length + (if a.there = true then 1 else 0) := by
  unfold Ss.q
  split <;> simp
theorem take_q (a : Ss) : (takeF a).q = a.q ++ [decM (nx1 a.inp)] := by
  unfold Ss.q takeF
  dsimp only
  split
  · rfl
  · rfl
theorem head_q (a : Ss) : (headS a).q = a.q := by
  unfold headS
  by_cases h : a.there = true
  · rw [if_pos h]
  · rw [if_neg h]
    have h : a.there = false := by simpa using h
    obtain ⟨i, xs, s, r, hd, t, o, c⟩ := a
    have h : t = false := h
    subst h
    cases xs <;> rfl
theorem head_there (a : Ss) : (headS a).there = !decide (a.q = []) := by
  unfold headS Ss.q
  obtain ⟨i, xs, s, r, hd, t, o, c⟩ := a
  cases t with
  | true => simp
  | false => cases xs <;> simp
end Go.Proofs.YtmdjonckcapkeaaDoor
