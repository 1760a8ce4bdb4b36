/- The walks of schema.Types and of the reference's Types. Own work. -/
import Derived.Test.YthpllblcbbkfdaaRuleKnown
import Derived.Test.YthpllblcbbkfdaaValName
import Derived.Test.YthpllblcbbkfdaaOrdT
set_option linter.unusedVariables false
set_option maxRecDepth 100000
namespace Go.Proofs.Ythpllblcbbkfdaa
open Go Go.RowKit OE

/-- each above the one ahead of it -/
def risF : List SD.T → Bool
  | x :: y :: l => Op.bytesLess x y && risF (y :: l)
  | _ => true
def tyS (l : List SD.T) : Bool := !decide ((16 : Int) < l.length) && (risF l && l.all nameS)
def typesS (c : CD.T) : Bool := tyS c.1 && tyS c.2.1

theorem ris_step {l : List SD.T} {i : Nat} (h : i + 1 < l.length) : risF (l.drop i) = (Op.bytesLess l[i] l[i + 1] && risF (l.drop (i + 1))) := by
  rw [List.drop_eq_getElem_cons (show i < l.length by omega), List.drop_eq_getElem_cons h]; rfl
theorem ris_end {l : List SD.T} {i : Nat} (h : l.length ≤ i + 1) : risF (l.drop i) = true := by
  cases hd : l.drop i with
  | nil => rfl
  | cons x m =>
    cases m with
    | nil => rfl
    | cons y m =>
      have := congrArg List.length hd
      rw [List.length_drop, List.length_cons, List.length_cons] at this
      omega

theorem schema_rising (l : List SD.T) : FnD Try.prog 52 [.c (.dat SD l)] (· = .c (.bool (.sym (risF l)))) := by
  refine fn0 Try.func52 rfl rfl rfl ?_
  conv => whnf
  refine loop0 (α := Nat) (fun i => i ≤ l.length ∧ risF (l.drop i) = risF l) (fun i => ⟨[(0, .c (.dat SD l)), (3, .c (.int .i64 ((i : Int) + 1)))], [], 0⟩) (fun i => l.length - i) ⟨0, ⟨by omega, rfl⟩, ?_⟩ ?_
  · (conv => whnf); refine ⟨rfl, ?_, ?_, ?_⟩ <;> (repeat' apply And.intro) <;> first | exact trivial | rfl | exact wr_succ _ (by omega) | assumption | exact decide_eq_false (by assumption) | exact decide_eq_true (by assumption)
  rintro i ⟨hI1, hI2⟩
  conv => whnf
  intro hl
  refine ⟨fun h2 => ?_, fun h2 => ?_⟩
  · have h2 : i + 1 < l.length := by simp at h2; omega
    rw [ris_step h2] at hI2
    have e1 : IntKind.wrap .i64 ((i : Int) + 1 - 1) = (i : Int) := by rw [wr64 _ (by omega) (by omega)]; omega
    have e2 : ((i : Int) + 1) = ((i + 1 : Nat) : Int) := by omega
    conv => whnf
    refine any0 ?_
    conv => whnf
    refine ⟨by omega, ?_⟩
    conv => whnf
    rw [e1]
    refine ⟨by omega, ?_⟩
    rw [gt_nat (d := SD) l i (by omega)]
    rw [e2, gt_nat (d := SD) l (i + 1) h2]
    conv => whnf
    refine ⟨.inl (by kernel_rfl), after0 ?_⟩
    conv => whnf
    have e3 : (Op.bytesLess l[i + 1] l[i] || decide (l[i + 1] = l[i])) = !Op.bytesLess l[i] l[i + 1] := bl_not _ _
    refine ⟨fun h3 => ?_, fun h3 => ?_⟩
    · conv => whnf
      have : Op.bytesLess l[i] l[i + 1] = false := by simpa using e3.symm.trans h3
      rw [← hI2, this]; rfl
    · conv => whnf
      have : Op.bytesLess l[i] l[i + 1] = true := by simpa using e3.symm.trans h3
      refine ⟨i + 1, ⟨⟨by omega, by rw [← hI2, this]; simp⟩, by omega⟩, ?_⟩
      have e4 : IntKind.wrap .i64 (((i + 1 : Nat) : Int) + 1) = ((i + 1 : Nat) : Int) + 1 := wr64 _ (by omega) (by omega)
      (conv => whnf); exact ⟨rfl, ⟨rfl, e4.symm, trivial⟩, trivial, trivial⟩
  · conv => whnf
    rw [← hI2, ris_end (by simp at h2; omega)]

theorem ref14_names (l : List SD.T) : FnD Try.prog 54 [.c (.dat SD l)] (· = .c (.bool (.sym (tyS l)))) := by
  refine fn0 Try.func54 rfl rfl rfl ?_
  conv => whnf
  intro hl
  refine ⟨fun h1 => ?_, fun h1 => ?_⟩
  · conv => whnf
    rw [tyS, h1]; rfl
  have hT : tyS l = (risF l && l.all nameS) := by rw [tyS, h1]; rfl
  rw [hT]
  conv => whnf
  refine loop0 (α := Nat) (fun i => i ≤ l.length ∧ (risF (l.drop (i - 1)) && (l.drop i).all nameS) = (risF l && l.all nameS)) (fun i => ⟨[(0, .c (.dat SD l)), (3, .c (.int .i64 i))], [], 0⟩) (fun i => l.length - i) ⟨0, ⟨by omega, rfl⟩, ?_⟩ ?_
  · (conv => whnf); refine ⟨rfl, ?_, ?_, ?_⟩ <;> (repeat' apply And.intro) <;> first | exact trivial | rfl | exact wr_succ _ (by omega) | assumption | exact decide_eq_false (by assumption) | exact decide_eq_true (by assumption)
  rintro i ⟨hI1, hI2⟩
  conv => whnf
  intro _
  refine ⟨fun h2 => ?_, fun h2 => ?_⟩
  · have h2 : i < l.length := by simp at h2; omega
    rw [all_step h2] at hI2
    have e1 : IntKind.wrap .i64 ((i : Int) - 1) = (i : Int) - 1 := wr64 _ (by omega) (by omega)
    conv => whnf
    refine any0 ?_
    conv => whnf
    try (intro _; conv => whnf)
    refine ⟨by omega, ?_⟩
    rw [gt_nat (d := SD) l i h2]
    conv => whnf
    refine callr0 (ref_Name l[i]) rfl ?_
    conv => whnf
    rw [e1]
    refine ⟨fun h => by have := h.2; simp at this; omega, ?_⟩
    conv => whnf
    refine ⟨fun h => by omega, ?_⟩
    rw [gt_nat (d := SD) l i h2]
    conv => whnf
    refine ⟨.inl (by kernel_rfl), after0 ?_⟩
    conv => whnf
    have key : (!nameS l[i] || (decide ((0 : Int) < i) && !Op.bytesLess (gt (d := SD) l ((i : Int) - 1)) l[i])) = !(nameS l[i] && (decide (i = 0) || Op.bytesLess (gt (d := SD) l ((i : Int) - 1)) l[i])) := by
      by_cases h0 : i = 0
      · subst h0; simp
      · have h1 : decide ((0 : Int) < i) = true := decide_eq_true (by omega)
        rw [h1]; simp [h0]
    have hnew : (nameS l[i] && (decide (i = 0) || Op.bytesLess (gt (d := SD) l ((i : Int) - 1)) l[i])) = true → (risF (l.drop (i + 1 - 1)) && (l.drop (i + 1)).all nameS) = (risF l && l.all nameS) := fun h => by
      rw [Bool.and_eq_true] at h
      rw [← hI2, h.1, Bool.true_and]
      by_cases h0 : i = 0
      · subst h0; rfl
      · obtain ⟨j, rfl⟩ : ∃ j, i = j + 1 := ⟨i - 1, by omega⟩
        have ej : (((j + 1 : Nat) : Int) - 1) = (j : Int) := by omega
        have h2' := h.2
        rw [ej, gt_nat (d := SD) l j (by omega)] at h2'
        have h3 : Op.bytesLess l[j] l[j + 1] = true := by simpa using h2'
        rw [show j + 1 - 1 = j by omega, show j + 1 + 1 - 1 = j + 1 by omega, ris_step (i := j) h2, h3, Bool.true_and]
    have hbad : (nameS l[i] && (decide (i = 0) || Op.bytesLess (gt (d := SD) l ((i : Int) - 1)) l[i])) = false → (risF l && l.all nameS) = false := fun h => by
      rw [Bool.and_eq_false_iff] at h
      rw [← hI2]
      rcases h with h | h
      · rw [h]; simp
      · by_cases h0 : i = 0
        · simp [h0] at h
        · obtain ⟨j, rfl⟩ : ∃ j, i = j + 1 := ⟨i - 1, by omega⟩
          have ej : (((j + 1 : Nat) : Int) - 1) = (j : Int) := by omega
          rw [ej, gt_nat (d := SD) l j (by omega)] at h
          have h3 : Op.bytesLess l[j] l[j + 1] = false := by simpa using h
          rw [show j + 1 - 1 = j by omega, ris_step (i := j) h2, h3]; rfl
    refine ⟨fun h3 => ?_, fun h3 => ?_⟩
    · conv => whnf
      rw [hbad (not_t (key.symm.trans h3))]
    · conv => whnf
      refine ⟨i + 1, ⟨⟨by omega, hnew (not_f (key.symm.trans h3))⟩, by omega⟩, ?_⟩
      (conv => whnf); refine ⟨rfl, ?_, ?_, ?_⟩ <;> (repeat' apply And.intro) <;> first | exact trivial | rfl | exact wr_succ _ (by omega) | assumption | exact decide_eq_false (by assumption) | exact decide_eq_true (by assumption)
  · conv => whnf
    rw [← hI2, all_end (by simp at h2; omega), ris_end (by simp at h2; omega)]
    rfl

theorem ref14_Types (c : CD.T) : FnD Try.prog 19 [.agg (cc c)] (· = .c (.bool (.sym (typesS c)))) := by
  refine fn0 Try.func19 rfl rfl rfl ?_
  conv => whnf
  refine call1 (ref14_names c.1) rfl ?_
  conv => whnf
  refine callg0 (fun _ => ref14_names c.2.1) rfl ?_
  conv => whnf
  rfl

theorem schema_Types (c : CD.T) : FnD Try.prog 18 [.agg (cc c)] (· = .c (.bool (.sym (typesS c)))) := by
  refine fn0 Try.func18 rfl rfl rfl ?_
  conv => whnf
  intro _
  conv => whnf
  refine unroll0 3 ?_
  conv => whnf
  refine tk rfl ?_
  conv => whnf
  intro _
  conv => whnf
  refine ⟨⟨by decide, by show (0 : Int) < 2; decide⟩, ?_⟩
  conv => whnf
  refine ⟨⟨by decide, by show (0 : Int) < 2; decide⟩, ?_⟩
  conv => whnf
  intro _
  conv => whnf
  refine callg0 (fun _ => schema_rising c.1) rfl ?_
  conv => whnf
  refine ⟨fun h0 => ?_, fun h0 => ?_⟩
  · conv => whnf
    have h0 : (decide ((16 : Int) < (c.1).length) || !risF c.1) = true := h0
    have : tyS c.1 = false := by
      unfold tyS
      cases hr : risF c.1 with
      | true => rw [hr] at h0; simp at h0; simp; omega
      | false => simp
    rw [typesS, this]; simp
  have h0 : (decide ((16 : Int) < (c.1).length) || !risF c.1) = false := h0
  have hT0 : tyS c.1 = (c.1).all nameS := by
    rw [Bool.or_eq_false_iff] at h0
    rw [tyS, h0.1, not_f h0.2]; rfl
  conv => whnf
  intro _
  conv => whnf
  refine loop0 (α := Nat) (fun i => i ≤ (c.1).length ∧ ((c.1).drop i).all nameS = (c.1).all nameS)
    (fun i => ⟨[(1, .c (.ptr 0 0)), (11, .c (.row 1)), (12, .c (.int .i64 2)), (13, .c (.int .i64 0)), (25, .c (.dat SD c.1)), (26, .c (.int .i64 (c.1).length)), (27, .c (.int .i64 i))], [(0, .cells 26 (cc c)), (1, .row 22 (.list .str) [c.1, c.2.1])], 2⟩) (fun i => (c.1).length - i) ⟨0, ⟨by omega, rfl⟩, ?_⟩ ?_
  · (conv => whnf); refine ⟨rfl, ?_, ?_, ?_⟩ <;> (repeat' apply And.intro) <;> first | exact trivial | rfl | exact wr_succ _ (by omega) | assumption | exact decide_eq_false (by assumption) | exact decide_eq_true (by assumption)
  rintro i ⟨hI1, hI2⟩
  conv => whnf
  refine ⟨fun h2 => ?_, fun h2 => ?_⟩
  · have h2 : i < (c.1).length := by simp at h2; omega
    rw [all_step h2] at hI2
    conv => whnf
    try (intro _; conv => whnf)
    refine ⟨by omega, ?_⟩
    rw [gt_nat (d := SD) (c.1) i h2]
    conv => whnf
    refine call1 (val_Name (c.1)[i]) rfl ?_
    conv => whnf
    refine ⟨fun h3 => ?_, fun h3 => ?_⟩
    · conv => whnf
      rw [not_t h3, Bool.false_and] at hI2
      rw [← hI2] at hT0
      rw [typesS, hT0]; simp
    · conv => whnf
      rw [not_f h3, Bool.true_and] at hI2
      refine ⟨i + 1, ⟨⟨by omega, hI2⟩, by omega⟩, ?_⟩
      (conv => whnf); refine ⟨rfl, ?_, ?_, ?_⟩ <;> (repeat' apply And.intro) <;> first | exact trivial | rfl | exact wr_succ _ (by omega) | assumption | exact decide_eq_false (by assumption) | exact decide_eq_true (by assumption)
  rw [all_end (by simp at h2; omega)] at hI2
  rw [← hI2] at hT0
  conv => whnf
  refine tk rfl ?_
  conv => whnf
  intro _
  conv => whnf
  refine ⟨⟨by decide, by show (1 : Int) < 2; decide⟩, ?_⟩
  conv => whnf
  refine ⟨⟨by decide, by show (1 : Int) < 2; decide⟩, ?_⟩
  conv => whnf
  intro _
  conv => whnf
  refine callg0 (fun _ => schema_rising c.2.1) rfl ?_
  conv => whnf
  refine ⟨fun h1 => ?_, fun h1 => ?_⟩
  · conv => whnf
    have h1 : (decide ((16 : Int) < (c.2.1).length) || !risF c.2.1) = true := h1
    have : tyS c.2.1 = false := by
      unfold tyS
      cases hr : risF c.2.1 with
      | true => rw [hr] at h1; simp at h1; simp; omega
      | false => simp
    rw [typesS, this]; simp
  have h1 : (decide ((16 : Int) < (c.2.1).length) || !risF c.2.1) = false := h1
  have hT1 : tyS c.2.1 = (c.2.1).all nameS := by
    rw [Bool.or_eq_false_iff] at h1
    rw [tyS, h1.1, not_f h1.2]; rfl
  conv => whnf
  intro _
  conv => whnf
  refine loop0 (α := Nat) (fun i => i ≤ (c.2.1).length ∧ ((c.2.1).drop i).all nameS = (c.2.1).all nameS)
    (fun i => ⟨[(1, .c (.ptr 0 0)), (11, .c (.row 1)), (12, .c (.int .i64 2)), (13, .c (.int .i64 1)), (25, .c (.dat SD c.2.1)), (26, .c (.int .i64 (c.2.1).length)), (27, .c (.int .i64 i))], [(0, .cells 26 (cc c)), (1, .row 22 (.list .str) [c.1, c.2.1])], 2⟩) (fun i => (c.2.1).length - i) ⟨0, ⟨by omega, rfl⟩, ?_⟩ ?_
  · (conv => whnf); refine ⟨rfl, ?_, ?_, ?_⟩ <;> (repeat' apply And.intro) <;> first | exact trivial | rfl | exact wr_succ _ (by omega) | assumption | exact decide_eq_false (by assumption) | exact decide_eq_true (by assumption)
  rintro i ⟨hI1, hI2⟩
  conv => whnf
  refine ⟨fun h2 => ?_, fun h2 => ?_⟩
  · have h2 : i < (c.2.1).length := by simp at h2; omega
    rw [all_step h2] at hI2
    conv => whnf
    try (intro _; conv => whnf)
    refine ⟨by omega, ?_⟩
    rw [gt_nat (d := SD) (c.2.1) i h2]
    conv => whnf
    refine call1 (val_Name (c.2.1)[i]) rfl ?_
    conv => whnf
    refine ⟨fun h3 => ?_, fun h3 => ?_⟩
    · conv => whnf
      rw [not_t h3, Bool.false_and] at hI2
      rw [← hI2] at hT1
      rw [typesS, hT1]; simp
    · conv => whnf
      rw [not_f h3, Bool.true_and] at hI2
      refine ⟨i + 1, ⟨⟨by omega, hI2⟩, by omega⟩, ?_⟩
      (conv => whnf); refine ⟨rfl, ?_, ?_, ?_⟩ <;> (repeat' apply And.intro) <;> first | exact trivial | rfl | exact wr_succ _ (by omega) | assumption | exact decide_eq_false (by assumption) | exact decide_eq_true (by assumption)
  rw [all_end (by simp at h2; omega)] at hI2
  rw [← hI2] at hT1
  conv => whnf
  refine fk rfl ?_
  conv => whnf
  rw [typesS, hT0, hT1]; rfl
end Go.Proofs.Ythpllblcbbkfdaa
