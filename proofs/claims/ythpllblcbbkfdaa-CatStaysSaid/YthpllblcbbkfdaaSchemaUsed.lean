/- The walks of schema.used and of the reference's Names. Own work. -/
import Derived.Test.YthpllblcbbkfdaaRuleKnown
set_option linter.unusedVariables false
set_option maxRecDepth 100000
namespace Go.Proofs.Ythpllblcbbkfdaa
open Go Go.RowKit OE

/-- does a rule name a type? -/
def namS (k : Int) (v : List UInt8) (r : RD.T) : Bool :=
  if ((r.2.1 = 1 ∨ r.2.1 = 2) ∧ k = 1) ∨ ((r.2.1 = 3 ∨ r.2.1 = 4) ∧ k = 2) then hasT [r.2.2.1] v
  else if r.2.1 = 3 then hasT [r.2.2.2.2.1, r.2.2.2.2.2.1] v else false
def usedS (c : CD.T) (k : Int) (v : List UInt8) : Bool := c.2.2.1.any (namS k v) || (decide (k = 1) && c.2.2.2.1.any fun i => decide (i.1 = v))

theorem ref14_Names (r : RD.T) (k : Int) (v : List UInt8) (hk : k = 1 ∨ k = 2) : FnD Try.prog 28 [.agg (rc r), .c (.int .i64 k), .c (.str v)] (· = .c (.bool (.sym (namS k v r)))) := by
  have eq2 : ∀ (a b : List UInt8), decide (a = b) = decide (b = a) := fun a b => by rw [Bool.eq_iff_iff]; simp [eq_comm]
  refine fn0 Try.func28 rfl rfl rfl ?_
  conv => whnf
  refine ⟨fun h1 => ?_, fun h1 => ?_⟩
  · conv => whnf
    simp at h1
    rcases hk with rfl | rfl <;> simp [namS, h1, hasT, eq2]
  conv => whnf
  refine ⟨fun h2 => ?_, fun h2 => ?_⟩
  · conv => whnf
    simp at h1 h2
    rcases hk with rfl | rfl <;> simp [namS, h2, hasT, eq2]
  conv => whnf
  refine ⟨fun h3 => ?_, fun h3 => ?_⟩
  · conv => whnf
    simp at h1 h2 h3
    rcases hk with rfl | rfl <;> simp [namS, h3, hasT, eq2]
  conv => whnf
  refine ⟨fun h4 => ?_, fun h4 => ?_⟩
  · conv => whnf
    simp at h1 h2 h3 h4
    rcases hk with rfl | rfl <;> simp [namS, h4, hasT, eq2]
  · conv => whnf
    simp at h1 h2 h3 h4
    simp [namS, h1, h2, h3, h4]

noncomputable def inlU : Nat → Option (FI × Code) := lk [(106, fiOf Try.f106, bodyOf Try.f106),
  (132, fiOf Try.f132, bodyOf Try.f132),
  (107, fiOf Try.f107, bodyOf Try.f107)]
instance : InlOk inlU := inl_cons Try.func106 rfl rfl <| inl_cons Try.func132 rfl rfl <| inl_cons Try.func107 rfl rfl inl_nil

theorem schema_used (c : CD.T) (k : Int) (v : List UInt8) : FnD Try.prog 63 [.agg (cc c), .c (.int .i64 k), .c (.str v)] (· = .c (.bool (.sym (usedS c k v)))) := by
  refine fnI inlU Try.func63 rfl rfl rfl ?_
  conv => whnf
  intro hl
  conv => whnf
  refine loop0 (α := Nat) (fun i => i ≤ c.2.2.1.length ∧ (c.2.2.1.drop i).any (namS k v) = c.2.2.1.any (namS k v))
    (fun i => ⟨[(1, .c (.int .i64 k)), (3, .c (.ptr 0 0)), (5, .c (.ptr 1 0)), (11, .c (.dat RD c.2.2.1)), (12, .c (.int .i64 c.2.2.1.length)), (13, .c (.int .i64 i))], [(0, .cells 26 (cc c)), (1, .cells 9 [.str v])], 2⟩) (fun i => c.2.2.1.length - i) ⟨0, ⟨by omega, rfl⟩, ?_⟩ ?_
  · (conv => whnf); refine ⟨rfl, ?_, ?_, ?_⟩ <;> (repeat' apply And.intro) <;> first | exact trivial | rfl | exact wr_succ _ (by omega) | assumption | exact decide_eq_false (by assumption) | exact decide_eq_true (by assumption)
  rintro i ⟨hI1, hI2⟩
  conv => whnf
  refine ⟨fun h2 => ?_, fun h2 => ?_⟩
  · have h2 : i < c.2.2.1.length := by simp at h2; omega
    rw [any_step h2] at hI2
    conv => whnf
    try (intro _; conv => whnf)
    refine ⟨by omega, ?_⟩
    rw [gt_nat (d := RD) c.2.2.1 i h2]
    conv => whnf
    generalize hr : c.2.2.1[i] = r at hI2
    refine ⟨fun h3 => ?_, fun h3 => ?_⟩
    · have hN : namS k v r = hasT [r.2.2.1] v := by simp at h3; simp [namS, h3]
      conv => whnf
      refine lend0 (slices_Contains [r.2.2.1] v) rfl rfl ?_
      conv => whnf
      refine ⟨fun hf => ?_, fun hf => ?_⟩
      · conv => whnf
        rw [hN, hf, Bool.true_or] at hI2
        rw [usedS, ← hI2, Bool.true_or]
      · conv => whnf
        rw [hN, hf, Bool.false_or] at hI2
        refine ⟨i + 1, ⟨⟨by omega, hI2⟩, by omega⟩, ?_⟩
        (conv => whnf); refine ⟨rfl, ?_, ?_, ?_⟩ <;> (repeat' apply And.intro) <;> first | exact trivial | rfl | exact wr_succ _ (by omega) | assumption | exact decide_eq_false (by assumption) | exact decide_eq_true (by assumption)
    conv => whnf
    refine ⟨fun h4 => ?_, fun h4 => ?_⟩
    · have hN : namS k v r = hasT [r.2.2.1] v := by simp at h4; simp [namS, h4]
      conv => whnf
      refine lend0 (slices_Contains [r.2.2.1] v) rfl rfl ?_
      conv => whnf
      refine ⟨fun hf => ?_, fun hf => ?_⟩
      · conv => whnf
        rw [hN, hf, Bool.true_or] at hI2
        rw [usedS, ← hI2, Bool.true_or]
      · conv => whnf
        rw [hN, hf, Bool.false_or] at hI2
        refine ⟨i + 1, ⟨⟨by omega, hI2⟩, by omega⟩, ?_⟩
        (conv => whnf); refine ⟨rfl, ?_, ?_, ?_⟩ <;> (repeat' apply And.intro) <;> first | exact trivial | rfl | exact wr_succ _ (by omega) | assumption | exact decide_eq_false (by assumption) | exact decide_eq_true (by assumption)
    have hno : ¬ (((r.2.1 = 1 ∨ r.2.1 = 2) ∧ k = 1) ∨ ((r.2.1 = 3 ∨ r.2.1 = 4) ∧ k = 2)) := fun h => by
      rcases h with ⟨h | h, hk⟩ | ⟨h | h, hk⟩ <;> simp [h, hk] at h3 h4
    conv => whnf
    refine ⟨fun h5 => ?_, fun h5 => ?_⟩
    · have hN : namS k v r = hasT [r.2.2.2.2.1, r.2.2.2.2.2.1] v := by simp at h5; rw [namS, if_neg hno, if_pos h5]
      conv => whnf
      refine lend0 (slices_Contains [r.2.2.2.2.1, r.2.2.2.2.2.1] v) rfl rfl ?_
      conv => whnf
      refine ⟨fun hf => ?_, fun hf => ?_⟩
      · conv => whnf
        rw [hN, hf, Bool.true_or] at hI2
        rw [usedS, ← hI2, Bool.true_or]
      · conv => whnf
        rw [hN, hf, Bool.false_or] at hI2
        refine ⟨i + 1, ⟨⟨by omega, hI2⟩, by omega⟩, ?_⟩
        (conv => whnf); refine ⟨rfl, ?_, ?_, ?_⟩ <;> (repeat' apply And.intro) <;> first | exact trivial | rfl | exact wr_succ _ (by omega) | assumption | exact decide_eq_false (by assumption) | exact decide_eq_true (by assumption)
    · have hN : namS k v r = false := by simp at h5; rw [namS, if_neg hno, if_neg h5]
      conv => whnf
      refine call1 ((slices_Contains [] v).args fun w ok => ⟨nilA, sameA, trivial⟩) rfl ?_
      conv => whnf
      refine fk rfl ?_
      conv => whnf
      rw [hN, Bool.false_or] at hI2
      refine ⟨i + 1, ⟨⟨by omega, hI2⟩, by omega⟩, ?_⟩
      (conv => whnf); refine ⟨rfl, ?_, ?_, ?_⟩ <;> (repeat' apply And.intro) <;> first | exact trivial | rfl | exact wr_succ _ (by omega) | assumption | exact decide_eq_false (by assumption) | exact decide_eq_true (by assumption)
  · rw [any_end (by simp at h2; omega)] at hI2
    have hU : usedS c k v = (decide (k = 1) && c.2.2.2.1.any fun i => decide (i.1 = v)) := by rw [usedS, ← hI2]; rfl
    rw [hU]
    conv => whnf
    refine ⟨fun h6 => ?_, fun h6 => ?_⟩
    · rw [h6, Bool.true_and]
      conv => whnf
      intro _
      conv => whnf
      refine loop0 (α := Nat) (fun j => j ≤ c.2.2.2.1.length ∧ (c.2.2.2.1.drop j).any (fun i => decide (i.1 = v)) = c.2.2.2.1.any (fun i => decide (i.1 = v)))
        (fun j => ⟨[(0, .c (.dat ID c.2.2.2.1)), (1, .c (.fn 107 [(1, 0)])), (7, .c (.int .i64 c.2.2.2.1.length)), (8, .c (.int .i64 j))], [(1, .cells 9 [.str v])], 2⟩) (fun j => c.2.2.2.1.length - j) ⟨0, ⟨by omega, rfl⟩, ?_⟩ ?_
      · (conv => whnf); refine ⟨rfl, ?_, ?_, ?_⟩ <;> (repeat' apply And.intro) <;> first | exact trivial | rfl | exact wr_succ _ (by omega) | assumption | exact decide_eq_false (by assumption) | exact decide_eq_true (by assumption)
      rintro j ⟨hJ1, hJ2⟩
      conv => whnf
      refine ⟨fun h7 => ?_, fun h7 => ?_⟩
      · have h7 : j < c.2.2.2.1.length := by simp at h7; omega
        rw [any_step h7] at hJ2
        conv => whnf
        try (intro _; conv => whnf)
        refine ⟨by omega, ?_⟩
        rw [gt_nat (d := ID) c.2.2.2.1 j h7]
        conv => whnf
        refine ⟨fun h8 => ?_, fun h8 => ?_⟩
        · conv => whnf
          rw [h8, Bool.true_or] at hJ2
          rw [← hJ2]
          simp
        · conv => whnf
          rw [h8, Bool.false_or] at hJ2
          refine ⟨j + 1, ⟨⟨by omega, hJ2⟩, by omega⟩, ?_⟩
          (conv => whnf); refine ⟨rfl, ?_, ?_, ?_⟩ <;> (repeat' apply And.intro) <;> first | exact trivial | rfl | exact wr_succ _ (by omega) | assumption | exact decide_eq_false (by assumption) | exact decide_eq_true (by assumption)
      · conv => whnf
        rw [any_end (by simp at h7; omega)] at hJ2
        rw [← hJ2]
        rfl
    · rw [h6, Bool.false_and]
      conv => whnf
end Go.Proofs.Ythpllblcbbkfdaa
