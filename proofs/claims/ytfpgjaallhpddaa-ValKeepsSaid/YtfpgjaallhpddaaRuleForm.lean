/- The walks of val.Get, rule.Form and of the reference's. Own work. -/
import Derived.Test.YtfpgjaallhpddaaKeepGraph
import Derived.Test.YtfpgjaallhpddaaValName
set_option linter.unusedVariables false
set_option maxRecDepth 100000
namespace Go.Proofs.Ytfpgjaallhpddaa
open Go Go.RowKit OE

/-- a property's value -/
def getS : List PD.T → List UInt8 → VD.T × Bool
  | [], _ => (VD.df, false)
  | p :: l, n => if p.1 = n then (p.2, true) else getS l n
theorem getS_step {l : List PD.T} {n : List UInt8} {i : Nat} (h : i < l.length) : getS (l.drop i) n = if l[i].1 = n then (l[i].2, true) else getS (l.drop (i + 1)) n := by
  rw [List.drop_eq_getElem_cons h]; rfl
theorem getS_end {l : List PD.T} {n : List UInt8} {i : Nat} (h : l.length ≤ i) : getS (l.drop i) n = (VD.df, false) := by
  rw [List.drop_of_length_le h]; rfl

theorem val_Get (l : List PD.T) (n : List UInt8) : FnD Try.prog 50 [.c (.dat PD l), .c (.str n)] (· = .tup [(true, vc (getS l n).1), (false, [.bool (.sym (getS l n).2)])]) := by
  refine fn0 Try.func50 rfl rfl rfl ?_
  conv => whnf
  intro hl
  conv => whnf
  refine loop0 (α := Nat) (fun i => i ≤ l.length ∧ getS (l.drop i) n = getS l n)
    (fun i => ⟨[(1, .c (.str n)), (4, .c (.ptr 0 0)), (8, .c (.dat PD l)), (9, .c (.int .i64 l.length)), (10, .c (.int .i64 i))], [(0, .cells 65 [.int .i64 0, .int .i64 0, .str []])], 1⟩) (fun i => l.length - i) ⟨0, ⟨by omega, rfl⟩, ?_⟩ ?_
  · (conv => whnf); refine ⟨rfl, ?_, ?_, ?_⟩ <;> (repeat' apply And.intro) <;> first | exact trivial | rfl | exact wr_succ _ (by omega) | assumption | exact decide_eq_false (by assumption) | exact decide_eq_true (by assumption)
  · rintro i ⟨hI1, hI2⟩
    conv => whnf
    refine ⟨fun h2 => ?_, fun h2 => ?_⟩
    · have h2 : i < l.length := by simp at h2; omega
      rw [getS_step h2] at hI2
      conv => whnf
      try (intro _; conv => whnf)
      refine ⟨by omega, ?_⟩
      rw [gt_nat (d := PD) l i h2]
      conv => whnf
      refine ⟨fun h3 => ?_, fun h3 => ?_⟩
      · conv => whnf
        rw [if_pos (by simpa using h3)] at hI2
        rw [← hI2]
      · conv => whnf
        rw [if_neg (by simpa using h3)] at hI2
        refine ⟨i + 1, ⟨⟨by omega, hI2⟩, by omega⟩, ?_⟩
        (conv => whnf); refine ⟨rfl, ?_, ?_, ?_⟩ <;> (repeat' apply And.intro) <;> first | exact trivial | rfl | exact wr_succ _ (by omega) | assumption | exact decide_eq_false (by assumption) | exact decide_eq_true (by assumption)
    · conv => whnf
      rw [← hI2, getS_end (by simp at h2; omega)]
      rfl

theorem ref_Get (l : List PD.T) (n : List UInt8) : FnD Try.prog 51 [.c (.dat PD l), .c (.str n)] (· = .agg (vc (getS l n).1 ++ [.bool (.sym (getS l n).2)])) := by
  refine fn0 Try.func51 rfl rfl rfl ?_
  conv => whnf
  refine loop0 (α := Nat) (fun i => i ≤ l.length ∧ getS (l.drop i) n = getS l n)
    (fun i => ⟨[(0, .c (.dat PD l)), (1, .c (.str n)), (4, .c (.ptr 0 0)), (5, .c (.int .i64 i))], [(0, .cells 86 [.int .i64 0, .int .i64 0, .str [], .bool .ff])], 1⟩) (fun i => l.length - i) ⟨0, ⟨by omega, rfl⟩, ?_⟩ ?_
  · (conv => whnf); refine ⟨rfl, ?_, ?_, ?_⟩ <;> (repeat' apply And.intro) <;> first | exact trivial | rfl | exact wr_succ _ (by omega) | assumption | exact decide_eq_false (by assumption) | exact decide_eq_true (by assumption)
  · rintro i ⟨hI1, hI2⟩
    conv => whnf
    intro hl
    refine ⟨fun h2 => ?_, fun h2 => ?_⟩
    · have h2 : i < l.length := by simp at h2; omega
      rw [getS_step h2] at hI2
      conv => whnf
      try (intro _; conv => whnf)
      refine ⟨by omega, ?_⟩
      rw [gt_nat (d := PD) l i h2]
      conv => whnf
      refine ⟨fun h3 => ?_, fun h3 => ?_⟩
      · conv => whnf
        try (intro _; conv => whnf)
        refine ⟨by omega, ?_⟩
        rw [gt_nat (d := PD) l i h2]
        conv => whnf
        rw [if_pos (by simpa using h3)] at hI2
        rw [← hI2]
        rfl
      · conv => whnf
        rw [if_neg (by simpa using h3)] at hI2
        refine ⟨i + 1, ⟨⟨by omega, hI2⟩, by omega⟩, ?_⟩
        (conv => whnf); refine ⟨rfl, ?_, ?_, ?_⟩ <;> (repeat' apply And.intro) <;> first | exact trivial | rfl | exact wr_succ _ (by omega) | assumption | exact decide_eq_false (by assumption) | exact decide_eq_true (by assumption)
    · conv => whnf
      rw [← hI2, getS_end (by simp at h2; omega)]
      rfl

/-- has a rule a form? -/
def formS (r : RD.T) : Bool :=
  nameS r.2.2.1 &&
  if r.2.1 = 1 ∨ r.2.1 = 2 then nameS r.2.2.2.1 && decide (r.2.2.2.2.1 = []) && decide (r.2.2.2.2.2.1 = []) && decide (r.2.2.2.2.2.2.1 = 0)
  else if r.2.1 = 3 then nameS r.2.2.2.2.1 && nameS r.2.2.2.2.2.1 && decide (r.2.2.2.1 = []) && decide (r.2.2.2.2.2.2.1 = 0)
  else if r.2.1 = 4 then decide (r.2.2.2.1 = []) && decide (r.2.2.2.2.1 = []) && decide (r.2.2.2.2.2.1 = []) && decide (0 ≤ r.2.2.2.2.2.2.1) && decide (r.2.2.2.2.2.2.1 ≤ 1024)
  else false

theorem rule_Form (r : RD.T) : FnD Try.prog 28 [.agg (rc r)] (· = .c (.bool (.sym (formS r)))) := by
  refine fn0 Try.func28 rfl rfl rfl ?_
  conv => whnf
  refine any0 ?_
  conv => whnf
  refine callr0 (val_Name r.2.2.1) rfl ?_
  conv => whnf
  refine callr0 (val_Name r.2.2.2.1) rfl ?_
  conv => whnf
  refine ⟨.inl (by kernel_rfl), after0 ?_⟩
  conv => whnf
  refine ⟨fun h1 => ?_, fun h1 => ?_⟩
  · conv => whnf
    simp at h1
    simp [formS, h1, Bool.and_assoc]
  · conv => whnf
    refine ⟨fun h2 => ?_, fun h2 => ?_⟩
    · conv => whnf
      simp at h1 h2
      simp [formS, h2, Bool.and_assoc]
    · conv => whnf
      refine ⟨fun h3 => ?_, fun h3 => ?_⟩
      · conv => whnf
        refine callg0 (fun _ => val_Name r.2.2.2.2.1) rfl ?_
        conv => whnf
        refine callg0 (fun _ => val_Name r.2.2.2.2.2.1) rfl ?_
        conv => whnf
        simp at h1 h2 h3
        simp [formS, h3, Bool.and_assoc]
      · conv => whnf
        refine ⟨fun h4 => ?_, fun h4 => ?_⟩
        · conv => whnf
          simp at h1 h2 h3 h4
          simp [formS, h4, Bool.and_assoc]
        · conv => whnf
          simp at h1 h2 h3 h4
          simp [formS, h1, h2, h3, h4]

theorem ref_Form (r : RD.T) : FnD Try.prog 29 [.agg (rc r)] (· = .c (.bool (.sym (formS r)))) := by
  refine fn0 Try.func29 rfl rfl rfl ?_
  conv => whnf
  refine call1 (ref_Name r.2.2.1) rfl ?_
  conv => whnf
  refine ⟨fun h0 => ?_, fun h0 => ?_⟩
  · conv => whnf
    simp at h0
    simp [formS, h0]
  simp at h0
  conv => whnf
  refine ⟨fun h1 => ?_, fun h1 => ?_⟩
  · conv => whnf
    refine call1 (ref_Name r.2.2.2.1) rfl ?_
    conv => whnf
    simp at h1
    simp [formS, h0, h1, Bool.and_assoc]
  · conv => whnf
    refine ⟨fun h2 => ?_, fun h2 => ?_⟩
    · conv => whnf
      refine call1 (ref_Name r.2.2.2.1) rfl ?_
      conv => whnf
      simp at h1 h2
      simp [formS, h0, h2, Bool.and_assoc]
    · conv => whnf
      refine ⟨fun h3 => ?_, fun h3 => ?_⟩
      · conv => whnf
        refine callg0 (fun _ => ref_Name r.2.2.2.2.1) rfl ?_
        conv => whnf
        refine callg0 (fun _ => ref_Name r.2.2.2.2.2.1) rfl ?_
        conv => whnf
        simp at h1 h2 h3
        simp [formS, h0, h3, Bool.and_assoc, Bool.and_left_comm, Bool.and_comm]
      · conv => whnf
        refine ⟨fun h4 => ?_, fun h4 => ?_⟩
        · conv => whnf
          simp at h1 h2 h3 h4
          simp [formS, h0, h4, Bool.and_assoc]
        · conv => whnf
          simp at h1 h2 h3 h4
          simp [formS, h1, h2, h3, h4]
end Go.Proofs.Ytfpgjaallhpddaa
