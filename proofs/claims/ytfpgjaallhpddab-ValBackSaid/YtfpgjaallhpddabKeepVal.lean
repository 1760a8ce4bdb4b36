/- The walks of hedgerowkeep: values, properties, rules. Own work. -/
import Derived.Test.YtfpgjaallhpddabTab
set_option linter.unusedVariables false
set_option maxRecDepth 100000
namespace Go.Proofs.Ytfpgjaallhpddab
open Go Go.RowKit OE

/-- a value: kind, number, text -/
abbrev VD : D := .pair (.int .i64) (.pair (.int .i64) .str)
abbrev vc (v : VD.T) : List C := [.int .i64 v.1, .int .i64 v.2.1, .str v.2.2]
/-- a property: name, value -/
abbrev PD : D := .pair .str VD
abbrev RD : D := .pair (.int .i64) (.pair (.int .i64) (.pair .str (.pair .str (.pair .str (.pair .str (.pair (.int .i64) (.int .i64)))))))
abbrev rc (r : RD.T) : List C := [.int .i64 r.1, .int .i64 r.2.1, .str r.2.2.1, .str r.2.2.2.1, .str r.2.2.2.2.1, .str r.2.2.2.2.2.1, .int .i64 r.2.2.2.2.2.2.1, .int .i64 r.2.2.2.2.2.2.2]

theorem keep_Value (v w : VD.T) : FnD Try.prog 9 [.agg (vc v), .agg (vc w)] (· = .c (.bool (.sym (VD.eqb v w)))) := by
  refine fn0 Try.func9 rfl rfl rfl ?_
  conv => whnf
  simp [D.eqb, Bool.and_assoc]

theorem PD_eqb (x y : PD.T) : PD.eqb x y = (decide (x.1 = y.1) && VD.eqb x.2 y.2) := rfl

theorem keep_Props (a b : List PD.T) : FnD Try.prog 14 [.c (.dat PD a), .c (.dat PD b)] (· = .c (.bool (.sym (eqL PD.eqb a b)))) := by
  refine fn0 Try.func14 rfl rfl rfl ?_
  conv => whnf
  intro ha
  conv => whnf
  intro hb
  refine ⟨fun h1 => ?_, fun h1 => ?_⟩
  · conv => whnf
    rw [eqL_len (by simp at h1; omega)]
  have h1 : a.length = b.length := by simp at h1; omega
  conv => whnf
  refine loop0 (α := Nat) (fun i => i ≤ a.length ∧ eqL PD.eqb (a.drop i) (b.drop i) = eqL PD.eqb a b)
    (fun i => ⟨[(0, .c (.dat PD a)), (1, .c (.dat PD b)), (5, .c (.int .i64 i))], [], 0⟩) (fun i => a.length - i) ⟨0, ⟨by omega, rfl⟩, ?_⟩ ?_
  · (conv => whnf); refine ⟨rfl, ?_, ?_, ?_⟩ <;> (repeat' apply And.intro) <;> first | exact trivial | rfl | exact wr_succ _ (by omega) | assumption | exact decide_eq_false (by assumption) | exact decide_eq_true (by assumption)
  · rintro i ⟨hI1, hI2⟩
    conv => whnf
    intro _
    refine ⟨fun h2 => ?_, fun h2 => ?_⟩
    · have h2 : i < a.length := by simp at h2; omega
      conv => whnf
      have hb2 : i < b.length := by omega
      rw [eqL_step h2 hb2, PD_eqb] at hI2
      refine any0 ?_
      conv => whnf
      try (intro _; conv => whnf)
      refine ⟨by omega, ?_⟩
      rw [gt_nat (d := PD) a i h2]
      conv => whnf
      try (intro _; conv => whnf)
      refine ⟨by omega, ?_⟩
      rw [gt_nat (d := PD) b i hb2]
      conv => whnf
      try (intro _; conv => whnf)
      refine ⟨fun _ => by omega, ?_⟩
      rw [gt_nat (d := PD) a i h2]
      conv => whnf
      try (intro _; conv => whnf)
      refine ⟨fun _ => by omega, ?_⟩
      rw [gt_nat (d := PD) b i hb2]
      conv => whnf
      refine callrg0 (fun _ => keep_Value a[i].2 b[i].2) rfl ?_
      conv => whnf
      refine ⟨.inl (by kernel_rfl), after0 ?_⟩
      conv => whnf
      refine ⟨fun h4 => ?_, fun h4 => ?_⟩
      · conv => whnf
        have : (decide (a[i].1 = b[i].1) && VD.eqb a[i].2 b[i].2) = false := by rw [Bool.and_eq_false_iff]; simpa using h4
        rw [← hI2, this, Bool.false_and]
      · conv => whnf
        have : (decide (a[i].1 = b[i].1) && VD.eqb a[i].2 b[i].2) = true := by simpa using h4
        refine ⟨i + 1, ⟨⟨by omega, ?_⟩, by omega⟩, ?_⟩
        · rw [← hI2, this, Bool.true_and]
        · (conv => whnf); refine ⟨rfl, ?_, ?_, ?_⟩ <;> (repeat' apply And.intro) <;> first | exact trivial | rfl | exact wr_succ _ (by omega) | assumption | exact decide_eq_false (by assumption) | exact decide_eq_true (by assumption)
    · conv => whnf
      rw [← hI2, eqL_end (by simp at h2; omega) (by simp at h2; omega)]

theorem keep_LargeValue (v : VD.T) : FnD Try.prog 4 [.agg (vc v)] (· = .c (.bool (.sym (decide ((5000 : Int) < v.2.2.length))))) := by
  refine fn0 Try.func4 rfl rfl rfl ?_
  conv => whnf

def largeP (p : PD.T) : Bool := decide ((1000 : Int) < p.1.length) || decide ((5000 : Int) < p.2.2.2.length)
def largeProps (l : List PD.T) : Bool := decide ((60 : Int) < l.length) || l.any largeP
theorem keep_LargeProps (l : List PD.T) : FnD Try.prog 5 [.c (.dat PD l)] (· = .c (.bool (.sym (largeProps l)))) := by
  refine fn0 Try.func5 rfl rfl rfl ?_
  conv => whnf
  intro hl
  refine ⟨fun h1 => ?_, fun h1 => ?_⟩
  · conv => whnf
    simp only [largeProps, h1, Bool.true_or]
  have hm : largeProps l = l.any largeP := by simp only [largeProps, h1, Bool.false_or]
  rw [hm]
  conv => whnf
  refine loop0 (α := Nat) (fun i => i ≤ l.length ∧ (l.drop i).any largeP = l.any largeP)
    (fun i => ⟨[(0, .c (.dat PD l)), (3, .c (.int .i64 i))], [], 0⟩) (fun i => l.length - i) ⟨0, ⟨by omega, rfl⟩, ?_⟩ ?_
  · (conv => whnf); refine ⟨rfl, ?_, ?_, ?_⟩ <;> (repeat' apply And.intro) <;> first | exact trivial | rfl | exact wr_succ _ (by omega) | assumption | exact decide_eq_false (by assumption) | exact decide_eq_true (by assumption)
  · rintro i ⟨hI1, hI2⟩
    conv => whnf
    intro _
    refine ⟨fun h2 => ?_, fun h2 => ?_⟩
    · have h2 : i < l.length := by simp at h2; omega
      rw [any_step h2] at hI2
      conv => whnf
      try (intro _; conv => whnf)
      refine ⟨by omega, ?_⟩
      rw [gt_nat (d := PD) l i h2]
      conv => whnf
      try (intro _; conv => whnf)
      refine ⟨fun _ => by omega, ?_⟩
      rw [gt_nat (d := PD) l i h2]
      conv => whnf
      refine callg0 (fun _ => keep_LargeValue l[i].2) rfl ?_
      conv => whnf
      refine ⟨fun h3 => ?_, fun h3 => ?_⟩
      · conv => whnf
        simp only [← hI2, largeP, h3, Bool.true_or]
      · conv => whnf
        refine ⟨i + 1, ⟨⟨by omega, ?_⟩, by omega⟩, ?_⟩
        · rw [← hI2]; simp only [largeP, h3, Bool.false_or]
        · (conv => whnf); refine ⟨rfl, ?_, ?_, ?_⟩ <;> (repeat' apply And.intro) <;> first | exact trivial | rfl | exact wr_succ _ (by omega) | assumption | exact decide_eq_false (by assumption) | exact decide_eq_true (by assumption)
    · conv => whnf
      rw [← hI2, any_end (by simp at h2; omega)]
end Go.Proofs.Ytfpgjaallhpddab
