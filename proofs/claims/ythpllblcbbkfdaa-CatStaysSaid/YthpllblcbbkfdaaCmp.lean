/- The walks of cmp.Or, and of cmp.Compare at texts. Own work. -/
import Derived.Test.YthpllblcbbkfdaaOrdT
set_option linter.unusedVariables false
set_option maxRecDepth 100000
namespace Go.Proofs.Ythpllblcbbkfdaa
open Go Go.RowKit OE

abbrev ZD : D := .int .i64
def orI : List Int → Int
  | [] => 0
  | x :: l => if x = 0 then orI l else x

theorem orI_step {l : List Int} {i : Nat} (h : i < l.length) : orI (l.drop i) = if l[i] = 0 then orI (l.drop (i + 1)) else l[i] := by
  rw [List.drop_eq_getElem_cons h]; rfl
theorem cmp_Or (l : List Int) : FnD Try.prog 108 [.c (.dat (.int .i64) l)] (· = .c (.int .i64 (orI l))) := by
  refine fn0 Try.func108 rfl rfl rfl ?_
  conv => whnf
  intro _
  conv => whnf
  refine loop0 (α := Nat) (fun i => i ≤ l.length ∧ orI (l.drop i) = orI l)
    (fun i => ⟨[(3, .c (.int .i64 0)), (6, .c (.dat (.int .i64) l)), (7, .c (.int .i64 l.length)), (8, .c (.int .i64 i))], [], 0⟩) (fun i => l.length - i) ⟨0, ⟨by omega, rfl⟩, ?_⟩ ?_
  · (conv => whnf); refine ⟨rfl, ?_, ?_, ?_⟩ <;> (repeat' apply And.intro) <;> first | exact trivial | rfl | exact wr_succ _ (by omega) | assumption | exact decide_eq_false (by assumption) | exact decide_eq_true (by assumption)
  rintro i ⟨hI1, hI2⟩
  conv => whnf
  refine ⟨fun h2 => ?_, fun h2 => ?_⟩
  · have h2 : i < l.length := by simp at h2; omega
    rw [orI_step h2] at hI2
    conv => whnf
    try (intro _; conv => whnf)
    refine ⟨by omega, ?_⟩
    rw [gt_nat (d := ZD) l i h2]
    conv => whnf
    refine ⟨fun h3 => ?_, fun h3 => ?_⟩
    · conv => whnf
      simp at h3
      rw [if_neg h3] at hI2
      rw [hI2]
    · conv => whnf
      simp at h3
      rw [if_pos h3] at hI2
      refine ⟨i + 1, ⟨⟨by omega, hI2⟩, by omega⟩, ?_⟩
      (conv => whnf); refine ⟨rfl, ?_, ?_, ?_⟩ <;> (repeat' apply And.intro) <;> first | exact trivial | rfl | exact wr_succ _ (by omega) | assumption | exact decide_eq_false (by assumption) | exact decide_eq_true (by assumption)
  · conv => whnf
    rw [← hI2, List.drop_of_length_le (by simp at h2; omega)]
    rfl

/-- the order of texts, as a number -/
def cmpT (a b : List UInt8) : Int := if Op.bytesLess a b = true then -1 else if Op.bytesLess b a = true then 1 else 0
theorem isNaN_string (a : List UInt8) : FnD Try.prog 133 [.c (.str a)] (· = .c (.bool (.sym false))) := by
  refine fn0 Try.func133 rfl rfl rfl ?_
  conv => whnf
  simp
theorem cmp_string (a b : List UInt8) : FnD Try.prog 109 [.c (.str a), .c (.str b)] (· = .c (.int .i64 (cmpT a b))) := by
  refine fn0 Try.func109 rfl rfl rfl ?_
  conv => whnf
  refine call1 (isNaN_string a) rfl ?_
  conv => whnf
  refine call1 (isNaN_string b) rfl ?_
  conv => whnf
  refine fk rfl ?_
  conv => whnf
  refine fk rfl ?_
  conv => whnf
  refine ⟨fun h1 => ?_, fun h1 => ?_⟩
  · conv => whnf
    rw [cmpT, if_pos h1]
  conv => whnf
  refine ⟨fun h2 => ?_, fun h2 => ?_⟩
  · conv => whnf
    have h3 : Op.bytesLess b a = true := by
      have := bl_not b a
      rw [h1] at this
      rcases bl_tri a b with h | h | h
      · rw [h1] at h; cases h
      · subst h; simp [h1] at h2
      · exact h
    rw [cmpT, if_neg (by simp [h1]), if_pos h3]
  · conv => whnf
    have h3 : Op.bytesLess b a = false := by
      rcases bl_tri a b with h | h | h
      · rw [h1] at h; cases h
      · subst h; exact h1
      · simp [h1] at h2; subst h2; exact h1
    rw [cmpT, if_neg (by simp [h1]), if_neg (by simp [h3])]
theorem cmpT_zero (a b : List UInt8) : cmpT a b = 0 ↔ a = b := by
  unfold cmpT
  rcases bl_tri a b with h | h | h
  · rw [if_pos h]
    exact ⟨fun h => (by cases h), fun e => by subst e; rw [bytesLess_irr] at h; cases h⟩
  · subst h; rw [bytesLess_irr]; simp
  · have h1 : ¬ Op.bytesLess a b = true := fun h' => by
      have := bl_trans h h'
      rw [bytesLess_irr] at this; cases this
    rw [if_neg h1, if_pos h]
    exact ⟨fun h => (by cases h), fun e => by subst e; rw [bytesLess_irr] at h; cases h⟩
end Go.Proofs.Ythpllblcbbkfdaa
