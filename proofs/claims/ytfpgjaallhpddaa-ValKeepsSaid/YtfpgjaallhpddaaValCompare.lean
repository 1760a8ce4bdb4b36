/- The walks of val.Compare and of what it calls. Own work. -/
import Derived.Test.YtfpgjaallhpddaaRuleParts
set_option linter.unusedVariables false
set_option maxRecDepth 100000
namespace Go.Proofs.Ytfpgjaallhpddaa
open Go Go.RowKit OE

def cmpI (a b : Int) : Int := if a < b then -1 else if b < a then 1 else 0
abbrev ZD : D := .int .i64
def orI : List Int → Int
  | [] => 0
  | x :: l => if x = 0 then orI l else x

theorem isNaN_int (a : Int) : FnD Try.prog 113 [.c (.int .i64 a)] (· = .c (.bool (.sym false))) := by
  refine fn0 Try.func113 rfl rfl rfl ?_
  conv => whnf
  simp
theorem isNaN_int64 (a : Int) : FnD Try.prog 114 [.c (.int .i64 a)] (· = .c (.bool (.sym false))) := by
  refine fn0 Try.func114 rfl rfl rfl ?_
  conv => whnf
  simp
theorem cmp_int (a b : Int) : FnD Try.prog 101 [.c (.int .i64 a), .c (.int .i64 b)] (· = .c (.int .i64 (cmpI a b))) := by
  refine fn0 Try.func101 rfl rfl rfl ?_
  conv => whnf
  refine call1 (isNaN_int a) rfl ?_
  conv => whnf
  refine call1 (isNaN_int b) rfl ?_
  conv => whnf
  refine fk rfl ?_
  conv => whnf
  refine fk rfl ?_
  conv => whnf
  refine ⟨fun h1 => ?_, fun h1 => ?_⟩
  · conv => whnf
    simp at h1; simp [cmpI, h1]
  conv => whnf
  refine ⟨fun h2 => ?_, fun h2 => ?_⟩
  · conv => whnf
    simp at h1 h2; simp [cmpI, h2]; omega
  · conv => whnf
    simp at h1 h2; rw [cmpI, if_neg (by omega), if_neg (by omega)]
theorem cmp_int64 (a b : Int) : FnD Try.prog 102 [.c (.int .i64 a), .c (.int .i64 b)] (· = .c (.int .i64 (cmpI a b))) := by
  refine fn0 Try.func102 rfl rfl rfl ?_
  conv => whnf
  refine call1 (isNaN_int64 a) rfl ?_
  conv => whnf
  refine call1 (isNaN_int64 b) rfl ?_
  conv => whnf
  refine fk rfl ?_
  conv => whnf
  refine fk rfl ?_
  conv => whnf
  refine ⟨fun h1 => ?_, fun h1 => ?_⟩
  · conv => whnf
    simp at h1; simp [cmpI, h1]
  conv => whnf
  refine ⟨fun h2 => ?_, fun h2 => ?_⟩
  · conv => whnf
    simp at h1 h2; simp [cmpI, h2]; omega
  · conv => whnf
    simp at h1 h2; rw [cmpI, if_neg (by omega), if_neg (by omega)]
theorem bytealg_Compare (a b : List UInt8) : FnD Try.prog 115 [.c (.str a), .c (.str b)] (· = .c (.int .i64 (Lib.compareBytes a b))) := by
  refine fn0 Try.func115 rfl rfl rfl ?_
  conv => whnf
  refine cmps0 Try.func118 rfl rfl (by kernel_rfl) (by kernel_rfl) ?_
  conv => whnf
theorem strings_Compare (a b : List UInt8) : FnD Try.prog 103 [.c (.str a), .c (.str b)] (· = .c (.int .i64 (Lib.compareBytes a b))) := by
  refine fn0 Try.func103 rfl rfl rfl ?_
  conv => whnf
  refine call1 (bytealg_Compare a b) rfl ?_
  conv => whnf
theorem orI_step {l : List Int} {i : Nat} (h : i < l.length) : orI (l.drop i) = if l[i] = 0 then orI (l.drop (i + 1)) else l[i] := by
  rw [List.drop_eq_getElem_cons h]; rfl
theorem cmp_Or (l : List Int) : FnD Try.prog 100 [.c (.dat (.int .i64) l)] (· = .c (.int .i64 (orI l))) := by
  refine fn0 Try.func100 rfl rfl rfl ?_
  conv => whnf
  intro _
  conv => whnf
  refine loop0 (α := Nat) (fun i => i ≤ l.length ∧ orI (l.drop i) = orI l)
    (fun i => ⟨[(3, .c (.int .i64 0)), (6, .c (.dat (.int .i64) l)), (7, .c (.int .i64 l.length)), (8, .c (.int .i64 i))], [], 0⟩) (fun i => l.length - i) ⟨0, ⟨by omega, rfl⟩, ?_⟩ ?_
  · (conv => whnf); refine ⟨rfl, ?_, ?_, ?_⟩ <;> (repeat' apply And.intro) <;> first | exact trivial | rfl | exact wr_succ _ (by omega) | assumption | exact decide_eq_false (by assumption) | exact decide_eq_true (by assumption)
  rintro i ⟨hI1, hI2⟩
  conv => whnf
  refine ⟨fun h2 => ?_, fun h2 => ?_⟩
  · have h2 : i < l.length := by simp at h2; omega
    rw [orI_step h2] at hI2
    conv => whnf
    try (intro _; conv => whnf)
    refine ⟨by omega, ?_⟩
    rw [gt_nat (d := ZD) l i h2]
    conv => whnf
    refine ⟨fun h3 => ?_, fun h3 => ?_⟩
    · conv => whnf
      simp at h3
      rw [if_neg h3] at hI2
      rw [hI2]
    · conv => whnf
      simp at h3
      rw [if_pos h3] at hI2
      refine ⟨i + 1, ⟨⟨by omega, hI2⟩, by omega⟩, ?_⟩
      (conv => whnf); refine ⟨rfl, ?_, ?_, ?_⟩ <;> (repeat' apply And.intro) <;> first | exact trivial | rfl | exact wr_succ _ (by omega) | assumption | exact decide_eq_false (by assumption) | exact decide_eq_true (by assumption)
  · conv => whnf
    rw [← hI2, List.drop_of_length_le (by simp at h2; omega)]
    rfl

theorem cmpB_eq : ∀ a b : List UInt8, Lib.compareBytes a b = if Op.bytesLess a b = true then -1 else if a = b then 0 else 1
  | [], [] => rfl
  | [], _ :: _ => rfl
  | _ :: _, [] => rfl
  | a :: l, b :: m => by
    have ih := cmpB_eq l m
    simp only [Lib.compareBytes, Op.bytesLess]
    by_cases h : a < b
    · simp [h]
    · by_cases h2 : b < a
      · have hne : a ≠ b := fun e => by subst e; exact h h2
        simp [h, h2, hne]
      · have e : a = b := UInt8.le_antisymm (UInt8.not_lt.1 h2) (UInt8.not_lt.1 h)
        subst e
        simp [h, ih]
theorem val_cmp0 (x y : Int) (s : List UInt8) (x' y' : Int) (s' : List UInt8) : orI [cmpI x x', cmpI y y', Lib.compareBytes s s'] =
    if (decide (x < x') || (decide (x = x') && (decide (y < y') || (decide (y = y') && Op.bytesLess s s')))) = true then -1 else if (decide (x = x') && (decide (y = y') && decide (s = s'))) = true then 0 else 1 := by
  rw [cmpB_eq]
  unfold cmpI
  simp only [orI]
  by_cases h1 : x = x'
  · subst h1
    by_cases h2 : y = y'
    · subst h2
      by_cases h3 : Op.bytesLess s s' = true
      · simp [h3]
      · by_cases h4 : s = s'
        · subst h4; simp [h3]
        · simp [h3, h4]
    · by_cases h5 : y < y'
      · simp [h5]
      · have : y' < y := by omega
        simp [h5, h2, this]
  · by_cases h5 : x < x'
    · simp [h5]
    · have : x' < x := by omega
      simp [h5, h1, this]
theorem val_cmp (a b : VD.T) : orI [cmpI a.1 b.1, cmpI a.2.1 b.2.1, Lib.compareBytes a.2.2 b.2.2] = cmpV a b := val_cmp0 a.1 a.2.1 a.2.2 b.1 b.2.1 b.2.2

theorem val_Compare (a b : VD.T) : FnD Try.prog 58 [.agg (vc a), .agg (vc b)] (· = .c (.int .i64 (cmpV a b))) := by
  rw [← val_cmp]
  refine fn0 Try.func58 rfl rfl rfl ?_
  conv => whnf
  refine any0 ?_
  conv => whnf
  refine callr0 (cmp_int a.1 b.1) rfl ?_
  conv => whnf
  refine callr0 (cmp_int64 a.2.1 b.2.1) rfl ?_
  conv => whnf
  refine callr0 (strings_Compare a.2.2 b.2.2) rfl ?_
  conv => whnf
  refine lendr0 (cmp_Or [cmpI a.1 b.1, cmpI a.2.1 b.2.1, Lib.compareBytes a.2.2 b.2.2]) rfl rfl ?_
  conv => whnf
  refine ⟨.inl (by kernel_rfl), after0 ?_⟩
  conv => whnf
end Go.Proofs.Ytfpgjaallhpddaa
