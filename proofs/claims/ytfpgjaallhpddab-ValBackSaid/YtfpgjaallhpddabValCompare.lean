/- The walks of val.Compare and of what it calls. Own work. -/
import Derived.Test.YtfpgjaallhpddabRuleParts
set_option linter.unusedVariables false
set_option maxRecDepth 100000
namespace Go.Proofs.Ytfpgjaallhpddab
open Go Go.RowKit OE

def cmpI (a b : Int) : Int := if a < b then -1 else if b < a then 1 else 0
abbrev ZD : D := .int .i64
def orI : List Int → Int
  | [] => 0
  | x :: l => if x = 0 then orI l else x

theorem orI_step {l : List Int} {i : Nat} (h : i < l.length) : orI (l.drop i) = if l[i] = 0 then orI (l.drop (i + 1)) else l[i] := by
  rw [List.drop_eq_getElem_cons h]; rfl
theorem cmpB_eq : ∀ a b : List UInt8, Lib.compareBytes a b = if Op.bytesLess a b = true then -1 else if a = b then 0 else 1
  | [], [] => rfl
  | [], _ :: _ => rfl
  | _ :: _, [] => rfl
  | a :: l, b :: m => by
    have ih := cmpB_eq l m
    simp only [Lib.compareBytes, Op.bytesLess]
    by_cases h : a < b
    · simp [h]
    · by_cases h2 : b < a
      · have hne : a ≠ b := fun e => by subst e; exact h h2
        simp [h, h2, hne]
      · have e : a = b := UInt8.le_antisymm (UInt8.not_lt.1 h2) (UInt8.not_lt.1 h)
        subst e
        simp [h, ih]
theorem val_cmp0 (x y : Int) (s : List UInt8) (x' y' : Int) (s' : List UInt8) : orI [cmpI x x', cmpI y y', Lib.compareBytes s s'] =
    if (decide (x < x') || (decide (x = x') && (decide (y < y') || (decide (y = y') && Op.bytesLess s s')))) = true then -1 else if (decide (x = x') && (decide (y = y') && decide (s = s'))) = true then 0 else 1 := by
  rw [cmpB_eq]
  unfold cmpI
  simp only [orI]
  by_cases h1 : x = x'
  · subst h1
    by_cases h2 : y = y'
    · subst h2
      by_cases h3 : Op.bytesLess s s' = true
      · simp [h3]
      · by_cases h4 : s = s'
        · subst h4; simp [h3]
        · simp [h3, h4]
    · by_cases h5 : y < y'
      · simp [h5]
      · have : y' < y := by omega
        simp [h5, h2, this]
  · by_cases h5 : x < x'
    · simp [h5]
    · have : x' < x := by omega
      simp [h5, h1, this]
theorem val_cmp (a b : VD.T) : orI [cmpI a.1 b.1, cmpI a.2.1 b.2.1, Lib.compareBytes a.2.2 b.2.2] = cmpV a b := val_cmp0 a.1 a.2.1 a.2.2 b.1 b.2.1 b.2.2

end Go.Proofs.Ytfpgjaallhpddab
