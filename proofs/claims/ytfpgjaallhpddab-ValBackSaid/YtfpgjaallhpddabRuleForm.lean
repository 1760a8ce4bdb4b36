/- The walks of val.Get, rule.Form and of the reference's. Own work. -/
import Derived.Test.YtfpgjaallhpddabKeepGraph
import Derived.Test.YtfpgjaallhpddabValName
set_option linter.unusedVariables false
set_option maxRecDepth 100000
namespace Go.Proofs.Ytfpgjaallhpddab
open Go Go.RowKit OE

/-- a property's value -/
def getS : List PD.T → List UInt8 → VD.T × Bool
  | [], _ => (VD.df, false)
  | p :: l, n => if p.1 = n then (p.2, true) else getS l n
theorem getS_step {l : List PD.T} {n : List UInt8} {i : Nat} (h : i < l.length) : getS (l.drop i) n = if l[i].1 = n then (l[i].2, true) else getS (l.drop (i + 1)) n := by
  rw [List.drop_eq_getElem_cons h]; rfl
theorem getS_end {l : List PD.T} {n : List UInt8} {i : Nat} (h : l.length ≤ i) : getS (l.drop i) n = (VD.df, false) := by
  rw [List.drop_of_length_le h]; rfl

/-- has a rule a form? -/
def formS (r : RD.T) : Bool :=
  nameS r.2.2.1 &&
  if r.2.1 = 1 ∨ r.2.1 = 2 then nameS r.2.2.2.1 && decide (r.2.2.2.2.1 = []) && decide (r.2.2.2.2.2.1 = []) && decide (r.2.2.2.2.2.2.1 = 0)
  else if r.2.1 = 3 then nameS r.2.2.2.2.1 && nameS r.2.2.2.2.2.1 && decide (r.2.2.2.1 = []) && decide (r.2.2.2.2.2.2.1 = 0)
  else if r.2.1 = 4 then decide (r.2.2.2.1 = []) && decide (r.2.2.2.2.1 = []) && decide (r.2.2.2.2.2.1 = []) && decide (0 ≤ r.2.2.2.2.2.2.1) && decide (r.2.2.2.2.2.2.1 ≤ 1024)
  else false

end Go.Proofs.Ytfpgjaallhpddab
