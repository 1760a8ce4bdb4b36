/- The walks of rule.typeOf, rule.unique, and of the reference's is and Compare. Own work. -/
import Derived.Test.YtfpgjaallhpddabRuleForm
set_option linter.unusedVariables false
set_option maxRecDepth 100000
namespace Go.Proofs.Ytfpgjaallhpddab
open Go Go.RowKit OE

/-- the type of the first node with an Id -/
def typeS : List ND.T → Int → List UInt8 × Bool
  | [], _ => ([], false)
  | p :: l, n => if p.1 = n then (p.2.1, true) else typeS l n
theorem typeS_step {l : List ND.T} {n : Int} {i : Nat} (h : i < l.length) : typeS (l.drop i) n = if l[i].1 = n then (l[i].2.1, true) else typeS (l.drop (i + 1)) n := by
  rw [List.drop_eq_getElem_cons h]; rfl
theorem typeS_end {l : List ND.T} {n : Int} {i : Nat} (h : l.length ≤ i) : typeS (l.drop i) n = ([], false) := by
  rw [List.drop_of_length_le h]; rfl

def isTS (l : List ND.T) (n : Int) (t : List UInt8) : Bool := (typeS l n).2 && decide ((typeS l n).1 = t)
/-- is a value ahead of another one? -/
def ltV (a b : VD.T) : Bool := decide (a.1 < b.1) || (decide (a.1 = b.1) && (decide (a.2.1 < b.2.1) || (decide (a.2.1 = b.2.1) && Op.bytesLess a.2.2 b.2.2)))
def cmpV (a b : VD.T) : Int := if ltV a b = true then -1 else if VD.eqb a b = true then 0 else 1
/-- the values of a name that nodes of a type have -/
def valsS (ty nm : List UInt8) (l : List ND.T) : List VD.T := l.filterMap fun n => if (getS n.2.2 nm).2 && decide (n.2.1 = ty) then some (getS n.2.2 nm).1 else none
theorem valsS_step (ty nm : List UInt8) {l : List ND.T} {i : Nat} (h : i < l.length) :
    valsS ty nm (l.take (i + 1)) = valsS ty nm (l.take i) ++ (if ((getS l[i].2.2 nm).2 && decide (l[i].2.1 = ty)) = true then [(getS l[i].2.2 nm).1] else []) := by
  rw [take_step h, valsS, List.filterMap_append]
  congr 1
  simp only [List.filterMap_cons, List.filterMap_nil]
  split
  · rename_i h1; split at h1
    · cases h1
    · rename_i h2; rw [if_neg h2]
  · rename_i h1; split at h1
    · rename_i h2; cases h1; rw [if_pos h2]
    · cases h1

theorem get_ok : ∀ {l : List PD.T} {nm : List UInt8}, (∀ p ∈ l, Wf PD p) → VD.ok (getS l nm).1
  | [], _, _ => ⟨by show (Lit.int .i64 0).wf = true; decide, by show (Lit.int .i64 0).wf = true; decide, by show (0 : Nat) ≤ 9223372036854775807; omega⟩
  | p :: l, nm, h => by
    unfold getS
    split
    · obtain ⟨h1, h2, h3, h4⟩ := h p (by simp)
      have h4 : p.2.2.2.length ≤ 140737488351232 := h4
      exact ⟨h2, h3, by show p.2.2.2.length ≤ 9223372036854775807; omega⟩
    · exact get_ok fun q hq => h q (by simp [hq])

end Go.Proofs.Ytfpgjaallhpddab
