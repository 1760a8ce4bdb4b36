/- The walk of the reference's Broken and Keeps. Own work. -/
import Derived.Test.YtfpgjaallhpddabRuleKeeps
set_option linter.unusedVariables false
set_option maxRecDepth 100000
namespace Go.Proofs.Ytfpgjaallhpddab
open Go Go.RowKit OE

theorem bytesLess_irr : ∀ x : List UInt8, Op.bytesLess x x = false
  | [] => rfl
  | a :: l => by simp [Op.bytesLess, bytesLess_irr l]
theorem cmpV_zero (a b : VD.T) : decide (cmpV a b = 0) = VD.eqb a b := by
  have hir : ltV a a = false := by simp [ltV, bytesLess_irr]
  unfold cmpV
  by_cases h : VD.eqb a b = true
  · have e := (D.eqb_iff VD a b).1 h
    subst e
    rw [hir, h]
    simp
  · rw [if_neg h]
    have : VD.eqb a b = false := by simpa using h
    rw [this]
    split <;> simp

/-- the i-th node has what another one has -/
def brkU (ty nm : List UInt8) (nodes : List ND.T) (i : Nat) : Prop := ∃ hi : i < nodes.length, nodes[i].2.1 = ty ∧ (getS nodes[i].2.2 nm).2 = true ∧
  ∃ k, ∃ hk : k < nodes.length, k ≠ i ∧ nodes[k].2.1 = ty ∧ (getS nodes[k].2.2 nm).2 = true ∧ (getS nodes[i].2.2 nm).1 = (getS nodes[k].2.2 nm).1
theorem vals_nodup (ty nm : List UInt8) (nodes : List ND.T) : (valsS ty nm nodes).Nodup ↔ ∀ i, ¬ brkU ty nm nodes i := by
  unfold valsS List.Nodup
  rw [List.pairwise_filterMap, List.pairwise_iff_getElem]
  constructor
  · rintro h i ⟨hi, h1, h2, k, hk, hki, h3, h4, h5⟩
    rcases Nat.lt_or_ge i k with hlt | hge
    · exact h i k hi hk hlt _ (by simp [h1, h2]) _ (by simp [h3, h4]) h5
    · exact h k i hk hi (by omega) _ (by simp [h3, h4]) _ (by simp [h1, h2]) h5.symm
  · intro h i j hi hj hij x hx y hy e
    simp only [Bool.and_eq_true, decide_eq_true_eq, Option.ite_none_right_eq_some, Option.some.injEq] at hx hy
    exact h i ⟨hi, hx.1.2, hx.1.1, j, hj, by omega, hy.1.2, hy.1.1, by rw [hx.2, hy.2, e]⟩

/-- the i-th edge is the first one of too many that go out of its node -/
def brkM (ty : List UInt8) (N : Int) (edges : List ED.T) (i : Nat) : Prop := ∃ hi : i < edges.length, edges[i].2.1 = ty ∧ N < (outS ty edges edges[i].2.2.1 : Int) ∧
  ∀ k (hk : k < edges.length), edges[k].2.1 = ty → edges[k].2.2.1 = edges[i].2.2.1 → i ≤ k
theorem most_first (ty : List UInt8) (N : Int) (edges : List ED.T) : (!edges.any fun e => decide (e.2.1 = ty) && decide (N < (outS ty edges e.2.2.1 : Int))) = true ↔ ∀ i, ¬ brkM ty N edges i := by
  simp only [Bool.not_eq_true', List.any_eq_false, Bool.and_eq_true, decide_eq_true_eq, not_and]
  constructor
  · rintro h i ⟨hi, h1, h2, _⟩
    exact h _ (List.getElem_mem hi) h1 h2
  · intro h e he h1 h2
    obtain ⟨i, hi, rfl⟩ := List.getElem_of_mem he
    have least : ∀ i, ∀ hi : i < edges.length, edges[i].2.1 = ty → N < (outS ty edges edges[i].2.2.1 : Int) → False := by
      intro i
      induction i using Nat.strongRecOn with
      | _ i ih =>
        intro hi g1 g2
        refine h i ⟨hi, g1, g2, fun k hk k1 k2 => ?_⟩
        rcases Nat.lt_or_ge k i with hlt | hge
        · exact (ih k hlt hk k1 (by rw [k2]; exact g2)).elim
        · exact hge
    exact least i hi h1 h2

/-- what is returned: nothing, or Ids -/
def brokP (ok : Prop) (s : SV) : Prop := ∃ xs : List Int, (s = .c (.dat (.int .i64) xs)) ∧ (xs = [] ↔ ok)

end Go.Proofs.Ytfpgjaallhpddab
