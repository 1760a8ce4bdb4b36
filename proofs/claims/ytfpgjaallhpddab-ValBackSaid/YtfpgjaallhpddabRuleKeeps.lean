/- The walk of rule.Keeps. Own work. -/
import Derived.Test.YtfpgjaallhpddabRuleParts
set_option linter.unusedVariables false
set_option maxRecDepth 100000
namespace Go.Proofs.Ytfpgjaallhpddab
open Go Go.RowKit OE

/-- how many edges of a type go out of a node -/
def outS (ty : List UInt8) (es : List ED.T) (k : Int) : Nat := es.countP fun e => decide (e.2.1 = ty) && decide (e.2.2.1 = k)
def ruleS (nodes : List ND.T) (edges : List ED.T) (r : RD.T) : Bool :=
  if r.2.1 = 1 then decide (valsS r.2.2.1 r.2.2.2.1 nodes).Nodup
  else if r.2.1 = 2 then !nodes.any fun n => decide (n.2.1 = r.2.2.1) && !(getS n.2.2 r.2.2.2.1).2
  else if r.2.1 = 3 then !edges.any fun e => decide (e.2.1 = r.2.2.1) && !(isTS nodes e.2.2.1 r.2.2.2.2.1 && isTS nodes e.2.2.2.1 r.2.2.2.2.2.1)
  else !edges.any fun e => decide (e.2.1 = r.2.2.1) && decide (r.2.2.2.2.2.2.1 < (outS r.2.2.1 edges e.2.2.1 : Int))
/-- does a graph keep a rule? -/
def keepsS (nodes : List ND.T) (edges : List ED.T) (r : RD.T) : Bool := formS r && ruleS nodes edges r

theorem outS_step {ty : List UInt8} {es : List ED.T} {i : Nat} (h : i < es.length) (k : Int) : outS ty (es.take (i + 1)) k = outS ty (es.take i) k + (if (decide (es[i].2.1 = ty) && decide (es[i].2.2.1 = k)) = true then 1 else 0) := by
  rw [take_step h, outS, outS, List.countP_append, List.countP_singleton]
/-- that no node has too many, told by the counts -/
theorem most_iff {ty : List UInt8} {edges : List ED.T} {N : Int} (hN : 0 ≤ N) {es : List (Int × Int)} (hp : es.Pairwise (fun p q => p.1 ≠ q.1)) (hm : ∀ k : Int, mval (kd := .int .i64) (vd := .int .i64) es k = (outS ty edges k : Int)) :
    (!edges.any fun e => decide (e.2.1 = ty) && decide (N < (outS ty edges e.2.2.1 : Int))) = true ↔ ∀ (i : Nat) (h : i < es.length), es[i].2 ≤ N := by
  simp only [Bool.not_eq_true', List.any_eq_false, Bool.and_eq_true, decide_eq_true_eq, not_and, Int.not_lt]
  constructor
  · intro h i hi
    have h1 : mval (kd := .int .i64) (vd := .int .i64) es es[i].1 = es[i].2 := mval_mem (kd := .int .i64) (vd := .int .i64) hp hi
    rw [hm] at h1
    rcases Nat.eq_zero_or_pos (outS ty edges es[i].1) with h0 | h0
    · rw [← show ((outS ty edges es[i].1 : Nat) : Int) = es[i].2 from h1, h0]; exact hN
    · obtain ⟨e, he, hpe⟩ := List.countP_pos_iff.1 h0
      simp only [Bool.and_eq_true, decide_eq_true_eq] at hpe
      have := h e he hpe.1
      rw [hpe.2] at this
      rw [← show ((outS ty edges es[i].1 : Nat) : Int) = es[i].2 from h1]
      exact this
  · intro h e he hty
    have hpos : 0 < outS ty edges e.2.2.1 := List.countP_pos_iff.2 ⟨e, he, by simp [hty]⟩
    obtain ⟨i, hi, hie⟩ := mval_get (kd := .int .i64) (vd := .int .i64) (es := es) (k := e.2.2.1) (by rw [hm]; show ((outS ty edges e.2.2.1 : Nat) : Int) ≠ 0; omega)
    have := h i hi
    rw [hie, hm] at this
    exact this

end Go.Proofs.Ytfpgjaallhpddab
