/- The walks of the reference's Set and of few. Own work; written by genrefset.py. -/
import Derived.Test.YtfpgjaallhpddabValSet
set_option linter.unusedVariables false
set_option maxRecDepth 100000
namespace Go.Proofs.Ytfpgjaallhpddab
open Go Go.RowKit OE

def stepR (n : List UInt8) (v : VD.T) (st : List PD.T × Bool) (p : PD.T) : List PD.T × Bool :=
  if p.1 = n then st else if (!st.2 && geP n p) = true then (st.1 ++ [(n, v)] ++ [p], true) else (st.1 ++ [p], st.2)
def finR (n : List UInt8) (v : VD.T) (st : List PD.T × Bool) : List PD.T := if st.2 = true then st.1 else st.1 ++ [(n, v)]

theorem outP_cons (p : PD.T) (l : List PD.T) (n : List UInt8) : outP (p :: l) n = if p.1 = n then outP l n else p :: outP l n := by
  unfold outP
  by_cases h : p.1 = n
  · rw [if_pos h, List.filter_cons_of_neg (by simp [h])]
  · rw [if_neg h, List.filter_cons_of_pos (by simp [h])]
theorem foldR_put (n : List UInt8) (v : VD.T) : ∀ (l : List PD.T) (acc : List PD.T), l.foldl (stepR n v) (acc, true) = (acc ++ outP l n, true)
  | [], acc => by simp [outP]
  | p :: l, acc => by
    rw [List.foldl_cons, outP_cons]
    by_cases h : p.1 = n
    · rw [if_pos h, show stepR n v (acc, true) p = (acc, true) from if_pos h, foldR_put n v l acc]
    · rw [if_neg h, show stepR n v (acc, true) p = (acc ++ [p], true) from by unfold stepR; rw [if_neg h, if_neg (by simp)], foldR_put n v l _, List.append_assoc]
      rfl
theorem foldR_no (n : List UInt8) (v : VD.T) : ∀ (l : List PD.T) (acc : List PD.T), finR n v (l.foldl (stepR n v) (acc, false)) = acc ++ ((outP l n).take (idxP (outP l n) n) ++ [(n, v)] ++ (outP l n).drop (idxP (outP l n) n))
  | [], acc => by simp [outP, finR, idxP]
  | p :: l, acc => by
    rw [List.foldl_cons, outP_cons]
    by_cases h : p.1 = n
    · rw [if_pos h, show stepR n v (acc, false) p = (acc, false) from if_pos h, foldR_no n v l acc]
    · rw [if_neg h]
      by_cases hg : geP n p = true
      · rw [show stepR n v (acc, false) p = (acc ++ [(n, v)] ++ [p], true) from by unfold stepR; rw [if_neg h, if_pos (by simp [hg])], foldR_put n v l _]
        have hi : idxP (p :: outP l n) n = 0 := by unfold idxP; rw [List.findIdx_cons, hg]; rfl
        rw [hi]
        simp [finR]
      · have hg : geP n p = false := by simpa using hg
        rw [show stepR n v (acc, false) p = (acc ++ [p], false) from by unfold stepR; rw [if_neg h, if_neg (by simp [hg])], foldR_no n v l _]
        have hi : idxP (p :: outP l n) n = idxP (outP l n) n + 1 := by unfold idxP; rw [List.findIdx_cons, hg]; rfl
        rw [hi, List.take_succ_cons, List.drop_succ_cons]
        simp
theorem setP_fold (l : List PD.T) (n : List UInt8) (v : VD.T) : setP l n v = finR n v (l.foldl (stepR n v) ([], decide (v.1 = 0))) := by
  unfold setP
  by_cases h : v.1 = 0
  · rw [if_pos h, decide_eq_true h, foldR_put]
    simp [finR]
  · rw [if_neg h, decide_eq_false h, foldR_no]
    simp
theorem foldR_len (n : List UInt8) (v : VD.T) : ∀ (l : List PD.T) (st : List PD.T × Bool), (l.foldl (stepR n v) st).1.length ≤ st.1.length + l.length + (if st.2 = true then 0 else 1)
  | [], st => by simp
  | p :: l, st => by
    rw [List.foldl_cons]
    refine Nat.le_trans (foldR_len n v l _) ?_
    rw [List.length_cons]
    unfold stepR
    by_cases h : p.1 = n
    · rw [if_pos h]; omega
    · rw [if_neg h]
      by_cases hg : (!st.2 && geP n p) = true
      · rw [if_pos hg]
        have : st.2 = false := by simp at hg; exact hg.1
        simp only [List.length_append, List.length_singleton, if_true, this, Bool.false_eq_true, if_false]; omega
      · rw [if_neg hg]
        simp only [List.length_append, List.length_singleton]; omega

def refSt (l : List PD.T) (n : List UInt8) (v : VD.T) (i : Nat) (b : Bool) : List PD.T → St
  | [] => ⟨[(0, .c (.dat PD l)), (1, .c (.str n)), (5, .c (.ptr 0 0)), (7, .c (.val (.slice none 0 0))), (8, .c (.bool (.sym b))), (9, .c (.int .i64 i))], [(0, .cells 23 (vc v))], 1⟩
  | x :: xs => ⟨[(0, .c (.dat PD l)), (1, .c (.str n)), (5, .c (.ptr 0 0)), (7, .c (.row 1)), (8, .c (.bool (.sym b))), (9, .c (.int .i64 i))], [(0, .cells 23 (vc v)), (1, .row 41 PD (x :: xs))], 2⟩

theorem val_few (l : List PD.T) (hl : l.length ≤ 1000) : FnD Try.prog 12 [.c (.dat PD l)] (· = .c (.dat PD l)) := by
  refine fn0 Try.func12 rfl rfl rfl ?_
  conv => whnf
  refine ⟨by show (0 + l.length) * 48 ≤ 140737488355328; omega, ?_⟩
  conv => whnf
  rfl
end Go.Proofs.Ytfpgjaallhpddab
