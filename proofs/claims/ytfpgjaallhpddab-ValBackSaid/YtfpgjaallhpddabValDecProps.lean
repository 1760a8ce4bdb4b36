/- What properties' bytes say; no program in sight. Own work. -/
import Derived.Test.YtfpgjaallhpddabValEncProps
import Derived.Test.YtfpgjaallhpddabValDecode
set_option linter.unusedVariables false
set_option maxRecDepth 100000
namespace Go.Proofs.Ytfpgjaallhpddab
open Go Go.RowKit OE

/-- n properties that stand from a place on, and how many bytes they have -/
def decL : Nat → List UInt8 → Int → Option (List PD.T × Nat)
  | 0, _, _ => some ([], 0)
  | n + 1, s, k => match Num.getT s k 16 with
    | none => none
    | some (t, i) => match decV s (k + i) with
      | none => none
      | some (v, j) => match decL n s (k + i + j) with
        | none => none
        | some (l, m) => some ((t, v) :: l, i + j + m)
def decPs (s : List UInt8) (k : Int) : Option (List PD.T × Nat) := match Num.getN s k with
  | none => none
  | some (n, i) => if 8 < n then none else match decL n s (k + i) with
    | none => none
    | some (l, m) => if propsS l = true then some (l, i + m) else none

/-- properties behind those that were read already -/
def joinD (done : List PD.T) (z : Nat) : Option (List PD.T × Nat) → Option (List PD.T × Nat)
  | none => none
  | some (l, m) => some (done ++ l, z + m)
theorem joinD_step (n : Nat) (s : List UInt8) (k : Int) (done : List PD.T) (z : Nat) : joinD done z (decL (n + 1) s k) = match Num.getT s k 16 with
    | none => none
    | some (t, i) => match decV s (k + i) with
      | none => none
      | some (v, j) => joinD (done ++ [(t, v)]) (z + (i + j)) (decL n s (k + i + j)) := by
  rw [decL]
  cases Num.getT s k 16 with
  | none => rfl
  | some p =>
    dsimp only
    cases decV s (k + p.2) with
    | none => rfl
    | some q =>
      dsimp only
      cases decL n s (k + p.2 + q.2) with
      | none => rfl
      | some r =>
        simp only [joinD, List.append_assoc, List.singleton_append, Nat.add_assoc]
theorem joinD_nil (o : Option (List PD.T × Nat)) : joinD [] 0 o = o := by
  cases o with
  | none => rfl
  | some p => simp [joinD]
theorem decV_bd {s : List UInt8} {k : Int} {v : VD.T} {j : Nat} (h : decV s k = some (v, j)) : 0 ≤ k ∧ k + j ≤ s.length := by
  unfold decV at h
  split at h
  · cases h
  · rename_i hr
    unfold decB at h
    split at h
    · simp only [Option.some.injEq, Prod.mk.injEq] at h; omega
    · split at h
      · split at h
        · rename_i h2; simp only [Option.some.injEq, Prod.mk.injEq] at h; omega
        · cases h
      · split at h
        · cases hg : Num.getN s (k + 1) with
          | none => rw [hg] at h; cases h
          | some p =>
            have hb := Num.getN_bd (m := p.1) (k := p.2) hg
            rw [hg] at h
            simp only [Option.some.injEq, Prod.mk.injEq] at h
            omega
        · split at h
          · cases hg : Num.getT s (k + 1) 1024 with
            | none => rw [hg] at h; cases h
            | some p =>
              have hb := getT_bd (t := p.1) (i := p.2) hg
              rw [hg] at h
              simp only [Option.some.injEq, Prod.mk.injEq] at h
              omega
          · cases h
theorem decV_kind {s : List UInt8} {k : Int} {v : VD.T} {j : Nat} (h : decV s k = some (v, j)) : (Lit.int .i64 v.1).wf = true := by
  unfold decV at h
  split at h
  · cases h
  · unfold decB at h
    split at h
    · simp only [Option.some.injEq, Prod.mk.injEq] at h; rw [← h.1]; rfl
    · split at h
      · split at h
        · simp only [Option.some.injEq, Prod.mk.injEq] at h; rw [← h.1]; rfl
        · cases h
      · split at h
        · cases hg : Num.getN s (k + 1) with
          | none => rw [hg] at h; cases h
          | some p =>
            rw [hg] at h
            simp only [Option.some.injEq, Prod.mk.injEq] at h
            rw [← h.1]; rfl
        · split at h
          · cases hg : Num.getT s (k + 1) 1024 with
            | none => rw [hg] at h; cases h
            | some p =>
              rw [hg] at h
              simp only [Option.some.injEq, Prod.mk.injEq] at h
              rw [← h.1]; rfl
          · cases h
end Go.Proofs.Ytfpgjaallhpddab
