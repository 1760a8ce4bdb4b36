/- The walks of rule.Decode and of the reference's. Own work. -/
import Derived.Test.YtfpgjaallhpddabRuleEncode
import Derived.Test.YtfpgjaallhpddabNumRefGets
set_option linter.unusedVariables false
set_option maxRecDepth 100000
namespace Go.Proofs.Ytfpgjaallhpddab
open Go Go.RowKit OE

/-- a number that is no greater than a million -/
def gnS (s : List UInt8) (k : Int) : Option (Nat × Nat) := match Num.getN s k with | none => none | some p => if p.1 ≤ 1000000 then some p else none
/-- what a place holds, by its parts -/
def decP (s : List UInt8) (k : Int) : Option (RD.T × Nat) :=
  match gnS s k with
  | none => none
  | some (a, i1) =>
  match gnS s (k + i1) with
  | none => none
  | some (b, i2) =>
  match gnS s (k + i1 + i2) with
  | none => none
  | some (c, i3) =>
  match gnS s (k + i1 + i2 + i3) with
  | none => none
  | some (d, i4) =>
  match Num.getT s (k + i1 + i2 + i3 + i4) 16 with
  | none => none
  | some (t, i5) =>
  match Num.getT s (k + i1 + i2 + i3 + i4 + i5) 16 with
  | none => none
  | some (n, i6) =>
  match Num.getT s (k + i1 + i2 + i3 + i4 + i5 + i6) 16 with
  | none => none
  | some (f, i7) =>
  match Num.getT s (k + i1 + i2 + i3 + i4 + i5 + i6 + i7) 16 with
  | none => none
  | some (o, i8) => some ((((a : Nat) : Int), ((b : Nat) : Int), t, n, f, o, ((d : Nat) : Int), ((c : Nat) : Int)), i1 + i2 + i3 + i4 + i5 + i6 + i7 + i8)
/-- the rule that stands at a place -/
def decS (s : List UInt8) (k : Int) : Option (RD.T × Nat) := match decP s k with | none => none | some p => if okS p.1 = true then some p else none
def R0 : RD.T := RD.df
def decR (o : Option (RD.T × Nat)) : SV := .tup [(true, rc (o.getD (R0, 0)).1), (false, [.int .i64 ((o.getD (R0, 0)).2 : Nat)]), (false, [.bool (.sym o.isSome)])]

theorem gn_no {s : List UInt8} {k : Int} (h : (!(Num.getN s k).isSome || decide (1000000 < (((Num.getN s k).getD (0, 0)).1 : Int))) = true) : gnS s k = none := by
  unfold gnS
  revert h
  cases Num.getN s k with
  | none => intro _; rfl
  | some p => intro h; simp at h; exact if_neg (by omega)
theorem gn_yes {s : List UInt8} {k : Int} (h : (!(Num.getN s k).isSome || decide (1000000 < (((Num.getN s k).getD (0, 0)).1 : Int))) = false) (hs : s.length ≤ 1000000) :
    ∃ a i : Nat, Num.getN s k = some (a, i) ∧ gnS s k = some (a, i) ∧ IntKind.wrap .i64 (a : Int) = a ∧ IntKind.wrap .i64 (k + i) = k + i ∧ 0 ≤ k ∧ k + i ≤ s.length := by
  cases hg : Num.getN s k with
  | none => rw [hg] at h; simp at h
  | some p =>
    have hb := Num.getN_bd (m := p.1) (k := p.2) hg
    rw [hg] at h
    simp at h
    refine ⟨p.1, p.2, rfl, ?_, wr64 _ (by omega) (by omega), wr64 _ (by omega) (by omega), by omega, by omega⟩
    unfold gnS
    rw [hg]
    exact if_pos (by omega)
theorem gt_bd {s : List UInt8} {k : Int} {t : List UInt8} {i : Nat} (h : Num.getT s k 16 = some (t, i)) : 0 ≤ k ∧ k + i ≤ s.length := by
  unfold Num.getT at h
  cases hg : Num.getN s k with
  | none => rw [hg] at h; cases h
  | some p =>
    have hb := Num.getN_bd (m := p.1) (k := p.2) hg
    rw [hg] at h
    dsimp only at h
    split at h
    · cases h
    · simp only [Option.some.injEq, Prod.mk.injEq] at h
      omega
theorem gt_yes {s : List UInt8} {k : Int} (h : (!(Num.getT s k 16).isSome) = false) (hs : s.length ≤ 1000000) :
    ∃ (t : List UInt8) (i : Nat), Num.getT s k 16 = some (t, i) ∧ IntKind.wrap .i64 (k + i) = k + i ∧ 0 ≤ k ∧ k + i ≤ s.length := by
  cases hg : Num.getT s k 16 with
  | none => rw [hg] at h; simp at h
  | some p =>
    have hb := gt_bd (t := p.1) (i := p.2) hg
    exact ⟨p.1, p.2, rfl, wr64 _ (by omega) (by omega), by omega, by omega⟩
theorem gt_no {s : List UInt8} {k : Int} (h : (!(Num.getT s k 16).isSome) = true) : Num.getT s k 16 = none := by
  simpa using h

end Go.Proofs.Ytfpgjaallhpddab
