/- The walks of rule.Decode and of the reference's. Own work. -/
import Derived.Test.YtnldokebmfojeaaDoorRuleEncode
import Derived.Test.YtnldokebmfojeaaDoorNumRefGets
set_option linter.unusedVariables false
set_option maxRecDepth 100000
namespace Go.Proofs.YtnldokebmfojeaaDoor
open Go Go.RowKit OE

/-- a number that is no greater than a million -/
def gnS (s : List UInt8) (k : Int) : Option (Nat × Nat) := match Num.getN s k with | none => none | some p => if p.1 ≤ 1000000 then some p else none
/-- what a place holds, by its parts -/
def decP (s : List UInt8) (k : Int) : Option (RD.T × Nat) :=
  match gnS s k with
  | none => none
  | some (a, i1) =>
  match gnS s (k + i1) with
  | none => none
  | some (b, i2) =>
  match gnS s (k + i1 + i2) with
  | none => none
  | some (c, i3) =>
  match gnS s (k + i1 + i2 + i3) with
  | none => none
  | some (d, i4) =>
  match Num.getT s (k + i1 + i2 + i3 + i4) 16 with
  | none => none
  | some (t, i5) =>
  match Num.getT s (k + i1 + i2 + i3 + i4 + i5) 16 with
  | none => none
  | some (n, i6) =>
  match Num.getT s (k + i1 + i2 + i3 + i4 + i5 + i6) 16 with
  | none => none
  | some (f, i7) =>
  match Num.getT s (k + i1 + i2 + i3 + i4 + i5 + i6 + i7) 16 with
  | none => none
  | some (o, i8) => some ((((a : Nat) : Int), ((b : Nat) : Int), t, n, f, o, ((d : Nat) : Int), ((c : Nat) : Int)), i1 + i2 + i3 + i4 + i5 + i6 + i7 + i8)
/-- the rule that stands at a place -/
def decS (s : List UInt8) (k : Int) : Option (RD.T × Nat) := match decP s k with | none => none | some p => if okS p.1 = true then some p else none
def R0 : RD.T := RD.df
def decR (o : Option (RD.T × Nat)) : SV := .tup [(true, rc (o.getD (R0, 0)).1), (false, [.int .i64 ((o.getD (R0, 0)).2 : Nat)]), (false, [.bool (.sym o.isSome)])]

theorem gn_no {s : List UInt8} {k : Int} (h : (!(Num.getN s k).isSome || decide (1000000 < (((Num.getN s k).getD (0, 0)).1 : Int))) = true) : gnS s k = none := by
  unfold gnS
  revert h
  cases Num.getN s k with
  | none => intro _; rfl
  | some p => intro h; simp at h; exact if_neg (by omega)
theorem gn_yes {s : List UInt8} {k : Int} (h : (!(Num.getN s k).isSome || decide (1000000 < (((Num.getN s k).getD (0, 0)).1 : Int))) = false) (hs : s.length ≤ 1000000) :
    ∃ a i : Nat, Num.getN s k = some (a, i) ∧ gnS s k = some (a, i) ∧ IntKind.wrap .i64 (a : Int) = a ∧ IntKind.wrap .i64 (k + i) = k + i ∧ 0 ≤ k ∧ k + i ≤ s.length := by
  cases hg : Num.getN s k with
  | none => rw [hg] at h; simp at h
  | some p =>
    have hb := Num.getN_bd (m := p.1) (k := p.2) hg
    rw [hg] at h
    simp at h
    refine ⟨p.1, p.2, rfl, ?_, wr64 _ (by omega) (by omega), wr64 _ (by omega) (by omega), by omega, by omega⟩
    unfold gnS
    rw [hg]
    exact if_pos (by omega)
theorem gt_bd {s : List UInt8} {k : Int} {t : List UInt8} {i : Nat} (h : Num.getT s k 16 = some (t, i)) : 0 ≤ k ∧ k + i ≤ s.length := by
  unfold Num.getT at h
  cases hg : Num.getN s k with
  | none => rw [hg] at h; cases h
  | some p =>
    have hb := Num.getN_bd (m := p.1) (k := p.2) hg
    rw [hg] at h
    dsimp only at h
    split at h
    · cases h
    · simp only [Option.some.injEq, Prod.mk.injEq] at h
      omega
theorem gt_yes {s : List UInt8} {k : Int} (h : (!(Num.getT s k 16).isSome) = false) (hs : s.length ≤ 1000000) :
    ∃ (t : List UInt8) (i : Nat), Num.getT s k 16 = some (t, i) ∧ IntKind.wrap .i64 (k + i) = k + i ∧ 0 ≤ k ∧ k + i ≤ s.length := by
  cases hg : Num.getT s k 16 with
  | none => rw [hg] at h; simp at h
  | some p =>
    have hb := gt_bd (t := p.1) (i := p.2) hg
    exact ⟨p.1, p.2, rfl, wr64 _ (by omega) (by omega), by omega, by omega⟩
theorem gt_no {s : List UInt8} {k : Int} (h : (!(Num.getT s k 16).isSome) = true) : Num.getT s k 16 = none := by
  simpa using h

theorem rule_Decode (s : List UInt8) (k : Int) (hs : s.length ≤ 1000000) : FnD Tryd.prog 74 [.c (.str s), .c (.int .i64 k)] (· = decR (decS s k)) := by
  refine fn0 Tryd.func74 rfl rfl rfl ?_
  conv => whnf
  refine unroll0 5 ?_
  conv => whnf
  refine tk rfl ?_
  conv => whnf
  refine call1 (num_Get s (k) (by omega)) rfl ?_
  conv => whnf
  refine ⟨fun c1 => ?_, fun c1 => ?_⟩
  · conv => whnf
    have hd : decS s k = none := by simp only [decS, decP, gn_no c1]
    rw [hd]
    rfl
  obtain ⟨a1, i1, g1, h1, w1, u1, l1, m1⟩ := gn_yes c1 hs
  clear c1
  rw [g1]
  dsimp only [Option.getD_some, Option.isSome_some]
  conv => whnf
  rw [w1, u1]
  refine tk rfl ?_
  conv => whnf
  refine call1 (num_Get s (k + i1) (by omega)) rfl ?_
  conv => whnf
  refine ⟨fun c2 => ?_, fun c2 => ?_⟩
  · conv => whnf
    have hd : decS s k = none := by simp only [decS, decP, h1, gn_no c2]
    rw [hd]
    rfl
  obtain ⟨a2, i2, g2, h2, w2, u2, l2, m2⟩ := gn_yes c2 hs
  clear c2
  rw [g2]
  dsimp only [Option.getD_some, Option.isSome_some]
  conv => whnf
  rw [w2, u2]
  refine tk rfl ?_
  conv => whnf
  refine call1 (num_Get s (k + i1 + i2) (by omega)) rfl ?_
  conv => whnf
  refine ⟨fun c3 => ?_, fun c3 => ?_⟩
  · conv => whnf
    have hd : decS s k = none := by simp only [decS, decP, h1, h2, gn_no c3]
    rw [hd]
    rfl
  obtain ⟨a3, i3, g3, h3, w3, u3, l3, m3⟩ := gn_yes c3 hs
  clear c3
  rw [g3]
  dsimp only [Option.getD_some, Option.isSome_some]
  conv => whnf
  rw [w3, u3]
  refine tk rfl ?_
  conv => whnf
  refine call1 (num_Get s (k + i1 + i2 + i3) (by omega)) rfl ?_
  conv => whnf
  refine ⟨fun c4 => ?_, fun c4 => ?_⟩
  · conv => whnf
    have hd : decS s k = none := by simp only [decS, decP, h1, h2, h3, gn_no c4]
    rw [hd]
    rfl
  obtain ⟨a4, i4, g4, h4, w4, u4, l4, m4⟩ := gn_yes c4 hs
  clear c4
  rw [g4]
  dsimp only [Option.getD_some, Option.isSome_some]
  conv => whnf
  rw [w4, u4]
  refine fk rfl ?_
  conv => whnf
  refine unroll0 5 ?_
  conv => whnf
  refine tk rfl ?_
  conv => whnf
  refine call1 (num_GetText s (k + i1 + i2 + i3 + i4) 16 (by omega) (by decide)) rfl ?_
  conv => whnf
  refine ⟨fun c5 => ?_, fun c5 => ?_⟩
  · conv => whnf
    have hd : decS s k = none := by simp only [decS, decP, h1, h2, h3, h4, gt_no c5]
    rw [hd]
    rfl
  obtain ⟨a5, i5, g5, u5, l5, m5⟩ := gt_yes c5 hs
  clear c5
  rw [g5]
  dsimp only [Option.getD_some, Option.isSome_some]
  conv => whnf
  rw [u5]
  refine tk rfl ?_
  conv => whnf
  refine call1 (num_GetText s (k + i1 + i2 + i3 + i4 + i5) 16 (by omega) (by decide)) rfl ?_
  conv => whnf
  refine ⟨fun c6 => ?_, fun c6 => ?_⟩
  · conv => whnf
    have hd : decS s k = none := by simp only [decS, decP, h1, h2, h3, h4, g5, gt_no c6]
    rw [hd]
    rfl
  obtain ⟨a6, i6, g6, u6, l6, m6⟩ := gt_yes c6 hs
  clear c6
  rw [g6]
  dsimp only [Option.getD_some, Option.isSome_some]
  conv => whnf
  rw [u6]
  refine tk rfl ?_
  conv => whnf
  refine call1 (num_GetText s (k + i1 + i2 + i3 + i4 + i5 + i6) 16 (by omega) (by decide)) rfl ?_
  conv => whnf
  refine ⟨fun c7 => ?_, fun c7 => ?_⟩
  · conv => whnf
    have hd : decS s k = none := by simp only [decS, decP, h1, h2, h3, h4, g5, g6, gt_no c7]
    rw [hd]
    rfl
  obtain ⟨a7, i7, g7, u7, l7, m7⟩ := gt_yes c7 hs
  clear c7
  rw [g7]
  dsimp only [Option.getD_some, Option.isSome_some]
  conv => whnf
  rw [u7]
  refine tk rfl ?_
  conv => whnf
  refine call1 (num_GetText s (k + i1 + i2 + i3 + i4 + i5 + i6 + i7) 16 (by omega) (by decide)) rfl ?_
  conv => whnf
  refine ⟨fun c8 => ?_, fun c8 => ?_⟩
  · conv => whnf
    have hd : decS s k = none := by simp only [decS, decP, h1, h2, h3, h4, g5, g6, g7, gt_no c8]
    rw [hd]
    rfl
  obtain ⟨a8, i8, g8, u8, l8, m8⟩ := gt_yes c8 hs
  clear c8
  rw [g8]
  dsimp only [Option.getD_some, Option.isSome_some]
  conv => whnf
  rw [u8]
  refine fk rfl ?_
  conv => whnf
  have hp : decP s k = some ((((a1 : Nat) : Int), ((a2 : Nat) : Int), a5, a6, a7, a8, ((a4 : Nat) : Int), ((a3 : Nat) : Int)), i1 + i2 + i3 + i4 + i5 + i6 + i7 + i8) := by
    simp only [decP, h1, h2, h3, h4, g5, g6, g7, g8]
  refine call1 (rule_Encode ((((a1 : Nat) : Int), ((a2 : Nat) : Int), a5, a6, a7, a8, ((a4 : Nat) : Int), ((a3 : Nat) : Int)) : RD.T)) rfl ?_
  conv => whnf
  refine ⟨fun c9 => ?_, fun c9 => ?_⟩
  · conv => whnf
    have hn : okS ((((a1 : Nat) : Int), ((a2 : Nat) : Int), a5, a6, a7, a8, ((a4 : Nat) : Int), ((a3 : Nat) : Int)) : RD.T) = false := by
      cases h : okS ((((a1 : Nat) : Int), ((a2 : Nat) : Int), a5, a6, a7, a8, ((a4 : Nat) : Int), ((a3 : Nat) : Int)) : RD.T) with
      | false => rfl
      | true => simp [errS, h] at c9
    have hd : decS s k = none := by simp only [decS, hp, hn]; rfl
    rw [hd]
    rfl
  have hn : okS ((((a1 : Nat) : Int), ((a2 : Nat) : Int), a5, a6, a7, a8, ((a4 : Nat) : Int), ((a3 : Nat) : Int)) : RD.T) = true := by
    cases h : okS ((((a1 : Nat) : Int), ((a2 : Nat) : Int), a5, a6, a7, a8, ((a4 : Nat) : Int), ((a3 : Nat) : Int)) : RD.T) with
    | true => rfl
    | false => simp [errS, h] at c9
  have hd : decS s k = some (((((a1 : Nat) : Int), ((a2 : Nat) : Int), a5, a6, a7, a8, ((a4 : Nat) : Int), ((a3 : Nat) : Int)) : RD.T), i1 + i2 + i3 + i4 + i5 + i6 + i7 + i8) := by simp only [decS, hp, hn, if_true]
  have hz : IntKind.wrap .i64 (k + i1 + i2 + i3 + i4 + i5 + i6 + i7 + i8 - k) = ((i1 + i2 + i3 + i4 + i5 + i6 + i7 + i8 : Nat) : Int) := by
    rw [wr64 _ (by omega) (by omega)]; omega
  conv => whnf
  rw [hd, hz]
  rfl
end Go.Proofs.YtnldokebmfojeaaDoor
