/- The walks of val.Decode and of the reference's. Own work. -/
import Derived.Test.YtnldokebmfojeaaDoorValEncode
import Derived.Test.YtnldokebmfojeaaDoorNumRefGets
set_option linter.unusedVariables false
set_option maxRecDepth 100000
namespace Go.Proofs.YtnldokebmfojeaaDoor
open Go Go.RowKit OE

/-- the value that stands somewhere, and its size -/
def decB (s : List UInt8) (k : Int) : Option (VD.T × Nat) :=
  if bt s k = 0 then some ((0, 0, []), 1)
  else if bt s k = 1 then (if k + 1 < s.length ∧ bt s (k + 1) ≤ 1 then some ((1, bt s (k + 1), []), 2) else none)
  else if bt s k = 2 then (match Num.getN s (k + 1) with | none => none | some p => some ((2, Num.zag p.1, []), p.2 + 1))
  else if bt s k = 3 then (match Num.getT s (k + 1) 1024 with | none => none | some p => some ((3, 0, p.1), p.2 + 1))
  else none
def decV (s : List UInt8) (k : Int) : Option (VD.T × Nat) := if k < 0 ∨ (s.length : Int) ≤ k then none else decB s k
theorem getT_bd {s : List UInt8} {k m : Int} {t : List UInt8} {i : Nat} (h : Num.getT s k m = some (t, i)) : 0 ≤ k ∧ k + i ≤ s.length := by
  unfold Num.getT at h
  cases hg : Num.getN s k with
  | none => rw [hg] at h; cases h
  | some p =>
    have hb := Num.getN_bd (m := p.1) (k := p.2) hg
    rw [hg] at h
    dsimp only at h
    split at h
    · cases h
    · simp only [Option.some.injEq, Prod.mk.injEq] at h
      omega
def V0 : VD.T := VD.df
def decVR (o : Option (VD.T × Nat)) : SV := .tup [(true, vc (o.getD (V0, 0)).1), (false, [.int .i64 ((o.getD (V0, 0)).2 : Nat)]), (false, [.bool (.sym o.isSome)])]

theorem val_Decode (s : List UInt8) (k : Int) (hs : s.length ≤ 1000000) : FnD Tryd.prog 73 [.c (.str s), .c (.int .i64 k)] (· = decVR (decV s k)) := by
  refine fn0 Tryd.func73 rfl rfl rfl ?_
  conv => whnf
  refine ⟨fun h1 => ?_, fun h1 => ?_⟩
  · conv => whnf
    simp at h1
    have : decV s k = none := by unfold decV; rw [if_pos h1]
    rw [this]
    rfl
  simp at h1
  have hD : decV s k = decB s k := by unfold decV; rw [if_neg (by omega)]
  rw [hD]
  unfold decB
  have hb := bt_rng s k
  have e1 : IntKind.wrap .i64 (bt s k) = bt s k := wr64 _ (by omega) (by omega)
  have e2 : IntKind.wrap .i64 (k + 1) = k + 1 := wr64 _ (by omega) (by omega)
  conv => whnf
  refine ⟨by omega, ?_⟩
  conv => whnf
  rw [e1]
  refine ⟨fun h2 => ?_, fun h2 => ?_⟩
  · simp at h2
    rw [if_pos h2, h2]
    conv => whnf
    rfl
  simp at h2
  rw [if_neg h2]
  conv => whnf
  refine ⟨fun h3 => ?_, fun h3 => ?_⟩
  · simp at h3
    rw [if_pos h3, h3]
    conv => whnf
    rw [e2]
    refine ⟨fun h4 => ?_, fun h4 => ?_⟩
    · simp at h4
      conv => whnf
      have hb1 := bt_rng s (k + 1)
      have e3 : IntKind.wrap .i64 (bt s (k + 1)) = bt s (k + 1) := wr64 _ (by omega) (by omega)
      refine any0 ?_
      conv => whnf
      rw [e2]
      refine ⟨by omega, ?_⟩
      conv => whnf
      try rw [e3]
      refine ⟨by omega, ?_⟩
      conv => whnf
      refine ⟨.inl (by kernel_rfl), after0 ?_⟩
      conv => whnf
      try rw [e2]
      refine ⟨fun h5 => ?_, fun h5 => ?_⟩
      · try rw [e2] at h5
        simp at h5
        rw [if_neg (by omega)]
        conv => whnf
        rfl
      · try rw [e2] at h5
        simp at h5
        rw [if_pos ⟨h4, h5⟩]
        conv => whnf
        rfl
    · simp at h4
      rw [if_neg (by omega)]
      conv => whnf
      rfl
  simp at h3
  rw [if_neg h3]
  conv => whnf
  refine ⟨fun h4 => ?_, fun h4 => ?_⟩
  · simp at h4
    rw [if_pos h4, h4]
    conv => whnf
    rw [e2]
    refine call1 (num_GetInt s (k + 1) (by omega)) rfl ?_
    conv => whnf
    cases hg : Num.getN s (k + 1) with
    | none =>
      refine tk rfl ?_
      conv => whnf
      rfl
    | some p =>
      have hbd := Num.getN_bd (m := p.1) (k := p.2) hg
      refine fk rfl ?_
      conv => whnf
      have e4 : IntKind.wrap .i64 ((p.2 : Nat) + 1 : Int) = ((p.2 + 1 : Nat) : Int) := by rw [wr64 _ (by omega) (by omega)]; omega
      show SV.tup [(true, [.int .i64 2, .int .i64 (Num.zag p.1), .str []]), (false, [.int .i64 (IntKind.wrap .i64 ((p.2 : Nat) + 1 : Int))]), (false, [.bool (.sym true)])] = _
      rw [e4]
      rfl
  simp at h4
  rw [if_neg h4]
  conv => whnf
  refine ⟨fun h5 => ?_, fun h5 => ?_⟩
  · simp at h5
    rw [if_pos h5, h5]
    conv => whnf
    rw [e2]
    refine call1 (num_GetText s (k + 1) 1024 (by omega) (by decide)) rfl ?_
    conv => whnf
    cases hg : Num.getT s (k + 1) 1024 with
    | none =>
      refine tk rfl ?_
      conv => whnf
      rfl
    | some p =>
      have hbd := getT_bd (t := p.1) (i := p.2) hg
      refine fk rfl ?_
      conv => whnf
      have e4 : IntKind.wrap .i64 ((p.2 : Nat) + 1 : Int) = ((p.2 + 1 : Nat) : Int) := by rw [wr64 _ (by omega) (by omega)]; omega
      show SV.tup [(true, [.int .i64 3, .int .i64 0, .str p.1]), (false, [.int .i64 (IntKind.wrap .i64 ((p.2 : Nat) + 1 : Int))]), (false, [.bool (.sym true)])] = _
      rw [e4]
      rfl
  · simp at h5
    rw [if_neg h5]
    conv => whnf
    rfl

def decVA (o : Option (VD.T × Nat)) : SV := .agg (vc (o.getD (V0, 0)).1 ++ [.int .i64 ((o.getD (V0, 0)).2 : Nat), .bool (.sym o.isSome)])

theorem refval_Decode (s : List UInt8) (k : Int) (hs : s.length ≤ 1000000) : FnD Tryd.prog 63 [.c (.str s), .c (.int .i64 k)] (· = decVA (decV s k)) := by
  refine fn0 Tryd.func63 rfl rfl rfl ?_
  conv => whnf
  refine ⟨fun h1 => ?_, fun h1 => ?_⟩
  · conv => whnf
    simp at h1
    have : decV s k = none := by unfold decV; rw [if_pos h1]
    rw [this]
    rfl
  simp at h1
  have hD : decV s k = decB s k := by unfold decV; rw [if_neg (by omega)]
  rw [hD]
  unfold decB
  have hb := bt_rng s k
  have e2 : IntKind.wrap .i64 (k + 1) = k + 1 := wr64 _ (by omega) (by omega)
  conv => whnf
  refine ⟨by omega, ?_⟩
  conv => whnf
  refine ⟨fun h2 => ?_, fun h2 => ?_⟩
  · simp at h2
    rw [if_pos h2]
    conv => whnf
    rfl
  simp at h2
  rw [if_neg h2]
  conv => whnf
  refine ⟨fun h3 => ?_, fun h3 => ?_⟩
  · simp at h3
    rw [if_pos h3]
    conv => whnf
    rw [e2]
    refine ⟨fun h => by simp at h; omega, ?_⟩
    conv => whnf
    refine ⟨fun h4 => ?_, fun h4 => ?_⟩
    · simp at h4
      rw [if_pos h4]
      conv => whnf
      rw [e2]
      refine ⟨by omega, ?_⟩
      conv => whnf
      have hb1 := bt_rng s (k + 1)
      have e3 : IntKind.wrap .i64 (bt s (k + 1)) = bt s (k + 1) := wr64 _ (by omega) (by omega)
      rw [e3]
      rfl
    · simp at h4
      rw [if_neg (by intro h; have := h4 h.1; omega)]
      conv => whnf
      rfl
  simp at h3
  rw [if_neg h3]
  conv => whnf
  refine ⟨fun h4 => ?_, fun h4 => ?_⟩
  · simp at h4
    rw [if_pos h4]
    conv => whnf
    rw [e2]
    refine call1 (refnum_GetInt s (k + 1) (by omega)) rfl ?_
    conv => whnf
    cases hg : Num.getN s (k + 1) with
    | none =>
      refine fk rfl ?_
      conv => whnf
      rfl
    | some p =>
      have hbd := Num.getN_bd (m := p.1) (k := p.2) hg
      refine tk rfl ?_
      conv => whnf
      have e4 : IntKind.wrap .i64 (1 + (p.2 : Nat) : Int) = ((p.2 + 1 : Nat) : Int) := by rw [wr64 _ (by omega) (by omega)]; omega
      show SV.agg [.int .i64 2, .int .i64 (Num.zag p.1), .str [], .int .i64 (IntKind.wrap .i64 (1 + (p.2 : Nat) : Int)), .bool (.sym true)] = _
      rw [e4]
      rfl
  simp at h4
  rw [if_neg h4]
  conv => whnf
  refine ⟨fun h5 => ?_, fun h5 => ?_⟩
  · simp at h5
    rw [if_pos h5]
    conv => whnf
    rw [e2]
    refine call1 (refnum_GetText s (k + 1) 1024 (by omega) (by decide)) rfl ?_
    conv => whnf
    cases hg : Num.getT s (k + 1) 1024 with
    | none =>
      refine fk rfl ?_
      conv => whnf
      rfl
    | some p =>
      have hbd := getT_bd (t := p.1) (i := p.2) hg
      refine tk rfl ?_
      conv => whnf
      have e4 : IntKind.wrap .i64 (1 + (p.2 : Nat) : Int) = ((p.2 + 1 : Nat) : Int) := by rw [wr64 _ (by omega) (by omega)]; omega
      show SV.agg [.int .i64 3, .int .i64 0, .str p.1, .int .i64 (IntKind.wrap .i64 (1 + (p.2 : Nat) : Int)), .bool (.sym true)] = _
      rw [e4]
      rfl
  · simp at h5
    rw [if_neg h5]
    conv => whnf
    rfl
end Go.Proofs.YtnldokebmfojeaaDoor
