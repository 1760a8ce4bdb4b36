/- The walk of the law ValOrder. Own work. -/
import Derived.Test.YtfpgjaallhpddaaValWakes
import Derived.Test.YtfpgjaallhpddaaValOrd
set_option linter.unusedVariables false
set_option maxRecDepth 100000
namespace Go.Proofs.Ytfpgjaallhpddaa
open Go Go.RowKit OE

theorem row_ValOrder (a : VD.T) (ha : Wf VD a) (b : VD.T) (hb : Wf VD b) (c : VD.T) (hc : Wf VD c) :
    FnD Try.prog 13 [.agg (vc a), .agg (vc b), .agg (vc c)] (· = .c (.bool (.sym true))) := by
  refine fn0 Try.func13 rfl rfl rfl ?_
  conv => whnf
  refine call1 (keep_LargeValue a) rfl ?_
  conv => whnf
  refine callg0 (fun _ => keep_LargeValue b) rfl ?_
  conv => whnf
  refine callg0 (fun _ => keep_LargeValue c) rfl ?_
  conv => whnf
  refine ⟨fun h1 => ?_, fun h1 => ?_⟩
  · conv => whnf
    refine call1 (val_wakes) rfl ?_
    conv => whnf
  conv => whnf
  refine any0 ?_
  conv => whnf
  refine callr0 (val_Compare a b) rfl ?_
  conv => whnf
  refine callr0 (val_Compare b c) rfl ?_
  conv => whnf
  refine callr0 (val_Compare a c) rfl ?_
  conv => whnf
  refine ⟨.inl (by kernel_rfl), after0 ?_⟩
  conv => whnf
  refine call1 (val_Compare b a) rfl ?_
  conv => whnf
  refine callg0 (fun _ => keep_Value a b) rfl ?_
  conv => whnf
  refine callg0 (fun _ => val_Compare a a) rfl ?_
  conv => whnf
  have hn := cmpV_neg a b
  have hw : IntKind.wrap .i64 (0 - cmpV b a) = cmpV a b := by
    rcases cmpV_cases b a with ⟨g, _⟩ | ⟨g, _⟩ | ⟨g, _⟩ <;> rw [hn, g] <;> rfl
  rw [hw, ← cmpV_zero a b, cmpV_eq.2 (rfl : a = a)]
  refine fk (by simp) ?_
  conv => whnf
  refine callg0 (fun _ => val_wakes) rfl ?_
  conv => whnf
  have e1 : (decide (0 < cmpV a b) || decide (0 < cmpV b c) || decide (cmpV a c ≤ 0)) = true := by
    by_cases h1 : cmpV a b ≤ 0
    · by_cases h2 : cmpV b c ≤ 0
      · rw [decide_eq_true (cmpV_le h1 h2), Bool.or_true]
      · rw [decide_eq_true (by omega : 0 < cmpV b c), Bool.or_true, Bool.true_or]
    · rw [decide_eq_true (by omega : 0 < cmpV a b), Bool.true_or, Bool.true_or]
  have e2 : (decide (0 ≤ cmpV a b) || decide (0 < cmpV b c) || decide (cmpV a c < 0)) = true := by
    by_cases h1 : cmpV a b < 0
    · by_cases h2 : cmpV b c ≤ 0
      · rw [decide_eq_true (cmpV_ll h1 h2), Bool.or_true]
      · rw [decide_eq_true (by omega : 0 < cmpV b c), Bool.or_true, Bool.true_or]
    · rw [decide_eq_true (by omega : 0 ≤ cmpV a b), Bool.true_or, Bool.true_or]
  rw [e1, e2]
  rfl
end Go.Proofs.Ytfpgjaallhpddaa
