/- The walk of the law ValCodes. Own work. -/
import Derived.Test.YtfpgjaallhpddaaValWakes
set_option linter.unusedVariables false
set_option maxRecDepth 100000
namespace Go.Proofs.Ytfpgjaallhpddaa
open Go Go.RowKit OE

theorem row_ValCodes (v : VD.T) (hv : Wf VD v) (s : List UInt8) (hs : s.length ≤ 140737488351232) (k : Int) (wk : (Lit.int .i64 k).wf = true) :
    FnD Try.prog 8 [.agg (vc v), .c (.str s), .c (.int .i64 k)] (· = .c (.bool (.sym true))) := by
  refine fn0 Try.func8 rfl rfl rfl ?_
  conv => whnf
  refine call1 (keep_LargeValue v) rfl ?_
  conv => whnf
  refine ⟨fun h1 => ?_, fun h1 => ?_⟩
  · conv => whnf
    refine call1 (val_wakes) rfl ?_
    conv => whnf
  simp only [Bool.or_eq_false_iff, decide_eq_false_iff_not] at h1
  have h1 : s.length ≤ 1000000 := by omega
  conv => whnf
  refine call1 (val_Decode s k h1) rfl ?_
  conv => whnf
  refine call1 (refval_Decode s k h1) rfl ?_
  conv => whnf
  refine any0 ?_
  conv => whnf
  refine callr0 (val_Encode v hv) rfl ?_
  conv => whnf
  refine callr0 (refval_Encode v hv) rfl ?_
  conv => whnf
  refine callrg0 (fun _ => keep_Value ((decV s k).getD (V0, 0)).1 ((decV s k).getD (V0, 0)).1) rfl ?_
  conv => whnf
  refine callrg0 (fun _ => val_wakes) rfl ?_
  conv => whnf
  refine ⟨.inl (by kernel_rfl), after0 ?_⟩
  conv => whnf
  have e : ∀ c : VD.T, VD.eqb c c = true := fun c => (D.eqb_iff VD c c).2 rfl
  rw [e]
  simp
end Go.Proofs.Ytfpgjaallhpddaa
