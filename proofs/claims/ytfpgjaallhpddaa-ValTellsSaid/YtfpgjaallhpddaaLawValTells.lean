/- The walk of the law ValTells. Own work. -/
import Derived.Test.YtfpgjaallhpddaaValWakes
import Derived.Test.YtfpgjaallhpddaaValCompare
set_option linter.unusedVariables false
set_option maxRecDepth 100000
namespace Go.Proofs.Ytfpgjaallhpddaa
open Go Go.RowKit OE

theorem row_ValTells (s : List UInt8) (hs : s.length ≤ 140737488351232) (a : VD.T) (ha : Wf VD a) (b : VD.T) (hb : Wf VD b) :
    FnD Try.prog 12 [.c (.str s), .agg (vc a), .agg (vc b)] (· = .c (.bool (.sym true))) := by
  refine fn0 Try.func12 rfl rfl rfl ?_
  conv => whnf
  refine callg0 (fun _ => keep_LargeValue a) rfl ?_
  conv => whnf
  refine callg0 (fun _ => keep_LargeValue b) rfl ?_
  conv => whnf
  refine ⟨fun h1 => ?_, fun h1 => ?_⟩
  · conv => whnf
    refine call1 (val_wakes) rfl ?_
    conv => whnf
  conv => whnf
  refine any0 ?_
  conv => whnf
  refine callr0 (val_Name s) rfl ?_
  conv => whnf
  refine callr0 (ref_Name s) rfl ?_
  conv => whnf
  refine callrg0 (fun _ => val_Good a ha.1) rfl ?_
  conv => whnf
  refine callrg0 (fun _ => ref_Good a) rfl ?_
  conv => whnf
  refine callrg0 (fun _ => val_Compare a b) rfl ?_
  conv => whnf
  refine callrg0 (fun _ => ref_Compare a b) rfl ?_
  conv => whnf
  refine callrg0 (fun _ => val_wakes) rfl ?_
  conv => whnf
  refine ⟨.inl (by kernel_rfl), after0 ?_⟩
  conv => whnf
  simp
end Go.Proofs.Ytfpgjaallhpddaa
