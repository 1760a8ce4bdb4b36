/- The walk of the law WireEncodes. Own work. -/
import Derived.Test.YtnldokebmfojeaaDoorLawWireBack
import Derived.Test.YtnldokebmfojeaaDoorWireEq
set_option linter.unusedVariables false
set_option maxRecDepth 100000
namespace Go.Proofs.YtnldokebmfojeaaDoor
open Go Go.RowKit OE

theorem row_WireEncodes (m : MD.T) (hm : Wf MD m) :
    FnD Tryd.prog 3 [.agg (mc m)] (· = .c (.bool (.sym true))) := by
  refine fn0 Tryd.func3 rfl rfl rfl ?_
  conv => whnf
  refine call1 (keep_LargeCmd m) rfl ?_
  conv => whnf
  refine ⟨fun a => ?_, fun a => ?_⟩
  · conv => whnf
    refine call1 (wire_wakes) rfl ?_
    conv => whnf
  have hc := small_cmd hm a
  obtain ⟨e1, e2, e3⟩ := encM_eq hc
  have e4 := good_eq hc
  conv => whnf
  refine call1 (wire_Encode m hc) rfl ?_
  conv => whnf
  refine call1 (ref24_Encode m hc) rfl ?_
  conv => whnf
  refine call1 (wire_Message m hc) rfl ?_
  conv => whnf
  refine call1 (ref24_Message m hc (fun h => by rw [← enc_eq (by rw [e4]; exact h)]; exact bytM_len hc)) rfl ?_
  conv => whnf
  refine any0 ?_
  conv => whnf
  refine callr0 (wire_Good m hc) rfl ?_
  conv => whnf
  refine callr0 (ref24_Good m) rfl ?_
  conv => whnf
  refine callrg0 (fun _ => wire_wakes) rfl ?_
  conv => whnf
  refine ⟨.inl (by kernel_rfl), after0 ?_⟩
  conv => whnf
  rw [e1, e2, e3, e4]
  simp
end Go.Proofs.YtnldokebmfojeaaDoor
