/- The walk of the law WireNexts. Own work. -/
import Derived.Test.YtnldokebmfojeaaDoorWireWakes
import Derived.Test.YtnldokebmfojeaaDoorWireRefNext
set_option linter.unusedVariables false
set_option maxRecDepth 100000
namespace Go.Proofs.YtnldokebmfojeaaDoor
open Go Go.RowKit OE

theorem row_WireNexts (s : List UInt8) (hs : s.length ≤ 140737488351232) :
    FnD Tryd.prog 5 [.c (.str s)] (· = .c (.bool (.sym true))) := by
  refine fn0 Tryd.func5 rfl rfl rfl ?_
  conv => whnf
  refine ⟨fun a => ?_, fun a => ?_⟩
  · conv => whnf
    refine call1 (wire_wakes) rfl ?_
    conv => whnf
  have hl : s.length ≤ 1000000 := by rw [decide_eq_false_iff_not] at a; omega
  conv => whnf
  refine call1 (wire_Next s hl) rfl ?_
  conv => whnf
  refine call1 (refwire_Next s hl) rfl ?_
  conv => whnf
  refine callg0 (fun _ => wire_wakes) rfl ?_
  conv => whnf
  simp
end Go.Proofs.YtnldokebmfojeaaDoor
