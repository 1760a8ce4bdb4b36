/- The walk of the law WireDecodes. Own work. -/
import Derived.Test.YtnldokebmfojeaaDoorWireDecEq
set_option linter.unusedVariables false
set_option maxRecDepth 100000
namespace Go.Proofs.YtnldokebmfojeaaDoor
open Go Go.RowKit OE

theorem row_WireDecodes (s : List UInt8) (hs : s.length ≤ 140737488351232) :
    FnD Tryd.prog 4 [.c (.str s)] (· = .c (.bool (.sym true))) := by
  refine fn0 Tryd.func4 rfl rfl rfl ?_
  conv => whnf
  refine ⟨fun a => ?_, fun a => ?_⟩
  · conv => whnf
    refine call1 (wire_wakes) rfl ?_
    conv => whnf
  have hl : s.length ≤ 1000000 := by rw [decide_eq_false_iff_not] at a; omega
  obtain ⟨e1, e2⟩ := dec_eq hl
  conv => whnf
  refine call1 (wire_Decode s hl) rfl ?_
  conv => whnf
  refine call1 (ref24_Decode s hl) rfl ?_
  conv => whnf
  refine call1 (keep_Cmd (decM s) (decRP s (rdM s))) rfl ?_
  conv => whnf
  refine callg0 (fun _ => wire_wakes) rfl ?_
  conv => whnf
  rw [e1, e2, eqM_same]
  simp
end Go.Proofs.YtnldokebmfojeaaDoor
