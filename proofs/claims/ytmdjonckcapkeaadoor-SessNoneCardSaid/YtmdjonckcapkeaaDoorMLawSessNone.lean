/- The walk of the law SessNone. Own work. -/
import Derived.Test.YtmdjonckcapkeaaDoorPart7
set_option linter.unusedVariables false
set_option maxRecDepth 100000
namespace Go.Proofs.YtmdjonckcapkeaaDoor
open Go Go.RowKit OE

theorem row_SessNone (s : List UInt8) (hs : s.length ≤ 140737488351232) :
    FnD Tryd.prog 5 [.c (.str s)] (· = .c (.bool (.sym true))) := by
  refine fn0 Tryd.func5 rfl rfl rfl ?_
  conv => whnf
  refine ⟨fun a => ?_, fun a => ?_⟩
  · conv => whnf
    refine call1 (sess_wakes) rfl ?_
    conv => whnf
  conv => whnf
  refine call1 (nil_Feed s) rfl ?_
  conv => whnf
  refine call1 (nil_Head) rfl ?_
  conv => whnf
  refine callg0 (fun _ => (nil_Answer (rN 0 0)).args fun w ok => ⟨fun _ h => h, nilRep, trivial⟩) rfl ?_
  conv => whnf
  refine callg0 (fun _ => nil_Take) rfl ?_
  conv => whnf
  refine callg0 (fun _ => nil_Waiting) rfl ?_
  conv => whnf
  refine callg0 (fun _ => nil_Closed) rfl ?_
  conv => whnf
  refine callg0 (fun _ => nil_Held) rfl ?_
  conv => whnf
  refine callg0 (fun _ => sess_wakes) rfl ?_
  conv => whnf
  rfl
end Go.Proofs.YtmdjonckcapkeaaDoor
