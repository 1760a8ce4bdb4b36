/-
  DERIVED. GIVEN WITH THE SEED: THE PROGRAM's TIES (one call each: nine closed facts by the kernel) AND EACH ROW's TIE, after the 31st guide's Derived/Test/Toyas{Tie, Card}.lean. No idea stands in it: it is a product of the set-up. Laid BY PROGRAM, IN A SANDBOX (cutbox-door.mjs). By AI agents, Wed Nov 11 2026. No macro, syntax, notation, axiom, sorry.
-/
import Derived.Test.YtmdjonckcapkeaaGreatDoorRows
import Derived.LaidByTextLater
import Derived.SevenTiedAt
import Derived.LaidSub
import Derived.LaidOnce
namespace Go.Proofs.YtmdjonckcapkeaaGreatDoor
open Go
set_option maxRecDepth 100000
theorem seatTie1 : Tryz.prog.laidByTextLater [("hedgerow/wire.fieldsOf", Rows.laid_hedgerow_wire_fieldsOf), ("hedgerow/wire.opsOf", Rows.laid_hedgerow_wire_opsOf)] [.data, .data] true :=
  Program.laidByTextLater_by_one 19 8 22 (by kernel_rfl) (by kernel_rfl) (by kernel_rfl) (by kernel_rfl) (by kernel_rfl) (by kernel_rfl) (fun _ _ => by kernel_rfl)
theorem noOwnUnsafe : Tryz.pinned.checked.prog.headLifts.contains "ownunsafe" = false := by kernel_rfl
theorem tie : Tryz.prog.laidByTextLater [("hedgerow/wire.fieldsOf", Rows.laid_hedgerow_wire_fieldsOf), ("hedgerow/wire.opsOf", Rows.laid_hedgerow_wire_opsOf)] [.data, .data] true :=
  Program.laidByTextLater.sub seatTie1 ["hedgerow/wire.fieldsOf", "hedgerow/wire.opsOf"] (by kernel_rfl) (by kernel_rfl)
theorem sessPlays_row_tie : Rows.sessPlaysRow.laidByTextAt .later Tryz.pinned [.data, .data] true :=
  OpenClaim.laidByTextAt_later rfl rfl tie noOwnUnsafe
theorem sessPlaysUpto_row_tie : Rows.sessPlaysUptoRow.laidByTextAt .later Tryz.pinned [.data, .data] true :=
  OpenClaim.laidByTextAt_later rfl rfl tie noOwnUnsafe
end Go.Proofs.YtmdjonckcapkeaaGreatDoor
