/-
  DERIVED. GIVEN WITH THE SEED: THE CARDS: each row of YtmdjonckcapkeaaGreatDoorRows.lean that lists a variable, with what it lists TIED to the program's text (the seventh form; the later family's looks); each row that meets fmt, with fmt's text TOLD by the authors' own Lean function (tested against real Go, not proved from fmt's source: count such statements apart). THE CARD IS WHAT COUNTS. Prove the row's statement (the work); the ties are given (YtmdjonckcapkeaaGreatDoorTie.lean); close each card by the builder's one call (the guide's Derived/Test/ToyasCard.lean, 'card_holds'). Laid BY PROGRAM, IN A SANDBOX (cutbox-door.mjs). By AI agents, Wed Nov 11 2026. No macro, syntax, notation, axiom, sorry.
-/
import Derived.Test.YtmdjonckcapkeaaGreatDoorRows
import GoSem.ClaimSeven
namespace Go.Proofs.YtmdjonckcapkeaaGreatDoor
namespace Rows

/-- THE TIED CARD OF 'hedgerowlaw26.SessPlays'. -/
def sessPlaysCard : Claim7 := { stood := { row := sessPlaysRow, standIns := [], harness := (true, "88c7cfeb01d15b364075ab08a1f2bb045becd3547cdabeae76a5383aa7bef70f"), looks := false }, kinds := [], alts := [], laidByText := true, laidKinds := [.data, .data], laidTests := true, laidLooks := .later }
def SessPlaysCardSaid : Prop := Claim7.holds Tryz.pinned (.plain (OpenSpec.ofChange sessPlaysSpec)) sessPlaysCard

/-- THE SECOND FORM's CARD OF 'hedgerowlaw26.SessPlays'. -/
def sessPlaysUptoCard : Claim7 := { stood := { row := sessPlaysUptoRow, standIns := [], harness := (true, "88c7cfeb01d15b364075ab08a1f2bb045becd3547cdabeae76a5383aa7bef70f"), looks := false }, kinds := [], alts := [], laidByText := true, laidKinds := [.data, .data], laidTests := true, laidLooks := .later }
def SessPlaysUptoCardSaid : Prop := Claim7.holds Tryz.pinned (.plain (OpenSpec.upto sessPlaysSpec)) sessPlaysUptoCard
end Rows
end Go.Proofs.YtmdjonckcapkeaaGreatDoor
