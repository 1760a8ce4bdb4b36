/-
  DERIVED. GIVEN WITH THE SEED: THE CARDS: each row of YtnldokebmfojeaaDoorRows.lean that lists a variable, with what it lists TIED to the program's text (the seventh form; the later family's looks); each row that meets fmt, with fmt's text TOLD by the authors' own Lean function (tested against real Go, not proved from fmt's source: count such statements apart). THE CARD IS WHAT COUNTS. Prove the row's statement (the work); the ties are given (YtnldokebmfojeaaDoorTie.lean); close each card by the builder's one call (the guide's Derived/Test/ToyasCard.lean, 'card_holds'). Laid BY PROGRAM, IN A SANDBOX (cutbox-door.mjs). By AI agents, Wed Nov 11 2026. No macro, syntax, notation, axiom, sorry.
-/
import Derived.Test.YtnldokebmfojeaaDoorRows
import GoSem.ClaimSeven
namespace Go.Proofs.YtnldokebmfojeaaDoor
namespace Rows

/-- THE TIED CARD OF 'hedgerowlaw24.WireEncodes'. -/
def wireEncodesCard : Claim7 := { stood := { row := wireEncodesRow, standIns := [], harness := (true, "7cb60f567f559319ea0230a002f002ad26565dcf2cdcf49e38d189aa4cbff871"), looks := false }, kinds := [], alts := [], laidByText := true, laidKinds := [.data, .data], laidTests := true, laidLooks := .later }
def WireEncodesCardSaid : Prop := Claim7.holds Tryd.pinned (.plain (OpenSpec.ofChange wireEncodesSpec)) wireEncodesCard

/-- THE TIED CARD OF 'hedgerowlaw24.WireDecodes'. -/
def wireDecodesCard : Claim7 := { stood := { row := wireDecodesRow, standIns := [], harness := (true, "7cb60f567f559319ea0230a002f002ad26565dcf2cdcf49e38d189aa4cbff871"), looks := false }, kinds := [], alts := [], laidByText := true, laidKinds := [.data, .data], laidTests := true, laidLooks := .later }
def WireDecodesCardSaid : Prop := Claim7.holds Tryd.pinned (.plain (OpenSpec.ofChange wireDecodesSpec)) wireDecodesCard

/-- THE TIED CARD OF 'hedgerowlaw24.WireNexts'. -/
def wireNextsCard : Claim7 := { stood := { row := wireNextsRow, standIns := [], harness := (true, "7cb60f567f559319ea0230a002f002ad26565dcf2cdcf49e38d189aa4cbff871"), looks := false }, kinds := [], alts := [], laidByText := true, laidKinds := [.data, .data], laidTests := true, laidLooks := .later }
def WireNextsCardSaid : Prop := Claim7.holds Tryd.pinned (.plain (OpenSpec.ofChange wireNextsSpec)) wireNextsCard

/-- THE TIED CARD OF 'hedgerowlaw24.WireBack'. -/
def wireBackCard : Claim7 := { stood := { row := wireBackRow, standIns := [], harness := (true, "7cb60f567f559319ea0230a002f002ad26565dcf2cdcf49e38d189aa4cbff871"), looks := false }, kinds := [], alts := [], laidByText := true, laidKinds := [.data, .data], laidTests := true, laidLooks := .later }
def WireBackCardSaid : Prop := Claim7.holds Tryd.pinned (.plain (OpenSpec.ofChange wireBackSpec)) wireBackCard

/-- THE TIED CARD OF 'hedgerowlaw24.WireStreams'. -/
def wireStreamsCard : Claim7 := { stood := { row := wireStreamsRow, standIns := [], harness := (true, "7cb60f567f559319ea0230a002f002ad26565dcf2cdcf49e38d189aa4cbff871"), looks := false }, kinds := [], alts := [], laidByText := true, laidKinds := [.data, .data], laidTests := true, laidLooks := .later }
def WireStreamsCardSaid : Prop := Claim7.holds Tryd.pinned (.plain (OpenSpec.ofChange wireStreamsSpec)) wireStreamsCard

/-- THE SECOND FORM's CARD OF 'hedgerowlaw24.WireEncodes'. -/
def wireEncodesUptoCard : Claim7 := { stood := { row := wireEncodesUptoRow, standIns := [], harness := (true, "7cb60f567f559319ea0230a002f002ad26565dcf2cdcf49e38d189aa4cbff871"), looks := false }, kinds := [], alts := [], laidByText := true, laidKinds := [.data, .data], laidTests := true, laidLooks := .later }
def WireEncodesUptoCardSaid : Prop := Claim7.holds Tryd.pinned (.plain (OpenSpec.upto wireEncodesSpec)) wireEncodesUptoCard

/-- THE SECOND FORM's CARD OF 'hedgerowlaw24.WireDecodes'. -/
def wireDecodesUptoCard : Claim7 := { stood := { row := wireDecodesUptoRow, standIns := [], harness := (true, "7cb60f567f559319ea0230a002f002ad26565dcf2cdcf49e38d189aa4cbff871"), looks := false }, kinds := [], alts := [], laidByText := true, laidKinds := [.data, .data], laidTests := true, laidLooks := .later }
def WireDecodesUptoCardSaid : Prop := Claim7.holds Tryd.pinned (.plain (OpenSpec.upto wireDecodesSpec)) wireDecodesUptoCard

/-- THE SECOND FORM's CARD OF 'hedgerowlaw24.WireNexts'. -/
def wireNextsUptoCard : Claim7 := { stood := { row := wireNextsUptoRow, standIns := [], harness := (true, "7cb60f567f559319ea0230a002f002ad26565dcf2cdcf49e38d189aa4cbff871"), looks := false }, kinds := [], alts := [], laidByText := true, laidKinds := [.data, .data], laidTests := true, laidLooks := .later }
def WireNextsUptoCardSaid : Prop := Claim7.holds Tryd.pinned (.plain (OpenSpec.upto wireNextsSpec)) wireNextsUptoCard

/-- THE SECOND FORM's CARD OF 'hedgerowlaw24.WireBack'. -/
def wireBackUptoCard : Claim7 := { stood := { row := wireBackUptoRow, standIns := [], harness := (true, "7cb60f567f559319ea0230a002f002ad26565dcf2cdcf49e38d189aa4cbff871"), looks := false }, kinds := [], alts := [], laidByText := true, laidKinds := [.data, .data], laidTests := true, laidLooks := .later }
def WireBackUptoCardSaid : Prop := Claim7.holds Tryd.pinned (.plain (OpenSpec.upto wireBackSpec)) wireBackUptoCard

/-- THE SECOND FORM's CARD OF 'hedgerowlaw24.WireStreams'. -/
def wireStreamsUptoCard : Claim7 := { stood := { row := wireStreamsUptoRow, standIns := [], harness := (true, "7cb60f567f559319ea0230a002f002ad26565dcf2cdcf49e38d189aa4cbff871"), looks := false }, kinds := [], alts := [], laidByText := true, laidKinds := [.data, .data], laidTests := true, laidLooks := .later }
def WireStreamsUptoCardSaid : Prop := Claim7.holds Tryd.pinned (.plain (OpenSpec.upto wireStreamsSpec)) wireStreamsUptoCard
end Rows
end Go.Proofs.YtnldokebmfojeaaDoor
