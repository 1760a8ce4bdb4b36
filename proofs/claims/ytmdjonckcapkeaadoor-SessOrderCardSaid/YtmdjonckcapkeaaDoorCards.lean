/-
  DERIVED. GIVEN WITH THE SEED: THE CARDS: each row of YtmdjonckcapkeaaDoorRows.lean that lists a variable, with what it lists TIED to the program's text (the seventh form; the later family's looks); each row that meets fmt, with fmt's text TOLD by the authors' own Lean function (tested against real Go, not proved from fmt's source: count such statements apart). THE CARD IS WHAT COUNTS. Prove the row's statement (the work); the ties are given (YtmdjonckcapkeaaDoorTie.lean); close each card by the builder's one call (the guide's Derived/Test/ToyasCard.lean, 'card_holds'). Laid BY PROGRAM, IN A SANDBOX (cutbox-door.mjs). By AI agents, Wed Nov 11 2026. No macro, syntax, notation, axiom, sorry.
-/
import Derived.Test.YtmdjonckcapkeaaDoorRows
import GoSem.ClaimSeven
namespace Go.Proofs.YtmdjonckcapkeaaDoor
namespace Rows

/-- THE TIED CARD OF 'hedgerowlaw26.SessCuts'. -/
def sessCutsCard : Claim7 := { stood := { row := sessCutsRow, standIns := [], harness := (true, "65d87c27ac3cc82a8dd8fec9ba63a43fcb93f4c9da1e5431fd3b9258d239cf03"), looks := false }, kinds := [], alts := [], laidByText := true, laidKinds := [.data, .data], laidTests := true, laidLooks := .later }
def SessCutsCardSaid : Prop := Claim7.holds Tryd.pinned (.plain (OpenSpec.ofChange sessCutsSpec)) sessCutsCard

/-- THE TIED CARD OF 'hedgerowlaw26.SessMany'. -/
def sessManyCard : Claim7 := { stood := { row := sessManyRow, standIns := [], harness := (true, "65d87c27ac3cc82a8dd8fec9ba63a43fcb93f4c9da1e5431fd3b9258d239cf03"), looks := false }, kinds := [], alts := [], laidByText := true, laidKinds := [.data, .data], laidTests := true, laidLooks := .later }
def SessManyCardSaid : Prop := Claim7.holds Tryd.pinned (.plain (OpenSpec.ofChange sessManySpec)) sessManyCard

/-- THE TIED CARD OF 'hedgerowlaw26.SessNone'. -/
def sessNoneCard : Claim7 := { stood := { row := sessNoneRow, standIns := [], harness := (true, "65d87c27ac3cc82a8dd8fec9ba63a43fcb93f4c9da1e5431fd3b9258d239cf03"), looks := false }, kinds := [], alts := [], laidByText := true, laidKinds := [.data, .data], laidTests := true, laidLooks := .later }
def SessNoneCardSaid : Prop := Claim7.holds Tryd.pinned (.plain (OpenSpec.ofChange sessNoneSpec)) sessNoneCard

/-- THE TIED CARD OF 'hedgerowlaw26.SessOrder'. -/
def sessOrderCard : Claim7 := { stood := { row := sessOrderRow, standIns := [], harness := (true, "65d87c27ac3cc82a8dd8fec9ba63a43fcb93f4c9da1e5431fd3b9258d239cf03"), looks := false }, kinds := [], alts := [], laidByText := true, laidKinds := [.data, .data], laidTests := true, laidLooks := .later }
def SessOrderCardSaid : Prop := Claim7.holds Tryd.pinned (.plain (OpenSpec.ofChange sessOrderSpec)) sessOrderCard

/-- THE SECOND FORM's CARD OF 'hedgerowlaw26.SessCuts'. -/
def sessCutsUptoCard : Claim7 := { stood := { row := sessCutsUptoRow, standIns := [], harness := (true, "65d87c27ac3cc82a8dd8fec9ba63a43fcb93f4c9da1e5431fd3b9258d239cf03"), looks := false }, kinds := [], alts := [], laidByText := true, laidKinds := [.data, .data], laidTests := true, laidLooks := .later }
def SessCutsUptoCardSaid : Prop := Claim7.holds Tryd.pinned (.plain (OpenSpec.upto sessCutsSpec)) sessCutsUptoCard

/-- THE SECOND FORM's CARD OF 'hedgerowlaw26.SessMany'. -/
def sessManyUptoCard : Claim7 := { stood := { row := sessManyUptoRow, standIns := [], harness := (true, "65d87c27ac3cc82a8dd8fec9ba63a43fcb93f4c9da1e5431fd3b9258d239cf03"), looks := false }, kinds := [], alts := [], laidByText := true, laidKinds := [.data, .data], laidTests := true, laidLooks := .later }
def SessManyUptoCardSaid : Prop := Claim7.holds Tryd.pinned (.plain (OpenSpec.upto sessManySpec)) sessManyUptoCard

/-- THE SECOND FORM's CARD OF 'hedgerowlaw26.SessNone'. -/
def sessNoneUptoCard : Claim7 := { stood := { row := sessNoneUptoRow, standIns := [], harness := (true, "65d87c27ac3cc82a8dd8fec9ba63a43fcb93f4c9da1e5431fd3b9258d239cf03"), looks := false }, kinds := [], alts := [], laidByText := true, laidKinds := [.data, .data], laidTests := true, laidLooks := .later }
def SessNoneUptoCardSaid : Prop := Claim7.holds Tryd.pinned (.plain (OpenSpec.upto sessNoneSpec)) sessNoneUptoCard

/-- THE SECOND FORM's CARD OF 'hedgerowlaw26.SessOrder'. -/
def sessOrderUptoCard : Claim7 := { stood := { row := sessOrderUptoRow, standIns := [], harness := (true, "65d87c27ac3cc82a8dd8fec9ba63a43fcb93f4c9da1e5431fd3b9258d239cf03"), looks := false }, kinds := [], alts := [], laidByText := true, laidKinds := [.data, .data], laidTests := true, laidLooks := .later }
def SessOrderUptoCardSaid : Prop := Claim7.holds Tryd.pinned (.plain (OpenSpec.upto sessOrderSpec)) sessOrderUptoCard
end Rows
end Go.Proofs.YtmdjonckcapkeaaDoor
