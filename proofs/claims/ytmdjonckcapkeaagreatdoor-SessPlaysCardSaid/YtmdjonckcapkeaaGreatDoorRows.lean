/-
  NARROWER THAN 'FOR EVERY INPUT', by the rows' own cells (each row's printed sentence says how): SessPlays: laid.
  DERIVED. THE GIVEN ROWS OF THIS SEAT. 1 by the template 'for every input the law returns true; each argument reads behind the call as it read before'; 0 by the template 'total and deterministic' (their statements: YtmdjonckcapkeaaGreatDoorTotals.lean).
  GIVEN WITH THE SEED: the statements are not yours to turn. If you find one false, say at which input.
  Laid BY PROGRAM, IN A SANDBOX (cutbox-rows.mjs): the forced cells as the released guide's own fill.sh prints them over the translation dfeffb519c041ff5… (all of the seat's roots in one cut). By AI agents, Wed Nov 11 2026. No macro, syntax, notation, axiom, sorry.
-/
import Derived.Test.YtmdjonckcapkeaaGreatDoorChecked
import GoSem.Claim
import GoSem.ClaimJoined
import GoSem.ClaimMapViews
import Derived.JoinedTies
import Derived.KernelRfl
namespace Go.Proofs.YtmdjonckcapkeaaGreatDoor
/- THE CELL 'sum', in the pinned program and in every row, IS THE sha256 OF THE DUMP (.gsa) THAT YtmdjonckcapkeaaGreatDoorProg.lean LOADS. Nothing in Lean hashes anything: it is a label: what it is worth is what the hold of that sum in a sandbox is worth. -/
noncomputable def Tryz.pinned : Pinned := { name := "ytmdjonckcapkeaagreatdoor", sum := "dfeffb519c041ff50fb62c6ae43f80950dca49d4009881dfef1ea083f5b8d673", checked := Tryz.checked }
namespace Rows
def none {H : Type} : Left H := { results := [], args := [] }

/- WHAT THE LISTED PACKAGE-LEVEL VARIABLES READ AS WHEN THE CALL BEGINS. Each datum BY PROGRAM (the guide's laid-datum.mjs) off the statement by which the dump's own 'gosem.cut.vars' lays the variable. In a bare row this is a premise. The card (YtmdjonckcapkeaaGreatDoorCards.lean) ties it to the program's text. -/
def laid_hedgerow_wire_fieldsOf {H : Type} : DataW H := .agg [.lit (.string []), .lit (.string []), .lit (.string []), .lit (.string []), .lit (.string [110]), .lit (.string [110]), .lit (.string [111]), .lit (.string [105]), .lit (.string [105]), .lit (.string [105, 101]), .lit (.string [105, 101]), .lit (.string [116]), .lit (.string [116, 110, 118]), .lit (.string [116, 110, 119, 120]), .lit (.string [116, 107]), .lit (.string [116, 107]), .lit (.string [114]), .lit (.string [109]), .lit (.string [116, 110]), .lit (.string [116, 110]), .lit (.string [])]
def laid_hedgerow_wire_opsOf {H : Type} : DataW H := .agg [.lit (.string []), .lit (.string [116]), .lit (.string [105, 99]), .lit (.string [116, 97, 98]), .lit (.string [105]), .lit (.string [105, 110, 119])]

/-- 'hedgerowlaw26.SessPlays': WHATEVER THE INPUT: true; the input reads as it did. -/
def sessPlaysSpec : ChangeSpec := { name := "sessPlays", fn := fun _ => fun
  | [d] => { results := [.lit (.bool true)], args := [d] }
  | _ => none }
def sessPlaysRow : OpenClaim := { program := "ytmdjonckcapkeaagreatdoor", sum := "dfeffb519c041ff50fb62c6ae43f80950dca49d4009881dfef1ea083f5b8d673", func := "hedgerow/hedgerowlaw26.SessPlays", spec := "sessPlays", inPlace := ["internal/abi.NoEscape"], unfollowed := true, recurses := true, named := ["hedgerow/wire.fieldsOf", "hedgerow/wire.opsOf"], plainKeys := false, apart := false, laid := [("hedgerow/wire.fieldsOf", laid_hedgerow_wire_fieldsOf), ("hedgerow/wire.opsOf", laid_hedgerow_wire_opsOf)] }
def SessPlaysSaid : Prop := sessPlaysRow.holds Tryz.pinned (OpenSpec.ofChange sessPlaysSpec)

/-- ITS FALSE NEIGHBOUR: 'it returns false'. Refute it at one input. -/
def sessPlaysWrong : ChangeSpec := { name := "sessPlays", fn := fun _ => fun
  | [d] => { results := [.lit (.bool false)], args := [d] }
  | _ => none }
def SessPlaysWrongFalsely : Prop := sessPlaysRow.holds Tryz.pinned (OpenSpec.ofChange sessPlaysWrong)

/- THE SECOND FORM. 'bulk': how many values and letters a reading holds, each counted each time it is reached (what is shared counts as often as it is met; a slice's spare places count too). A statement '..UptoSaid' is the law's where the arguments, and the package variables that the reading takes, are together of bulk at most 1048576: NARROWER than '..Said'. Prove '..Said' where nothing that the law and all that it calls make is longer than what came in: it says more and counts as full. Else prove '..UptoSaid'. A law counts once. -/
mutual
def uptoBulk {H : Type} : DataW H → Nat
  | .lit (.string bytes) => bytes.length + 1
  | .lit _ => 1
  | .nil => 1
  | .ptr d => uptoBulk d + 1
  | .slice elems spare => uptoBulkAll elems + uptoBulkAll spare + 1
  | .agg parts => uptoBulkAll parts + 1
  | .iface _ d => uptoBulk d + 1
  | .map entries => uptoBulkEntries entries + 1
  | .held _ => 1
def uptoBulkAll {H : Type} : List (DataW H) → Nat
  | [] => 0
  | d :: r => uptoBulk d + uptoBulkAll r
def uptoBulkEntries {H : Type} : List (Lit × DataW H) → Nat
  | [] => 0
  | x :: r => uptoBulkEntry x + uptoBulkEntries r
def uptoBulkEntry {H : Type} : Lit × DataW H → Nat
  | (.string bytes, d) => bytes.length + uptoBulk d + 1
  | (_, d) => uptoBulk d + 1
 end
def uptoSmall : (H : Type) → List (DataW H) → Bool := fun _ ds => decide (uptoBulkAll ds ≤ 1048576)
def OpenSpec.upto (s : _root_.Go.ChangeSpec) : _root_.Go.OpenSpec := { _root_.Go.OpenSpec.ofChange s with cond := some uptoSmall }

/-- 'hedgerowlaw26.SessPlays', WHERE WHAT IT READS IS OF BULK AT MOST 1048576: true; the input reads as it did. -/
def sessPlaysUptoRow : OpenClaim := { program := "ytmdjonckcapkeaagreatdoor", sum := "dfeffb519c041ff50fb62c6ae43f80950dca49d4009881dfef1ea083f5b8d673", func := "hedgerow/hedgerowlaw26.SessPlays", spec := "sessPlays", inPlace := ["internal/abi.NoEscape"], unfollowed := true, recurses := true, named := ["hedgerow/wire.fieldsOf", "hedgerow/wire.opsOf"], plainKeys := false, apart := false, laid := [("hedgerow/wire.fieldsOf", laid_hedgerow_wire_fieldsOf), ("hedgerow/wire.opsOf", laid_hedgerow_wire_opsOf)], narrowed := true }
def SessPlaysUptoSaid : Prop := sessPlaysUptoRow.holds Tryz.pinned (OpenSpec.upto sessPlaysSpec)

end Rows
end Go.Proofs.YtmdjonckcapkeaaGreatDoor
