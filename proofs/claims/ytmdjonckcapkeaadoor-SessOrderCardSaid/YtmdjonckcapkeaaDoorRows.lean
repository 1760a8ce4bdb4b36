/-
  NARROWER THAN 'FOR EVERY INPUT', by the rows' own cells (each row's printed sentence says how): SessCuts: laid · SessMany: laid · SessNone: laid · SessOrder: laid.
  DERIVED. THE GIVEN ROWS OF THIS SEAT. 4 by the template 'for every input the law returns true; each argument reads behind the call as it read before'; 0 by the template 'total and deterministic' (their statements: YtmdjonckcapkeaaDoorTotals.lean).
  GIVEN WITH THE SEED: the statements are not yours to turn. If you find one false, say at which input.
  Laid BY PROGRAM, IN A SANDBOX (cutbox-rows.mjs): the forced cells as the released guide's own fill.sh prints them over the translation 71a4bb2550d2d61a… (all of the seat's roots in one cut). By AI agents, Wed Nov 11 2026. No macro, syntax, notation, axiom, sorry.
-/
import Derived.Test.YtmdjonckcapkeaaDoorChecked
import GoSem.Claim
import GoSem.ClaimJoined
import GoSem.ClaimMapViews
import Derived.JoinedTies
import Derived.KernelRfl
namespace Go.Proofs.YtmdjonckcapkeaaDoor
/- THE CELL 'sum', in the pinned program and in every row, IS THE sha256 OF THE DUMP (.gsa) THAT YtmdjonckcapkeaaDoorProg.lean LOADS. Nothing in Lean hashes anything: it is a label: what it is worth is what the hold of that sum in a sandbox is worth. -/
noncomputable def Tryd.pinned : Pinned := { name := "ytmdjonckcapkeaadoor", sum := "71a4bb2550d2d61a2982d0549dbb35365e1ec2a173eec6dea152c9a69742f914", checked := Tryd.checked }
namespace Rows
def none {H : Type} : Left H := { results := [], args := [] }

/- WHAT THE LISTED PACKAGE-LEVEL VARIABLES READ AS WHEN THE CALL BEGINS. Each datum BY PROGRAM (the guide's laid-datum.mjs) off the statement by which the dump's own 'gosem.cut.vars' lays the variable. In a bare row this is a premise. The card (YtmdjonckcapkeaaDoorCards.lean) ties it to the program's text. -/
def laid_hedgerow_wire_fieldsOf {H : Type} : DataW H := .agg [.lit (.string []), .lit (.string []), .lit (.string []), .lit (.string []), .lit (.string [110]), .lit (.string [110]), .lit (.string [111]), .lit (.string [105]), .lit (.string [105]), .lit (.string [105, 101]), .lit (.string [105, 101]), .lit (.string [116]), .lit (.string [116, 110, 118]), .lit (.string [116, 110, 119, 120]), .lit (.string [116, 107]), .lit (.string [116, 107]), .lit (.string [114]), .lit (.string [109]), .lit (.string [116, 110]), .lit (.string [116, 110]), .lit (.string [])]
def laid_hedgerow_wire_opsOf {H : Type} : DataW H := .agg [.lit (.string []), .lit (.string [116]), .lit (.string [105, 99]), .lit (.string [116, 97, 98]), .lit (.string [105]), .lit (.string [105, 110, 119])]

/-- 'hedgerowlaw26.SessCuts': WHATEVER THE INPUT: true; the input reads as it did. -/
def sessCutsSpec : ChangeSpec := { name := "sessCuts", fn := fun _ => fun
  | [d1, d2] => { results := [.lit (.bool true)], args := [d1, d2] }
  | _ => none }
def sessCutsRow : OpenClaim := { program := "ytmdjonckcapkeaadoor", sum := "71a4bb2550d2d61a2982d0549dbb35365e1ec2a173eec6dea152c9a69742f914", func := "hedgerow/hedgerowlaw26.SessCuts", spec := "sessCuts", inPlace := ["internal/abi.NoEscape"], unfollowed := true, recurses := true, named := ["hedgerow/wire.fieldsOf", "hedgerow/wire.opsOf"], plainKeys := false, apart := false, laid := [("hedgerow/wire.fieldsOf", laid_hedgerow_wire_fieldsOf), ("hedgerow/wire.opsOf", laid_hedgerow_wire_opsOf)] }
def SessCutsSaid : Prop := sessCutsRow.holds Tryd.pinned (OpenSpec.ofChange sessCutsSpec)

/-- ITS FALSE NEIGHBOUR: 'it returns false'. Refute it at one input. -/
def sessCutsWrong : ChangeSpec := { name := "sessCuts", fn := fun _ => fun
  | [d1, d2] => { results := [.lit (.bool false)], args := [d1, d2] }
  | _ => none }
def SessCutsWrongFalsely : Prop := sessCutsRow.holds Tryd.pinned (OpenSpec.ofChange sessCutsWrong)

/-- 'hedgerowlaw26.SessMany': WHATEVER THE INPUT: true; the input reads as it did. -/
def sessManySpec : ChangeSpec := { name := "sessMany", fn := fun _ => fun
  | [d] => { results := [.lit (.bool true)], args := [d] }
  | _ => none }
def sessManyRow : OpenClaim := { program := "ytmdjonckcapkeaadoor", sum := "71a4bb2550d2d61a2982d0549dbb35365e1ec2a173eec6dea152c9a69742f914", func := "hedgerow/hedgerowlaw26.SessMany", spec := "sessMany", inPlace := ["internal/abi.NoEscape"], unfollowed := true, recurses := true, named := ["hedgerow/wire.fieldsOf", "hedgerow/wire.opsOf"], plainKeys := false, apart := false, laid := [("hedgerow/wire.fieldsOf", laid_hedgerow_wire_fieldsOf), ("hedgerow/wire.opsOf", laid_hedgerow_wire_opsOf)] }
def SessManySaid : Prop := sessManyRow.holds Tryd.pinned (OpenSpec.ofChange sessManySpec)

/-- ITS FALSE NEIGHBOUR: 'it returns false'. Refute it at one input. -/
def sessManyWrong : ChangeSpec := { name := "sessMany", fn := fun _ => fun
  | [d] => { results := [.lit (.bool false)], args := [d] }
  | _ => none }
def SessManyWrongFalsely : Prop := sessManyRow.holds Tryd.pinned (OpenSpec.ofChange sessManyWrong)

/-- 'hedgerowlaw26.SessNone': WHATEVER THE INPUT: true; the input reads as it did. -/
def sessNoneSpec : ChangeSpec := { name := "sessNone", fn := fun _ => fun
  | [d] => { results := [.lit (.bool true)], args := [d] }
  | _ => none }
def sessNoneRow : OpenClaim := { program := "ytmdjonckcapkeaadoor", sum := "71a4bb2550d2d61a2982d0549dbb35365e1ec2a173eec6dea152c9a69742f914", func := "hedgerow/hedgerowlaw26.SessNone", spec := "sessNone", inPlace := ["internal/abi.NoEscape"], unfollowed := true, recurses := true, named := ["hedgerow/wire.fieldsOf", "hedgerow/wire.opsOf"], plainKeys := false, apart := false, laid := [("hedgerow/wire.fieldsOf", laid_hedgerow_wire_fieldsOf), ("hedgerow/wire.opsOf", laid_hedgerow_wire_opsOf)] }
def SessNoneSaid : Prop := sessNoneRow.holds Tryd.pinned (OpenSpec.ofChange sessNoneSpec)

/-- ITS FALSE NEIGHBOUR: 'it returns false'. Refute it at one input. -/
def sessNoneWrong : ChangeSpec := { name := "sessNone", fn := fun _ => fun
  | [d] => { results := [.lit (.bool false)], args := [d] }
  | _ => none }
def SessNoneWrongFalsely : Prop := sessNoneRow.holds Tryd.pinned (OpenSpec.ofChange sessNoneWrong)

/-- 'hedgerowlaw26.SessOrder': WHATEVER THE INPUT: true; the input reads as it did. -/
def sessOrderSpec : ChangeSpec := { name := "sessOrder", fn := fun _ => fun
  | [d] => { results := [.lit (.bool true)], args := [d] }
  | _ => none }
def sessOrderRow : OpenClaim := { program := "ytmdjonckcapkeaadoor", sum := "71a4bb2550d2d61a2982d0549dbb35365e1ec2a173eec6dea152c9a69742f914", func := "hedgerow/hedgerowlaw26.SessOrder", spec := "sessOrder", inPlace := ["internal/abi.NoEscape"], unfollowed := true, recurses := true, named := ["hedgerow/wire.fieldsOf", "hedgerow/wire.opsOf"], plainKeys := false, apart := false, laid := [("hedgerow/wire.fieldsOf", laid_hedgerow_wire_fieldsOf), ("hedgerow/wire.opsOf", laid_hedgerow_wire_opsOf)] }
def SessOrderSaid : Prop := sessOrderRow.holds Tryd.pinned (OpenSpec.ofChange sessOrderSpec)

/-- ITS FALSE NEIGHBOUR: 'it returns false'. Refute it at one input. -/
def sessOrderWrong : ChangeSpec := { name := "sessOrder", fn := fun _ => fun
  | [d] => { results := [.lit (.bool false)], args := [d] }
  | _ => none }
def SessOrderWrongFalsely : Prop := sessOrderRow.holds Tryd.pinned (OpenSpec.ofChange sessOrderWrong)

/- THE SECOND FORM. 'bulk': how many values and letters a reading holds, each counted each time it is reached (what is shared counts as often as it is met; a slice's spare places count too). A statement '..UptoSaid' is the law's where the arguments, and the package variables that the reading takes, are together of bulk at most 1048576: NARROWER than '..Said'. Prove '..Said' where nothing that the law and all that it calls make is longer than what came in: it says more and counts as full. Else prove '..UptoSaid'. A law counts once. -/
mutual
def uptoBulk {H : Type} : DataW H → Nat
  | .lit (.string bytes) => bytes.length + 1
  | .lit _ => 1
  | .nil => 1
  | .ptr d => uptoBulk d + 1
  | .slice elems spare => uptoBulkAll elems + uptoBulkAll spare + 1
  | .agg parts => uptoBulkAll parts + 1
  | .iface _ d => uptoBulk d + 1
  | .map entries => uptoBulkEntries entries + 1
  | .held _ => 1
def uptoBulkAll {H : Type} : List (DataW H) → Nat
  | [] => 0
  | d :: r => uptoBulk d + uptoBulkAll r
def uptoBulkEntries {H : Type} : List (Lit × DataW H) → Nat
  | [] => 0
  | x :: r => uptoBulkEntry x + uptoBulkEntries r
def uptoBulkEntry {H : Type} : Lit × DataW H → Nat
  | (.string bytes, d) => bytes.length + uptoBulk d + 1
  | (_, d) => uptoBulk d + 1
 end
def uptoSmall : (H : Type) → List (DataW H) → Bool := fun _ ds => decide (uptoBulkAll ds ≤ 1048576)
def OpenSpec.upto (s : _root_.Go.ChangeSpec) : _root_.Go.OpenSpec := { _root_.Go.OpenSpec.ofChange s with cond := some uptoSmall }

/-- 'hedgerowlaw26.SessCuts', WHERE WHAT IT READS IS OF BULK AT MOST 1048576: true; the input reads as it did. -/
def sessCutsUptoRow : OpenClaim := { program := "ytmdjonckcapkeaadoor", sum := "71a4bb2550d2d61a2982d0549dbb35365e1ec2a173eec6dea152c9a69742f914", func := "hedgerow/hedgerowlaw26.SessCuts", spec := "sessCuts", inPlace := ["internal/abi.NoEscape"], unfollowed := true, recurses := true, named := ["hedgerow/wire.fieldsOf", "hedgerow/wire.opsOf"], plainKeys := false, apart := false, laid := [("hedgerow/wire.fieldsOf", laid_hedgerow_wire_fieldsOf), ("hedgerow/wire.opsOf", laid_hedgerow_wire_opsOf)], narrowed := true }
def SessCutsUptoSaid : Prop := sessCutsUptoRow.holds Tryd.pinned (OpenSpec.upto sessCutsSpec)

/-- 'hedgerowlaw26.SessMany', WHERE WHAT IT READS IS OF BULK AT MOST 1048576: true; the input reads as it did. -/
def sessManyUptoRow : OpenClaim := { program := "ytmdjonckcapkeaadoor", sum := "71a4bb2550d2d61a2982d0549dbb35365e1ec2a173eec6dea152c9a69742f914", func := "hedgerow/hedgerowlaw26.SessMany", spec := "sessMany", inPlace := ["internal/abi.NoEscape"], unfollowed := true, recurses := true, named := ["hedgerow/wire.fieldsOf", "hedgerow/wire.opsOf"], plainKeys := false, apart := false, laid := [("hedgerow/wire.fieldsOf", laid_hedgerow_wire_fieldsOf), ("hedgerow/wire.opsOf", laid_hedgerow_wire_opsOf)], narrowed := true }
def SessManyUptoSaid : Prop := sessManyUptoRow.holds Tryd.pinned (OpenSpec.upto sessManySpec)

/-- 'hedgerowlaw26.SessNone', WHERE WHAT IT READS IS OF BULK AT MOST 1048576: true; the input reads as it did. -/
def sessNoneUptoRow : OpenClaim := { program := "ytmdjonckcapkeaadoor", sum := "71a4bb2550d2d61a2982d0549dbb35365e1ec2a173eec6dea152c9a69742f914", func := "hedgerow/hedgerowlaw26.SessNone", spec := "sessNone", inPlace := ["internal/abi.NoEscape"], unfollowed := true, recurses := true, named := ["hedgerow/wire.fieldsOf", "hedgerow/wire.opsOf"], plainKeys := false, apart := false, laid := [("hedgerow/wire.fieldsOf", laid_hedgerow_wire_fieldsOf), ("hedgerow/wire.opsOf", laid_hedgerow_wire_opsOf)], narrowed := true }
def SessNoneUptoSaid : Prop := sessNoneUptoRow.holds Tryd.pinned (OpenSpec.upto sessNoneSpec)

/-- 'hedgerowlaw26.SessOrder', WHERE WHAT IT READS IS OF BULK AT MOST 1048576: true; the input reads as it did. -/
def sessOrderUptoRow : OpenClaim := { program := "ytmdjonckcapkeaadoor", sum := "71a4bb2550d2d61a2982d0549dbb35365e1ec2a173eec6dea152c9a69742f914", func := "hedgerow/hedgerowlaw26.SessOrder", spec := "sessOrder", inPlace := ["internal/abi.NoEscape"], unfollowed := true, recurses := true, named := ["hedgerow/wire.fieldsOf", "hedgerow/wire.opsOf"], plainKeys := false, apart := false, laid := [("hedgerow/wire.fieldsOf", laid_hedgerow_wire_fieldsOf), ("hedgerow/wire.opsOf", laid_hedgerow_wire_opsOf)], narrowed := true }
def SessOrderUptoSaid : Prop := sessOrderUptoRow.holds Tryd.pinned (OpenSpec.upto sessOrderSpec)

end Rows
end Go.Proofs.YtmdjonckcapkeaaDoor
