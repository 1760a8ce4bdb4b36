/-
  NARROWER THAN 'FOR EVERY INPUT', by the rows' own cells (each row's printed sentence says how): WireEncodes: laid · WireDecodes: laid · WireNexts: laid · WireBack: laid · WireStreams: laid.
  DERIVED. THE GIVEN ROWS OF THIS SEAT. 5 by the template 'for every input the law returns true; each argument reads behind the call as it read before'; 0 by the template 'total and deterministic' (their statements: YtnldokebmfojeaaDoorTotals.lean).
  GIVEN WITH THE SEED: the statements are not yours to turn. If you find one false, say at which input.
  Laid BY PROGRAM, IN A SANDBOX (cutbox-rows.mjs): the forced cells as the released guide's own fill.sh prints them over the translation 84ff54b376542ea8… (all of the seat's roots in one cut). By AI agents, Wed Nov 11 2026. No macro, syntax, notation, axiom, sorry.
-/
import Derived.Test.YtnldokebmfojeaaDoorChecked
import GoSem.Claim
import GoSem.ClaimJoined
import GoSem.ClaimMapViews
import Derived.JoinedTies
import Derived.KernelRfl
namespace Go.Proofs.YtnldokebmfojeaaDoor
/- THE CELL 'sum', in the pinned program and in every row, IS THE sha256 OF THE DUMP (.gsa) THAT YtnldokebmfojeaaDoorProg.lean LOADS. Nothing in Lean hashes anything: it is a label: what it is worth is what the hold of that sum in a sandbox is worth. -/
noncomputable def Tryd.pinned : Pinned := { name := "ytnldokebmfojeaadoor", sum := "84ff54b376542ea870059ad9bd150f2964849d1d3dff2cc78ccc59ec3ffd8c7a", checked := Tryd.checked }
namespace Rows
def none {H : Type} : Left H := { results := [], args := [] }

/- WHAT THE LISTED PACKAGE-LEVEL VARIABLES READ AS WHEN THE CALL BEGINS. Each datum BY PROGRAM (the guide's laid-datum.mjs) off the statement by which the dump's own 'gosem.cut.vars' lays the variable. In a bare row this is a premise. The card (YtnldokebmfojeaaDoorCards.lean) ties it to the program's text. -/
def laid_hedgerow_wire_fieldsOf {H : Type} : DataW H := .agg [.lit (.string []), .lit (.string []), .lit (.string []), .lit (.string []), .lit (.string [110]), .lit (.string [110]), .lit (.string [111]), .lit (.string [105]), .lit (.string [105]), .lit (.string [105, 101]), .lit (.string [105, 101]), .lit (.string [116]), .lit (.string [116, 110, 118]), .lit (.string [116, 110, 119, 120]), .lit (.string [116, 107]), .lit (.string [116, 107]), .lit (.string [114]), .lit (.string [109]), .lit (.string [116, 110]), .lit (.string [116, 110]), .lit (.string [])]
def laid_hedgerow_wire_opsOf {H : Type} : DataW H := .agg [.lit (.string []), .lit (.string [116]), .lit (.string [105, 99]), .lit (.string [116, 97, 98]), .lit (.string [105]), .lit (.string [105, 110, 119])]

/-- 'hedgerowlaw24.WireEncodes': WHATEVER THE INPUT: true; the input reads as it did. -/
def wireEncodesSpec : ChangeSpec := { name := "wireEncodes", fn := fun _ => fun
  | [d] => { results := [.lit (.bool true)], args := [d] }
  | _ => none }
def wireEncodesRow : OpenClaim := { program := "ytnldokebmfojeaadoor", sum := "84ff54b376542ea870059ad9bd150f2964849d1d3dff2cc78ccc59ec3ffd8c7a", func := "hedgerow/hedgerowlaw24.WireEncodes", spec := "wireEncodes", unfollowed := true, recurses := true, named := ["hedgerow/wire.fieldsOf", "hedgerow/wire.opsOf"], apart := false, laid := [("hedgerow/wire.fieldsOf", laid_hedgerow_wire_fieldsOf), ("hedgerow/wire.opsOf", laid_hedgerow_wire_opsOf)] }
def WireEncodesSaid : Prop := wireEncodesRow.holds Tryd.pinned (OpenSpec.ofChange wireEncodesSpec)

/-- ITS FALSE NEIGHBOUR: 'it returns false'. Refute it at one input. -/
def wireEncodesWrong : ChangeSpec := { name := "wireEncodes", fn := fun _ => fun
  | [d] => { results := [.lit (.bool false)], args := [d] }
  | _ => none }
def WireEncodesWrongFalsely : Prop := wireEncodesRow.holds Tryd.pinned (OpenSpec.ofChange wireEncodesWrong)

/-- 'hedgerowlaw24.WireDecodes': WHATEVER THE INPUT: true; the input reads as it did. -/
def wireDecodesSpec : ChangeSpec := { name := "wireDecodes", fn := fun _ => fun
  | [d] => { results := [.lit (.bool true)], args := [d] }
  | _ => none }
def wireDecodesRow : OpenClaim := { program := "ytnldokebmfojeaadoor", sum := "84ff54b376542ea870059ad9bd150f2964849d1d3dff2cc78ccc59ec3ffd8c7a", func := "hedgerow/hedgerowlaw24.WireDecodes", spec := "wireDecodes", unfollowed := true, recurses := true, named := ["hedgerow/wire.fieldsOf", "hedgerow/wire.opsOf"], apart := false, laid := [("hedgerow/wire.fieldsOf", laid_hedgerow_wire_fieldsOf), ("hedgerow/wire.opsOf", laid_hedgerow_wire_opsOf)] }
def WireDecodesSaid : Prop := wireDecodesRow.holds Tryd.pinned (OpenSpec.ofChange wireDecodesSpec)

/-- ITS FALSE NEIGHBOUR: 'it returns false'. Refute it at one input. -/
def wireDecodesWrong : ChangeSpec := { name := "wireDecodes", fn := fun _ => fun
  | [d] => { results := [.lit (.bool false)], args := [d] }
  | _ => none }
def WireDecodesWrongFalsely : Prop := wireDecodesRow.holds Tryd.pinned (OpenSpec.ofChange wireDecodesWrong)

/-- 'hedgerowlaw24.WireNexts': WHATEVER THE INPUT: true; the input reads as it did. -/
def wireNextsSpec : ChangeSpec := { name := "wireNexts", fn := fun _ => fun
  | [d] => { results := [.lit (.bool true)], args := [d] }
  | _ => none }
def wireNextsRow : OpenClaim := { program := "ytnldokebmfojeaadoor", sum := "84ff54b376542ea870059ad9bd150f2964849d1d3dff2cc78ccc59ec3ffd8c7a", func := "hedgerow/hedgerowlaw24.WireNexts", spec := "wireNexts", unfollowed := true, recurses := true, named := ["hedgerow/wire.fieldsOf", "hedgerow/wire.opsOf"], apart := false, laid := [("hedgerow/wire.fieldsOf", laid_hedgerow_wire_fieldsOf), ("hedgerow/wire.opsOf", laid_hedgerow_wire_opsOf)] }
def WireNextsSaid : Prop := wireNextsRow.holds Tryd.pinned (OpenSpec.ofChange wireNextsSpec)

/-- ITS FALSE NEIGHBOUR: 'it returns false'. Refute it at one input. -/
def wireNextsWrong : ChangeSpec := { name := "wireNexts", fn := fun _ => fun
  | [d] => { results := [.lit (.bool false)], args := [d] }
  | _ => none }
def WireNextsWrongFalsely : Prop := wireNextsRow.holds Tryd.pinned (OpenSpec.ofChange wireNextsWrong)

/-- 'hedgerowlaw24.WireBack': WHATEVER THE INPUT: true; the input reads as it did. -/
def wireBackSpec : ChangeSpec := { name := "wireBack", fn := fun _ => fun
  | [d1, d2] => { results := [.lit (.bool true)], args := [d1, d2] }
  | _ => none }
def wireBackRow : OpenClaim := { program := "ytnldokebmfojeaadoor", sum := "84ff54b376542ea870059ad9bd150f2964849d1d3dff2cc78ccc59ec3ffd8c7a", func := "hedgerow/hedgerowlaw24.WireBack", spec := "wireBack", unfollowed := true, recurses := true, named := ["hedgerow/wire.fieldsOf", "hedgerow/wire.opsOf"], apart := false, laid := [("hedgerow/wire.fieldsOf", laid_hedgerow_wire_fieldsOf), ("hedgerow/wire.opsOf", laid_hedgerow_wire_opsOf)] }
def WireBackSaid : Prop := wireBackRow.holds Tryd.pinned (OpenSpec.ofChange wireBackSpec)

/-- ITS FALSE NEIGHBOUR: 'it returns false'. Refute it at one input. -/
def wireBackWrong : ChangeSpec := { name := "wireBack", fn := fun _ => fun
  | [d1, d2] => { results := [.lit (.bool false)], args := [d1, d2] }
  | _ => none }
def WireBackWrongFalsely : Prop := wireBackRow.holds Tryd.pinned (OpenSpec.ofChange wireBackWrong)

/-- 'hedgerowlaw24.WireStreams': WHATEVER THE INPUT: true; the input reads as it did. -/
def wireStreamsSpec : ChangeSpec := { name := "wireStreams", fn := fun _ => fun
  | [d1, d2] => { results := [.lit (.bool true)], args := [d1, d2] }
  | _ => none }
def wireStreamsRow : OpenClaim := { program := "ytnldokebmfojeaadoor", sum := "84ff54b376542ea870059ad9bd150f2964849d1d3dff2cc78ccc59ec3ffd8c7a", func := "hedgerow/hedgerowlaw24.WireStreams", spec := "wireStreams", unfollowed := true, recurses := true, named := ["hedgerow/wire.fieldsOf", "hedgerow/wire.opsOf"], apart := false, laid := [("hedgerow/wire.fieldsOf", laid_hedgerow_wire_fieldsOf), ("hedgerow/wire.opsOf", laid_hedgerow_wire_opsOf)] }
def WireStreamsSaid : Prop := wireStreamsRow.holds Tryd.pinned (OpenSpec.ofChange wireStreamsSpec)

/-- ITS FALSE NEIGHBOUR: 'it returns false'. Refute it at one input. -/
def wireStreamsWrong : ChangeSpec := { name := "wireStreams", fn := fun _ => fun
  | [d1, d2] => { results := [.lit (.bool false)], args := [d1, d2] }
  | _ => none }
def WireStreamsWrongFalsely : Prop := wireStreamsRow.holds Tryd.pinned (OpenSpec.ofChange wireStreamsWrong)

/- THE SECOND FORM. 'bulk': how many values and letters a reading holds, each counted each time it is reached (what is shared counts as often as it is met; a slice's spare places count too). A statement '..UptoSaid' is the law's where the arguments, and the package variables that the reading takes, are together of bulk at most 1048576: NARROWER than '..Said'. Prove '..Said' where nothing that the law and all that it calls make is longer than what came in: it says more and counts as full. Else prove '..UptoSaid'. A law counts once. -/
mutual
def uptoBulk {H : Type} : DataW H → Nat
  | .lit (.string bytes) => bytes.length + 1
  | .lit _ => 1
  | .nil => 1
  | .ptr d => uptoBulk d + 1
  | .slice elems spare => uptoBulkAll elems + uptoBulkAll spare + 1
  | .agg parts => uptoBulkAll parts + 1
  | .iface _ d => uptoBulk d + 1
  | .map entries => uptoBulkEntries entries + 1
  | .held _ => 1
def uptoBulkAll {H : Type} : List (DataW H) → Nat
  | [] => 0
  | d :: r => uptoBulk d + uptoBulkAll r
def uptoBulkEntries {H : Type} : List (Lit × DataW H) → Nat
  | [] => 0
  | x :: r => uptoBulkEntry x + uptoBulkEntries r
def uptoBulkEntry {H : Type} : Lit × DataW H → Nat
  | (.string bytes, d) => bytes.length + uptoBulk d + 1
  | (_, d) => uptoBulk d + 1
 end
def uptoSmall : (H : Type) → List (DataW H) → Bool := fun _ ds => decide (uptoBulkAll ds ≤ 1048576)
def OpenSpec.upto (s : _root_.Go.ChangeSpec) : _root_.Go.OpenSpec := { _root_.Go.OpenSpec.ofChange s with cond := some uptoSmall }

/-- 'hedgerowlaw24.WireEncodes', WHERE WHAT IT READS IS OF BULK AT MOST 1048576: true; the input reads as it did. -/
def wireEncodesUptoRow : OpenClaim := { program := "ytnldokebmfojeaadoor", sum := "84ff54b376542ea870059ad9bd150f2964849d1d3dff2cc78ccc59ec3ffd8c7a", func := "hedgerow/hedgerowlaw24.WireEncodes", spec := "wireEncodes", unfollowed := true, recurses := true, named := ["hedgerow/wire.fieldsOf", "hedgerow/wire.opsOf"], apart := false, laid := [("hedgerow/wire.fieldsOf", laid_hedgerow_wire_fieldsOf), ("hedgerow/wire.opsOf", laid_hedgerow_wire_opsOf)], narrowed := true }
def WireEncodesUptoSaid : Prop := wireEncodesUptoRow.holds Tryd.pinned (OpenSpec.upto wireEncodesSpec)

/-- 'hedgerowlaw24.WireDecodes', WHERE WHAT IT READS IS OF BULK AT MOST 1048576: true; the input reads as it did. -/
def wireDecodesUptoRow : OpenClaim := { program := "ytnldokebmfojeaadoor", sum := "84ff54b376542ea870059ad9bd150f2964849d1d3dff2cc78ccc59ec3ffd8c7a", func := "hedgerow/hedgerowlaw24.WireDecodes", spec := "wireDecodes", unfollowed := true, recurses := true, named := ["hedgerow/wire.fieldsOf", "hedgerow/wire.opsOf"], apart := false, laid := [("hedgerow/wire.fieldsOf", laid_hedgerow_wire_fieldsOf), ("hedgerow/wire.opsOf", laid_hedgerow_wire_opsOf)], narrowed := true }
def WireDecodesUptoSaid : Prop := wireDecodesUptoRow.holds Tryd.pinned (OpenSpec.upto wireDecodesSpec)

/-- 'hedgerowlaw24.WireNexts', WHERE WHAT IT READS IS OF BULK AT MOST 1048576: true; the input reads as it did. -/
def wireNextsUptoRow : OpenClaim := { program := "ytnldokebmfojeaadoor", sum := "84ff54b376542ea870059ad9bd150f2964849d1d3dff2cc78ccc59ec3ffd8c7a", func := "hedgerow/hedgerowlaw24.WireNexts", spec := "wireNexts", unfollowed := true, recurses := true, named := ["hedgerow/wire.fieldsOf", "hedgerow/wire.opsOf"], apart := false, laid := [("hedgerow/wire.fieldsOf", laid_hedgerow_wire_fieldsOf), ("hedgerow/wire.opsOf", laid_hedgerow_wire_opsOf)], narrowed := true }
def WireNextsUptoSaid : Prop := wireNextsUptoRow.holds Tryd.pinned (OpenSpec.upto wireNextsSpec)

/-- 'hedgerowlaw24.WireBack', WHERE WHAT IT READS IS OF BULK AT MOST 1048576: true; the input reads as it did. -/
def wireBackUptoRow : OpenClaim := { program := "ytnldokebmfojeaadoor", sum := "84ff54b376542ea870059ad9bd150f2964849d1d3dff2cc78ccc59ec3ffd8c7a", func := "hedgerow/hedgerowlaw24.WireBack", spec := "wireBack", unfollowed := true, recurses := true, named := ["hedgerow/wire.fieldsOf", "hedgerow/wire.opsOf"], apart := false, laid := [("hedgerow/wire.fieldsOf", laid_hedgerow_wire_fieldsOf), ("hedgerow/wire.opsOf", laid_hedgerow_wire_opsOf)], narrowed := true }
def WireBackUptoSaid : Prop := wireBackUptoRow.holds Tryd.pinned (OpenSpec.upto wireBackSpec)

/-- 'hedgerowlaw24.WireStreams', WHERE WHAT IT READS IS OF BULK AT MOST 1048576: true; the input reads as it did. -/
def wireStreamsUptoRow : OpenClaim := { program := "ytnldokebmfojeaadoor", sum := "84ff54b376542ea870059ad9bd150f2964849d1d3dff2cc78ccc59ec3ffd8c7a", func := "hedgerow/hedgerowlaw24.WireStreams", spec := "wireStreams", unfollowed := true, recurses := true, named := ["hedgerow/wire.fieldsOf", "hedgerow/wire.opsOf"], apart := false, laid := [("hedgerow/wire.fieldsOf", laid_hedgerow_wire_fieldsOf), ("hedgerow/wire.opsOf", laid_hedgerow_wire_opsOf)], narrowed := true }
def WireStreamsUptoSaid : Prop := wireStreamsUptoRow.holds Tryd.pinned (OpenSpec.upto wireStreamsSpec)

end Rows
end Go.Proofs.YtnldokebmfojeaaDoor
