/-
  No cell of these rows narrows 'for every input' (looked for: loops, veiled, ifaces, maps, wideKeys, modest, calm, conditions, laid).
  DERIVED. THE GIVEN ROWS OF THIS SEAT. 2 by the template 'for every input the law returns true; each argument reads behind the call as it read before'; 0 by the template 'total and deterministic' (their statements: YtnldokebmfojeaaGreatTotals.lean).
  GIVEN WITH THE SEED: the statements are not yours to turn. If you find one false, say at which input.
  Laid BY PROGRAM, IN A SANDBOX (cutbox-rows.mjs): the forced cells as the released guide's own fill.sh prints them over the translation f80e012aa48c7dad… (all of the seat's roots in one cut). By AI agents, Wed Nov 11 2026. No macro, syntax, notation, axiom, sorry.
-/
import Derived.Test.YtnldokebmfojeaaGreatChecked
import GoSem.Claim
import GoSem.ClaimJoined
import GoSem.ClaimMapViews
import Derived.JoinedTies
import Derived.KernelRfl
namespace Go.Proofs.YtnldokebmfojeaaGreat
/- THE CELL 'sum', in the pinned program and in every row, IS THE sha256 OF THE DUMP (.gsa) THAT YtnldokebmfojeaaGreatProg.lean LOADS. Nothing in Lean hashes anything: it is a label: what it is worth is what the hold of that sum in a sandbox is worth. -/
noncomputable def Tryz.pinned : Pinned := { name := "ytnldokebmfojeaagreat", sum := "f80e012aa48c7dadee18400cf0ec3a97959c40884f25e9d3e645ff05e5dbf47e", checked := Tryz.checked }
namespace Rows
def none {H : Type} : Left H := { results := [], args := [] }

/-- 'hedgerowlaw25.AnswerDecodes': WHATEVER THE INPUT: true; the input reads as it did. -/
def answerDecodesSpec : ChangeSpec := { name := "answerDecodes", fn := fun _ => fun
  | [d] => { results := [.lit (.bool true)], args := [d] }
  | _ => none }
def answerDecodesRow : OpenClaim := { program := "ytnldokebmfojeaagreat", sum := "f80e012aa48c7dadee18400cf0ec3a97959c40884f25e9d3e645ff05e5dbf47e", func := "hedgerow/hedgerowlaw25.AnswerDecodes", spec := "answerDecodes", inPlace := ["internal/abi.NoEscape"], unfollowed := true, recurses := true, plainKeys := false, apart := false }
def AnswerDecodesSaid : Prop := answerDecodesRow.holds Tryz.pinned (OpenSpec.ofChange answerDecodesSpec)

/-- ITS FALSE NEIGHBOUR: 'it returns false'. Refute it at one input. -/
def answerDecodesWrong : ChangeSpec := { name := "answerDecodes", fn := fun _ => fun
  | [d] => { results := [.lit (.bool false)], args := [d] }
  | _ => none }
def AnswerDecodesWrongFalsely : Prop := answerDecodesRow.holds Tryz.pinned (OpenSpec.ofChange answerDecodesWrong)

/-- 'hedgerowlaw25.AnswerEncodes': WHATEVER THE INPUT: true; the input reads as it did. -/
def answerEncodesSpec : ChangeSpec := { name := "answerEncodes", fn := fun _ => fun
  | [d] => { results := [.lit (.bool true)], args := [d] }
  | _ => none }
def answerEncodesRow : OpenClaim := { program := "ytnldokebmfojeaagreat", sum := "f80e012aa48c7dadee18400cf0ec3a97959c40884f25e9d3e645ff05e5dbf47e", func := "hedgerow/hedgerowlaw25.AnswerEncodes", spec := "answerEncodes", inPlace := ["internal/abi.NoEscape"], unfollowed := true, recurses := true, plainKeys := false, apart := false }
def AnswerEncodesSaid : Prop := answerEncodesRow.holds Tryz.pinned (OpenSpec.ofChange answerEncodesSpec)

/-- ITS FALSE NEIGHBOUR: 'it returns false'. Refute it at one input. -/
def answerEncodesWrong : ChangeSpec := { name := "answerEncodes", fn := fun _ => fun
  | [d] => { results := [.lit (.bool false)], args := [d] }
  | _ => none }
def AnswerEncodesWrongFalsely : Prop := answerEncodesRow.holds Tryz.pinned (OpenSpec.ofChange answerEncodesWrong)

/- THE SECOND FORM. 'bulk': how many values and letters a reading holds, each counted each time it is reached (what is shared counts as often as it is met; a slice's spare places count too). A statement '..UptoSaid' is the law's where the arguments, and the package variables that the reading takes, are together of bulk at most 1048576: NARROWER than '..Said'. Prove '..Said' where nothing that the law and all that it calls make is longer than what came in: it says more and counts as full. Else prove '..UptoSaid'. A law counts once. -/
mutual
def uptoBulk {H : Type} : DataW H → Nat
  | .lit (.string bytes) => bytes.length + 1
  | .lit _ => 1
  | .nil => 1
  | .ptr d => uptoBulk d + 1
  | .slice elems spare => uptoBulkAll elems + uptoBulkAll spare + 1
  | .agg parts => uptoBulkAll parts + 1
  | .iface _ d => uptoBulk d + 1
  | .map entries => uptoBulkEntries entries + 1
  | .held _ => 1
def uptoBulkAll {H : Type} : List (DataW H) → Nat
  | [] => 0
  | d :: r => uptoBulk d + uptoBulkAll r
def uptoBulkEntries {H : Type} : List (Lit × DataW H) → Nat
  | [] => 0
  | x :: r => uptoBulkEntry x + uptoBulkEntries r
def uptoBulkEntry {H : Type} : Lit × DataW H → Nat
  | (.string bytes, d) => bytes.length + uptoBulk d + 1
  | (_, d) => uptoBulk d + 1
 end
def uptoSmall : (H : Type) → List (DataW H) → Bool := fun _ ds => decide (uptoBulkAll ds ≤ 1048576)
def OpenSpec.upto (s : _root_.Go.ChangeSpec) : _root_.Go.OpenSpec := { _root_.Go.OpenSpec.ofChange s with cond := some uptoSmall }

/-- 'hedgerowlaw25.AnswerDecodes', WHERE WHAT IT READS IS OF BULK AT MOST 1048576: true; the input reads as it did. -/
def answerDecodesUptoRow : OpenClaim := { program := "ytnldokebmfojeaagreat", sum := "f80e012aa48c7dadee18400cf0ec3a97959c40884f25e9d3e645ff05e5dbf47e", func := "hedgerow/hedgerowlaw25.AnswerDecodes", spec := "answerDecodes", inPlace := ["internal/abi.NoEscape"], unfollowed := true, recurses := true, plainKeys := false, apart := false, narrowed := true }
def AnswerDecodesUptoSaid : Prop := answerDecodesUptoRow.holds Tryz.pinned (OpenSpec.upto answerDecodesSpec)

/-- 'hedgerowlaw25.AnswerEncodes', WHERE WHAT IT READS IS OF BULK AT MOST 1048576: true; the input reads as it did. -/
def answerEncodesUptoRow : OpenClaim := { program := "ytnldokebmfojeaagreat", sum := "f80e012aa48c7dadee18400cf0ec3a97959c40884f25e9d3e645ff05e5dbf47e", func := "hedgerow/hedgerowlaw25.AnswerEncodes", spec := "answerEncodes", inPlace := ["internal/abi.NoEscape"], unfollowed := true, recurses := true, plainKeys := false, apart := false, narrowed := true }
def AnswerEncodesUptoSaid : Prop := answerEncodesUptoRow.holds Tryz.pinned (OpenSpec.upto answerEncodesSpec)

end Rows
end Go.Proofs.YtnldokebmfojeaaGreat
