/-
  No cell of these rows narrows 'for every input' (looked for: loops, veiled, ifaces, maps, wideKeys, modest, calm, conditions, laid).
  DERIVED. THE GIVEN ROWS OF THIS SEAT. 12 by the template 'for every input the law returns true; each argument reads behind the call as it read before'; 0 by the template 'total and deterministic' (their statements: YtfpgjaallhpddaaTotals.lean).
  GIVEN WITH THE SEED: the statements are not yours to turn. If you find one false, say at which input.
  Laid BY PROGRAM, IN A SANDBOX (cutbox-rows.mjs): the forced cells as the released guide's own fill.sh prints them over the translation 49693e0320e2056c… (all of the seat's roots in one cut). By AI agents, Wed Nov 11 2026. No macro, syntax, notation, axiom, sorry.
-/
import Derived.Test.YtfpgjaallhpddaaChecked
import GoSem.Claim
import GoSem.ClaimJoined
import GoSem.ClaimMapViews
import Derived.JoinedTies
import Derived.KernelRfl
namespace Go.Proofs.Ytfpgjaallhpddaa
/- THE CELL 'sum', in the pinned program and in every row, IS THE sha256 OF THE DUMP (.gsa) THAT YtfpgjaallhpddaaProg.lean LOADS. Nothing in Lean hashes anything: it is a label: what it is worth is what the hold of that sum in a sandbox is worth. -/
noncomputable def Try.pinned : Pinned := { name := "ytfpgjaallhpddaa", sum := "49693e0320e2056c5517f4656fffbcb450185e88140fda6db7932ac3c9e43560", checked := Try.checked }
namespace Rows
def none {H : Type} : Left H := { results := [], args := [] }

/-- 'hedgerowlaw15.RuleKeeps': WHATEVER THE INPUT: true; the input reads as it did. -/
def ruleKeepsSpec : ChangeSpec := { name := "ruleKeeps", fn := fun _ => fun
  | [d1, d2, d3] => { results := [.lit (.bool true)], args := [d1, d2, d3] }
  | _ => none }
def ruleKeepsRow : OpenClaim := { program := "ytfpgjaallhpddaa", sum := "49693e0320e2056c5517f4656fffbcb450185e88140fda6db7932ac3c9e43560", func := "hedgerow/hedgerowlaw15.RuleKeeps", spec := "ruleKeeps", unfollowed := true, recurses := true, plainKeys := false, apart := false }
def RuleKeepsSaid : Prop := ruleKeepsRow.holds Try.pinned (OpenSpec.ofChange ruleKeepsSpec)

/-- ITS FALSE NEIGHBOUR: 'it returns false'. Refute it at one input. -/
def ruleKeepsWrong : ChangeSpec := { name := "ruleKeeps", fn := fun _ => fun
  | [d1, d2, d3] => { results := [.lit (.bool false)], args := [d1, d2, d3] }
  | _ => none }
def RuleKeepsWrongFalsely : Prop := ruleKeepsRow.holds Try.pinned (OpenSpec.ofChange ruleKeepsWrong)

/-- 'hedgerowlaw15.RuleFewer': WHATEVER THE INPUT: true; the input reads as it did. -/
def ruleFewerSpec : ChangeSpec := { name := "ruleFewer", fn := fun _ => fun
  | [d1, d2, d3] => { results := [.lit (.bool true)], args := [d1, d2, d3] }
  | _ => none }
def ruleFewerRow : OpenClaim := { program := "ytfpgjaallhpddaa", sum := "49693e0320e2056c5517f4656fffbcb450185e88140fda6db7932ac3c9e43560", func := "hedgerow/hedgerowlaw15.RuleFewer", spec := "ruleFewer", unfollowed := true, recurses := true, plainKeys := false, apart := false }
def RuleFewerSaid : Prop := ruleFewerRow.holds Try.pinned (OpenSpec.ofChange ruleFewerSpec)

/-- ITS FALSE NEIGHBOUR: 'it returns false'. Refute it at one input. -/
def ruleFewerWrong : ChangeSpec := { name := "ruleFewer", fn := fun _ => fun
  | [d1, d2, d3] => { results := [.lit (.bool false)], args := [d1, d2, d3] }
  | _ => none }
def RuleFewerWrongFalsely : Prop := ruleFewerRow.holds Try.pinned (OpenSpec.ofChange ruleFewerWrong)

/-- 'hedgerowlaw15.RuleForms': WHATEVER THE INPUT: true; the input reads as it did. -/
def ruleFormsSpec : ChangeSpec := { name := "ruleForms", fn := fun _ => fun
  | [d1, d2] => { results := [.lit (.bool true)], args := [d1, d2] }
  | _ => none }
def ruleFormsRow : OpenClaim := { program := "ytfpgjaallhpddaa", sum := "49693e0320e2056c5517f4656fffbcb450185e88140fda6db7932ac3c9e43560", func := "hedgerow/hedgerowlaw15.RuleForms", spec := "ruleForms", unfollowed := true, recurses := true, plainKeys := false, apart := false }
def RuleFormsSaid : Prop := ruleFormsRow.holds Try.pinned (OpenSpec.ofChange ruleFormsSpec)

/-- ITS FALSE NEIGHBOUR: 'it returns false'. Refute it at one input. -/
def ruleFormsWrong : ChangeSpec := { name := "ruleForms", fn := fun _ => fun
  | [d1, d2] => { results := [.lit (.bool false)], args := [d1, d2] }
  | _ => none }
def RuleFormsWrongFalsely : Prop := ruleFormsRow.holds Try.pinned (OpenSpec.ofChange ruleFormsWrong)

/-- 'hedgerowlaw15.RuleCodes': WHATEVER THE INPUT: true; the input reads as it did. -/
def ruleCodesSpec : ChangeSpec := { name := "ruleCodes", fn := fun _ => fun
  | [d1, d2, d3] => { results := [.lit (.bool true)], args := [d1, d2, d3] }
  | _ => none }
def ruleCodesRow : OpenClaim := { program := "ytfpgjaallhpddaa", sum := "49693e0320e2056c5517f4656fffbcb450185e88140fda6db7932ac3c9e43560", func := "hedgerow/hedgerowlaw15.RuleCodes", spec := "ruleCodes", unfollowed := true, recurses := true, plainKeys := false, apart := false }
def RuleCodesSaid : Prop := ruleCodesRow.holds Try.pinned (OpenSpec.ofChange ruleCodesSpec)

/-- ITS FALSE NEIGHBOUR: 'it returns false'. Refute it at one input. -/
def ruleCodesWrong : ChangeSpec := { name := "ruleCodes", fn := fun _ => fun
  | [d1, d2, d3] => { results := [.lit (.bool false)], args := [d1, d2, d3] }
  | _ => none }
def RuleCodesWrongFalsely : Prop := ruleCodesRow.holds Try.pinned (OpenSpec.ofChange ruleCodesWrong)

/-- 'hedgerowlaw15.RuleBack': WHATEVER THE INPUT: true; the input reads as it did. -/
def ruleBackSpec : ChangeSpec := { name := "ruleBack", fn := fun _ => fun
  | [d1, d2] => { results := [.lit (.bool true)], args := [d1, d2] }
  | _ => none }
def ruleBackRow : OpenClaim := { program := "ytfpgjaallhpddaa", sum := "49693e0320e2056c5517f4656fffbcb450185e88140fda6db7932ac3c9e43560", func := "hedgerow/hedgerowlaw15.RuleBack", spec := "ruleBack", unfollowed := true, recurses := true, plainKeys := false, apart := false }
def RuleBackSaid : Prop := ruleBackRow.holds Try.pinned (OpenSpec.ofChange ruleBackSpec)

/-- ITS FALSE NEIGHBOUR: 'it returns false'. Refute it at one input. -/
def ruleBackWrong : ChangeSpec := { name := "ruleBack", fn := fun _ => fun
  | [d1, d2] => { results := [.lit (.bool false)], args := [d1, d2] }
  | _ => none }
def RuleBackWrongFalsely : Prop := ruleBackRow.holds Try.pinned (OpenSpec.ofChange ruleBackWrong)

/-- 'hedgerowlaw02.ValCodes': WHATEVER THE INPUT: true; the input reads as it did. -/
def valCodesSpec : ChangeSpec := { name := "valCodes", fn := fun _ => fun
  | [d1, d2, d3] => { results := [.lit (.bool true)], args := [d1, d2, d3] }
  | _ => none }
def valCodesRow : OpenClaim := { program := "ytfpgjaallhpddaa", sum := "49693e0320e2056c5517f4656fffbcb450185e88140fda6db7932ac3c9e43560", func := "hedgerow/hedgerowlaw02.ValCodes", spec := "valCodes", inPlace := ["slices.overlaps[hedgerow/api.Prop]"], unfollowed := true, recurses := true, plainKeys := false, apart := false }
def ValCodesSaid : Prop := valCodesRow.holds Try.pinned (OpenSpec.ofChange valCodesSpec)

/-- ITS FALSE NEIGHBOUR: 'it returns false'. Refute it at one input. -/
def valCodesWrong : ChangeSpec := { name := "valCodes", fn := fun _ => fun
  | [d1, d2, d3] => { results := [.lit (.bool false)], args := [d1, d2, d3] }
  | _ => none }
def ValCodesWrongFalsely : Prop := valCodesRow.holds Try.pinned (OpenSpec.ofChange valCodesWrong)

/-- 'hedgerowlaw02.ValTurns': WHATEVER THE INPUT: true; the input reads as it did. -/
def valTurnsSpec : ChangeSpec := { name := "valTurns", fn := fun _ => fun
  | [d1, d2, d3] => { results := [.lit (.bool true)], args := [d1, d2, d3] }
  | _ => none }
def valTurnsRow : OpenClaim := { program := "ytfpgjaallhpddaa", sum := "49693e0320e2056c5517f4656fffbcb450185e88140fda6db7932ac3c9e43560", func := "hedgerow/hedgerowlaw02.ValTurns", spec := "valTurns", inPlace := ["slices.overlaps[hedgerow/api.Prop]"], unfollowed := true, recurses := true, plainKeys := false, apart := false }
def ValTurnsSaid : Prop := valTurnsRow.holds Try.pinned (OpenSpec.ofChange valTurnsSpec)

/-- ITS FALSE NEIGHBOUR: 'it returns false'. Refute it at one input. -/
def valTurnsWrong : ChangeSpec := { name := "valTurns", fn := fun _ => fun
  | [d1, d2, d3] => { results := [.lit (.bool false)], args := [d1, d2, d3] }
  | _ => none }
def ValTurnsWrongFalsely : Prop := valTurnsRow.holds Try.pinned (OpenSpec.ofChange valTurnsWrong)

/-- 'hedgerowlaw02.ValSets': WHATEVER THE INPUT: true; the input reads as it did. -/
def valSetsSpec : ChangeSpec := { name := "valSets", fn := fun _ => fun
  | [d1, d2, d3] => { results := [.lit (.bool true)], args := [d1, d2, d3] }
  | _ => none }
def valSetsRow : OpenClaim := { program := "ytfpgjaallhpddaa", sum := "49693e0320e2056c5517f4656fffbcb450185e88140fda6db7932ac3c9e43560", func := "hedgerow/hedgerowlaw02.ValSets", spec := "valSets", inPlace := ["slices.overlaps[hedgerow/api.Prop]"], unfollowed := true, recurses := true, plainKeys := false, apart := false }
def ValSetsSaid : Prop := valSetsRow.holds Try.pinned (OpenSpec.ofChange valSetsSpec)

/-- ITS FALSE NEIGHBOUR: 'it returns false'. Refute it at one input. -/
def valSetsWrong : ChangeSpec := { name := "valSets", fn := fun _ => fun
  | [d1, d2, d3] => { results := [.lit (.bool false)], args := [d1, d2, d3] }
  | _ => none }
def ValSetsWrongFalsely : Prop := valSetsRow.holds Try.pinned (OpenSpec.ofChange valSetsWrong)

/-- 'hedgerowlaw02.ValKeeps': WHATEVER THE INPUT: true; the input reads as it did. -/
def valKeepsSpec : ChangeSpec := { name := "valKeeps", fn := fun _ => fun
  | [d1, d2, d3] => { results := [.lit (.bool true)], args := [d1, d2, d3] }
  | _ => none }
def valKeepsRow : OpenClaim := { program := "ytfpgjaallhpddaa", sum := "49693e0320e2056c5517f4656fffbcb450185e88140fda6db7932ac3c9e43560", func := "hedgerow/hedgerowlaw02.ValKeeps", spec := "valKeeps", inPlace := ["slices.overlaps[hedgerow/api.Prop]"], unfollowed := true, recurses := true, plainKeys := false, apart := false }
def ValKeepsSaid : Prop := valKeepsRow.holds Try.pinned (OpenSpec.ofChange valKeepsSpec)

/-- ITS FALSE NEIGHBOUR: 'it returns false'. Refute it at one input. -/
def valKeepsWrong : ChangeSpec := { name := "valKeeps", fn := fun _ => fun
  | [d1, d2, d3] => { results := [.lit (.bool false)], args := [d1, d2, d3] }
  | _ => none }
def ValKeepsWrongFalsely : Prop := valKeepsRow.holds Try.pinned (OpenSpec.ofChange valKeepsWrong)

/-- 'hedgerowlaw02.ValTells': WHATEVER THE INPUT: true; the input reads as it did. -/
def valTellsSpec : ChangeSpec := { name := "valTells", fn := fun _ => fun
  | [d1, d2, d3] => { results := [.lit (.bool true)], args := [d1, d2, d3] }
  | _ => none }
def valTellsRow : OpenClaim := { program := "ytfpgjaallhpddaa", sum := "49693e0320e2056c5517f4656fffbcb450185e88140fda6db7932ac3c9e43560", func := "hedgerow/hedgerowlaw02.ValTells", spec := "valTells", inPlace := ["slices.overlaps[hedgerow/api.Prop]", "internal/bytealg.abigen_runtime_cmpstring"], unfollowed := true, recurses := true, plainKeys := false, apart := false }
def ValTellsSaid : Prop := valTellsRow.holds Try.pinned (OpenSpec.ofChange valTellsSpec)

/-- ITS FALSE NEIGHBOUR: 'it returns false'. Refute it at one input. -/
def valTellsWrong : ChangeSpec := { name := "valTells", fn := fun _ => fun
  | [d1, d2, d3] => { results := [.lit (.bool false)], args := [d1, d2, d3] }
  | _ => none }
def ValTellsWrongFalsely : Prop := valTellsRow.holds Try.pinned (OpenSpec.ofChange valTellsWrong)

/-- 'hedgerowlaw02.ValOrder': WHATEVER THE INPUT: true; the input reads as it did. -/
def valOrderSpec : ChangeSpec := { name := "valOrder", fn := fun _ => fun
  | [d1, d2, d3] => { results := [.lit (.bool true)], args := [d1, d2, d3] }
  | _ => none }
def valOrderRow : OpenClaim := { program := "ytfpgjaallhpddaa", sum := "49693e0320e2056c5517f4656fffbcb450185e88140fda6db7932ac3c9e43560", func := "hedgerow/hedgerowlaw02.ValOrder", spec := "valOrder", inPlace := ["slices.overlaps[hedgerow/api.Prop]", "internal/bytealg.abigen_runtime_cmpstring"], unfollowed := true, recurses := true, plainKeys := false, apart := false }
def ValOrderSaid : Prop := valOrderRow.holds Try.pinned (OpenSpec.ofChange valOrderSpec)

/-- ITS FALSE NEIGHBOUR: 'it returns false'. Refute it at one input. -/
def valOrderWrong : ChangeSpec := { name := "valOrder", fn := fun _ => fun
  | [d1, d2, d3] => { results := [.lit (.bool false)], args := [d1, d2, d3] }
  | _ => none }
def ValOrderWrongFalsely : Prop := valOrderRow.holds Try.pinned (OpenSpec.ofChange valOrderWrong)

/-- 'hedgerowlaw02.ValProps': WHATEVER THE INPUT: true; the input reads as it did. -/
def valPropsSpec : ChangeSpec := { name := "valProps", fn := fun _ => fun
  | [d1, d2, d3] => { results := [.lit (.bool true)], args := [d1, d2, d3] }
  | _ => none }
def valPropsRow : OpenClaim := { program := "ytfpgjaallhpddaa", sum := "49693e0320e2056c5517f4656fffbcb450185e88140fda6db7932ac3c9e43560", func := "hedgerow/hedgerowlaw02.ValProps", spec := "valProps", inPlace := ["slices.overlaps[hedgerow/api.Prop]"], unfollowed := true, recurses := true, plainKeys := false, apart := false }
def ValPropsSaid : Prop := valPropsRow.holds Try.pinned (OpenSpec.ofChange valPropsSpec)

/-- ITS FALSE NEIGHBOUR: 'it returns false'. Refute it at one input. -/
def valPropsWrong : ChangeSpec := { name := "valProps", fn := fun _ => fun
  | [d1, d2, d3] => { results := [.lit (.bool false)], args := [d1, d2, d3] }
  | _ => none }
def ValPropsWrongFalsely : Prop := valPropsRow.holds Try.pinned (OpenSpec.ofChange valPropsWrong)

/- THE SECOND FORM. 'bulk': how many values and letters a reading holds, each counted each time it is reached (what is shared counts as often as it is met; a slice's spare places count too). A statement '..UptoSaid' is the law's where the arguments, and the package variables that the reading takes, are together of bulk at most 1048576: NARROWER than '..Said'. Prove '..Said' where nothing that the law and all that it calls make is longer than what came in: it says more and counts as full. Else prove '..UptoSaid'. A law counts once. -/
mutual
def uptoBulk {H : Type} : DataW H → Nat
  | .lit (.string bytes) => bytes.length + 1
  | .lit _ => 1
  | .nil => 1
  | .ptr d => uptoBulk d + 1
  | .slice elems spare => uptoBulkAll elems + uptoBulkAll spare + 1
  | .agg parts => uptoBulkAll parts + 1
  | .iface _ d => uptoBulk d + 1
  | .map entries => uptoBulkEntries entries + 1
  | .held _ => 1
def uptoBulkAll {H : Type} : List (DataW H) → Nat
  | [] => 0
  | d :: r => uptoBulk d + uptoBulkAll r
def uptoBulkEntries {H : Type} : List (Lit × DataW H) → Nat
  | [] => 0
  | x :: r => uptoBulkEntry x + uptoBulkEntries r
def uptoBulkEntry {H : Type} : Lit × DataW H → Nat
  | (.string bytes, d) => bytes.length + uptoBulk d + 1
  | (_, d) => uptoBulk d + 1
 end
def uptoSmall : (H : Type) → List (DataW H) → Bool := fun _ ds => decide (uptoBulkAll ds ≤ 1048576)
def OpenSpec.upto (s : _root_.Go.ChangeSpec) : _root_.Go.OpenSpec := { _root_.Go.OpenSpec.ofChange s with cond := some uptoSmall }

/-- 'hedgerowlaw15.RuleKeeps', WHERE WHAT IT READS IS OF BULK AT MOST 1048576: true; the input reads as it did. -/
def ruleKeepsUptoRow : OpenClaim := { program := "ytfpgjaallhpddaa", sum := "49693e0320e2056c5517f4656fffbcb450185e88140fda6db7932ac3c9e43560", func := "hedgerow/hedgerowlaw15.RuleKeeps", spec := "ruleKeeps", unfollowed := true, recurses := true, plainKeys := false, apart := false, narrowed := true }
def RuleKeepsUptoSaid : Prop := ruleKeepsUptoRow.holds Try.pinned (OpenSpec.upto ruleKeepsSpec)

/-- 'hedgerowlaw15.RuleFewer', WHERE WHAT IT READS IS OF BULK AT MOST 1048576: true; the input reads as it did. -/
def ruleFewerUptoRow : OpenClaim := { program := "ytfpgjaallhpddaa", sum := "49693e0320e2056c5517f4656fffbcb450185e88140fda6db7932ac3c9e43560", func := "hedgerow/hedgerowlaw15.RuleFewer", spec := "ruleFewer", unfollowed := true, recurses := true, plainKeys := false, apart := false, narrowed := true }
def RuleFewerUptoSaid : Prop := ruleFewerUptoRow.holds Try.pinned (OpenSpec.upto ruleFewerSpec)

/-- 'hedgerowlaw15.RuleForms', WHERE WHAT IT READS IS OF BULK AT MOST 1048576: true; the input reads as it did. -/
def ruleFormsUptoRow : OpenClaim := { program := "ytfpgjaallhpddaa", sum := "49693e0320e2056c5517f4656fffbcb450185e88140fda6db7932ac3c9e43560", func := "hedgerow/hedgerowlaw15.RuleForms", spec := "ruleForms", unfollowed := true, recurses := true, plainKeys := false, apart := false, narrowed := true }
def RuleFormsUptoSaid : Prop := ruleFormsUptoRow.holds Try.pinned (OpenSpec.upto ruleFormsSpec)

/-- 'hedgerowlaw15.RuleCodes', WHERE WHAT IT READS IS OF BULK AT MOST 1048576: true; the input reads as it did. -/
def ruleCodesUptoRow : OpenClaim := { program := "ytfpgjaallhpddaa", sum := "49693e0320e2056c5517f4656fffbcb450185e88140fda6db7932ac3c9e43560", func := "hedgerow/hedgerowlaw15.RuleCodes", spec := "ruleCodes", unfollowed := true, recurses := true, plainKeys := false, apart := false, narrowed := true }
def RuleCodesUptoSaid : Prop := ruleCodesUptoRow.holds Try.pinned (OpenSpec.upto ruleCodesSpec)

/-- 'hedgerowlaw15.RuleBack', WHERE WHAT IT READS IS OF BULK AT MOST 1048576: true; the input reads as it did. -/
def ruleBackUptoRow : OpenClaim := { program := "ytfpgjaallhpddaa", sum := "49693e0320e2056c5517f4656fffbcb450185e88140fda6db7932ac3c9e43560", func := "hedgerow/hedgerowlaw15.RuleBack", spec := "ruleBack", unfollowed := true, recurses := true, plainKeys := false, apart := false, narrowed := true }
def RuleBackUptoSaid : Prop := ruleBackUptoRow.holds Try.pinned (OpenSpec.upto ruleBackSpec)

/-- 'hedgerowlaw02.ValCodes', WHERE WHAT IT READS IS OF BULK AT MOST 1048576: true; the input reads as it did. -/
def valCodesUptoRow : OpenClaim := { program := "ytfpgjaallhpddaa", sum := "49693e0320e2056c5517f4656fffbcb450185e88140fda6db7932ac3c9e43560", func := "hedgerow/hedgerowlaw02.ValCodes", spec := "valCodes", inPlace := ["slices.overlaps[hedgerow/api.Prop]"], unfollowed := true, recurses := true, plainKeys := false, apart := false, narrowed := true }
def ValCodesUptoSaid : Prop := valCodesUptoRow.holds Try.pinned (OpenSpec.upto valCodesSpec)

/-- 'hedgerowlaw02.ValTurns', WHERE WHAT IT READS IS OF BULK AT MOST 1048576: true; the input reads as it did. -/
def valTurnsUptoRow : OpenClaim := { program := "ytfpgjaallhpddaa", sum := "49693e0320e2056c5517f4656fffbcb450185e88140fda6db7932ac3c9e43560", func := "hedgerow/hedgerowlaw02.ValTurns", spec := "valTurns", inPlace := ["slices.overlaps[hedgerow/api.Prop]"], unfollowed := true, recurses := true, plainKeys := false, apart := false, narrowed := true }
def ValTurnsUptoSaid : Prop := valTurnsUptoRow.holds Try.pinned (OpenSpec.upto valTurnsSpec)

/-- 'hedgerowlaw02.ValSets', WHERE WHAT IT READS IS OF BULK AT MOST 1048576: true; the input reads as it did. -/
def valSetsUptoRow : OpenClaim := { program := "ytfpgjaallhpddaa", sum := "49693e0320e2056c5517f4656fffbcb450185e88140fda6db7932ac3c9e43560", func := "hedgerow/hedgerowlaw02.ValSets", spec := "valSets", inPlace := ["slices.overlaps[hedgerow/api.Prop]"], unfollowed := true, recurses := true, plainKeys := false, apart := false, narrowed := true }
def ValSetsUptoSaid : Prop := valSetsUptoRow.holds Try.pinned (OpenSpec.upto valSetsSpec)

/-- 'hedgerowlaw02.ValKeeps', WHERE WHAT IT READS IS OF BULK AT MOST 1048576: true; the input reads as it did. -/
def valKeepsUptoRow : OpenClaim := { program := "ytfpgjaallhpddaa", sum := "49693e0320e2056c5517f4656fffbcb450185e88140fda6db7932ac3c9e43560", func := "hedgerow/hedgerowlaw02.ValKeeps", spec := "valKeeps", inPlace := ["slices.overlaps[hedgerow/api.Prop]"], unfollowed := true, recurses := true, plainKeys := false, apart := false, narrowed := true }
def ValKeepsUptoSaid : Prop := valKeepsUptoRow.holds Try.pinned (OpenSpec.upto valKeepsSpec)

/-- 'hedgerowlaw02.ValTells', WHERE WHAT IT READS IS OF BULK AT MOST 1048576: true; the input reads as it did. -/
def valTellsUptoRow : OpenClaim := { program := "ytfpgjaallhpddaa", sum := "49693e0320e2056c5517f4656fffbcb450185e88140fda6db7932ac3c9e43560", func := "hedgerow/hedgerowlaw02.ValTells", spec := "valTells", inPlace := ["slices.overlaps[hedgerow/api.Prop]", "internal/bytealg.abigen_runtime_cmpstring"], unfollowed := true, recurses := true, plainKeys := false, apart := false, narrowed := true }
def ValTellsUptoSaid : Prop := valTellsUptoRow.holds Try.pinned (OpenSpec.upto valTellsSpec)

/-- 'hedgerowlaw02.ValOrder', WHERE WHAT IT READS IS OF BULK AT MOST 1048576: true; the input reads as it did. -/
def valOrderUptoRow : OpenClaim := { program := "ytfpgjaallhpddaa", sum := "49693e0320e2056c5517f4656fffbcb450185e88140fda6db7932ac3c9e43560", func := "hedgerow/hedgerowlaw02.ValOrder", spec := "valOrder", inPlace := ["slices.overlaps[hedgerow/api.Prop]", "internal/bytealg.abigen_runtime_cmpstring"], unfollowed := true, recurses := true, plainKeys := false, apart := false, narrowed := true }
def ValOrderUptoSaid : Prop := valOrderUptoRow.holds Try.pinned (OpenSpec.upto valOrderSpec)

/-- 'hedgerowlaw02.ValProps', WHERE WHAT IT READS IS OF BULK AT MOST 1048576: true; the input reads as it did. -/
def valPropsUptoRow : OpenClaim := { program := "ytfpgjaallhpddaa", sum := "49693e0320e2056c5517f4656fffbcb450185e88140fda6db7932ac3c9e43560", func := "hedgerow/hedgerowlaw02.ValProps", spec := "valProps", inPlace := ["slices.overlaps[hedgerow/api.Prop]"], unfollowed := true, recurses := true, plainKeys := false, apart := false, narrowed := true }
def ValPropsUptoSaid : Prop := valPropsUptoRow.holds Try.pinned (OpenSpec.upto valPropsSpec)

end Rows
end Go.Proofs.Ytfpgjaallhpddaa
