/-
  No cell of these rows narrows 'for every input' (looked for: loops, veiled, ifaces, maps, wideKeys, modest, calm, conditions, laid).
  DERIVED. THE GIVEN ROWS OF THIS SEAT. 12 by the template 'for every input the law returns true; each argument reads behind the call as it read before'; 0 by the template 'total and deterministic' (their statements: YthpllblcbbkfdaaTotals.lean).
  GIVEN WITH THE SEED: the statements are not yours to turn. If you find one false, say at which input.
  Laid BY PROGRAM, IN A SANDBOX (cutbox-rows.mjs): the forced cells as the released guide's own fill.sh prints them over the translation 268fb685b7ff01e7… (all of the seat's roots in one cut). By AI agents, Wed Nov 11 2026. No macro, syntax, notation, axiom, sorry.
-/
import Derived.Test.YthpllblcbbkfdaaChecked
import GoSem.Claim
import GoSem.ClaimJoined
import GoSem.ClaimMapViews
import Derived.JoinedTies
import Derived.KernelRfl
namespace Go.Proofs.Ythpllblcbbkfdaa
/- THE CELL 'sum', in the pinned program and in every row, IS THE sha256 OF THE DUMP (.gsa) THAT YthpllblcbbkfdaaProg.lean LOADS. Nothing in Lean hashes anything: it is a label: what it is worth is what the hold of that sum in a sandbox is worth. -/
noncomputable def Try.pinned : Pinned := { name := "ythpllblcbbkfdaa", sum := "268fb685b7ff01e773b8ec7d4951b36305c8caf85a576ea89547232c536f2c52", checked := Try.checked }
namespace Rows
def none {H : Type} : Left H := { results := [], args := [] }

/-- 'hedgerowlaw14.SchemaTells': WHATEVER THE INPUT: true; the input reads as it did. -/
def schemaTellsSpec : ChangeSpec := { name := "schemaTells", fn := fun _ => fun
  | [d1, d2, d3] => { results := [.lit (.bool true)], args := [d1, d2, d3] }
  | _ => none }
def schemaTellsRow : OpenClaim := { program := "ythpllblcbbkfdaa", sum := "268fb685b7ff01e773b8ec7d4951b36305c8caf85a576ea89547232c536f2c52", func := "hedgerow/hedgerowlaw14.SchemaTells", spec := "schemaTells", inPlace := ["slices.overlaps[string]"], unfollowed := true, recurses := true, plainKeys := false, apart := false }
def SchemaTellsSaid : Prop := schemaTellsRow.holds Try.pinned (OpenSpec.ofChange schemaTellsSpec)

/-- ITS FALSE NEIGHBOUR: 'it returns false'. Refute it at one input. -/
def schemaTellsWrong : ChangeSpec := { name := "schemaTells", fn := fun _ => fun
  | [d1, d2, d3] => { results := [.lit (.bool false)], args := [d1, d2, d3] }
  | _ => none }
def SchemaTellsWrongFalsely : Prop := schemaTellsRow.holds Try.pinned (OpenSpec.ofChange schemaTellsWrong)

/-- 'hedgerowlaw14.SchemaTurns': WHATEVER THE INPUT: true; the input reads as it did. -/
def schemaTurnsSpec : ChangeSpec := { name := "schemaTurns", fn := fun _ => fun
  | [d1, d2, d3] => { results := [.lit (.bool true)], args := [d1, d2, d3] }
  | _ => none }
def schemaTurnsRow : OpenClaim := { program := "ythpllblcbbkfdaa", sum := "268fb685b7ff01e773b8ec7d4951b36305c8caf85a576ea89547232c536f2c52", func := "hedgerow/hedgerowlaw14.SchemaTurns", spec := "schemaTurns", inPlace := ["slices.overlaps[string]"], unfollowed := true, recurses := true, plainKeys := false, apart := false }
def SchemaTurnsSaid : Prop := schemaTurnsRow.holds Try.pinned (OpenSpec.ofChange schemaTurnsSpec)

/-- ITS FALSE NEIGHBOUR: 'it returns false'. Refute it at one input. -/
def schemaTurnsWrong : ChangeSpec := { name := "schemaTurns", fn := fun _ => fun
  | [d1, d2, d3] => { results := [.lit (.bool false)], args := [d1, d2, d3] }
  | _ => none }
def SchemaTurnsWrongFalsely : Prop := schemaTurnsRow.holds Try.pinned (OpenSpec.ofChange schemaTurnsWrong)

/-- 'hedgerowlaw14.SchemaCopies': WHATEVER THE INPUT: true; the input reads as it did. -/
def schemaCopiesSpec : ChangeSpec := { name := "schemaCopies", fn := fun _ => fun
  | [d] => { results := [.lit (.bool true)], args := [d] }
  | _ => none }
def schemaCopiesRow : OpenClaim := { program := "ythpllblcbbkfdaa", sum := "268fb685b7ff01e773b8ec7d4951b36305c8caf85a576ea89547232c536f2c52", func := "hedgerow/hedgerowlaw14.SchemaCopies", spec := "schemaCopies", inPlace := ["slices.overlaps[string]"], unfollowed := true, recurses := true, plainKeys := false, apart := false }
def SchemaCopiesSaid : Prop := schemaCopiesRow.holds Try.pinned (OpenSpec.ofChange schemaCopiesSpec)

/-- ITS FALSE NEIGHBOUR: 'it returns false'. Refute it at one input. -/
def schemaCopiesWrong : ChangeSpec := { name := "schemaCopies", fn := fun _ => fun
  | [d] => { results := [.lit (.bool false)], args := [d] }
  | _ => none }
def SchemaCopiesWrongFalsely : Prop := schemaCopiesRow.holds Try.pinned (OpenSpec.ofChange schemaCopiesWrong)

/-- 'hedgerowlaw14.SchemaBack': WHATEVER THE INPUT: true; the input reads as it did. -/
def schemaBackSpec : ChangeSpec := { name := "schemaBack", fn := fun _ => fun
  | [d1, d2, d3] => { results := [.lit (.bool true)], args := [d1, d2, d3] }
  | _ => none }
def schemaBackRow : OpenClaim := { program := "ythpllblcbbkfdaa", sum := "268fb685b7ff01e773b8ec7d4951b36305c8caf85a576ea89547232c536f2c52", func := "hedgerow/hedgerowlaw14.SchemaBack", spec := "schemaBack", inPlace := ["slices.overlaps[string]"], unfollowed := true, recurses := true, plainKeys := false, apart := false }
def SchemaBackSaid : Prop := schemaBackRow.holds Try.pinned (OpenSpec.ofChange schemaBackSpec)

/-- ITS FALSE NEIGHBOUR: 'it returns false'. Refute it at one input. -/
def schemaBackWrong : ChangeSpec := { name := "schemaBack", fn := fun _ => fun
  | [d1, d2, d3] => { results := [.lit (.bool false)], args := [d1, d2, d3] }
  | _ => none }
def SchemaBackWrongFalsely : Prop := schemaBackRow.holds Try.pinned (OpenSpec.ofChange schemaBackWrong)

/-- 'hedgerowlaw14.SchemaMany': WHATEVER THE INPUT: true; the input reads as it did. -/
def schemaManySpec : ChangeSpec := { name := "schemaMany", fn := fun _ => fun
  | [d1, d2] => { results := [.lit (.bool true)], args := [d1, d2] }
  | _ => none }
def schemaManyRow : OpenClaim := { program := "ythpllblcbbkfdaa", sum := "268fb685b7ff01e773b8ec7d4951b36305c8caf85a576ea89547232c536f2c52", func := "hedgerow/hedgerowlaw14.SchemaMany", spec := "schemaMany", inPlace := ["slices.overlaps[string]"], unfollowed := true, recurses := true, plainKeys := false, apart := false }
def SchemaManySaid : Prop := schemaManyRow.holds Try.pinned (OpenSpec.ofChange schemaManySpec)

/-- ITS FALSE NEIGHBOUR: 'it returns false'. Refute it at one input. -/
def schemaManyWrong : ChangeSpec := { name := "schemaMany", fn := fun _ => fun
  | [d1, d2] => { results := [.lit (.bool false)], args := [d1, d2] }
  | _ => none }
def SchemaManyWrongFalsely : Prop := schemaManyRow.holds Try.pinned (OpenSpec.ofChange schemaManyWrong)

/-- 'hedgerowlaw16.CatGoods': WHATEVER THE INPUT: true; the input reads as it did. -/
def catGoodsSpec : ChangeSpec := { name := "catGoods", fn := fun _ => fun
  | [d] => { results := [.lit (.bool true)], args := [d] }
  | _ => none }
def catGoodsRow : OpenClaim := { program := "ythpllblcbbkfdaa", sum := "268fb685b7ff01e773b8ec7d4951b36305c8caf85a576ea89547232c536f2c52", func := "hedgerow/hedgerowlaw16.CatGoods", spec := "catGoods", unfollowed := true, recurses := true, plainKeys := false, apart := false }
def CatGoodsSaid : Prop := catGoodsRow.holds Try.pinned (OpenSpec.ofChange catGoodsSpec)

/-- ITS FALSE NEIGHBOUR: 'it returns false'. Refute it at one input. -/
def catGoodsWrong : ChangeSpec := { name := "catGoods", fn := fun _ => fun
  | [d] => { results := [.lit (.bool false)], args := [d] }
  | _ => none }
def CatGoodsWrongFalsely : Prop := catGoodsRow.holds Try.pinned (OpenSpec.ofChange catGoodsWrong)

/-- 'hedgerowlaw16.CatCodes': WHATEVER THE INPUT: true; the input reads as it did. -/
def catCodesSpec : ChangeSpec := { name := "catCodes", fn := fun _ => fun
  | [d1, d2] => { results := [.lit (.bool true)], args := [d1, d2] }
  | _ => none }
def catCodesRow : OpenClaim := { program := "ythpllblcbbkfdaa", sum := "268fb685b7ff01e773b8ec7d4951b36305c8caf85a576ea89547232c536f2c52", func := "hedgerow/hedgerowlaw16.CatCodes", spec := "catCodes", unfollowed := true, recurses := true, plainKeys := false, apart := false }
def CatCodesSaid : Prop := catCodesRow.holds Try.pinned (OpenSpec.ofChange catCodesSpec)

/-- ITS FALSE NEIGHBOUR: 'it returns false'. Refute it at one input. -/
def catCodesWrong : ChangeSpec := { name := "catCodes", fn := fun _ => fun
  | [d1, d2] => { results := [.lit (.bool false)], args := [d1, d2] }
  | _ => none }
def CatCodesWrongFalsely : Prop := catCodesRow.holds Try.pinned (OpenSpec.ofChange catCodesWrong)

/-- 'hedgerowlaw16.CatBack': WHATEVER THE INPUT: true; the input reads as it did. -/
def catBackSpec : ChangeSpec := { name := "catBack", fn := fun _ => fun
  | [d1, d2] => { results := [.lit (.bool true)], args := [d1, d2] }
  | _ => none }
def catBackRow : OpenClaim := { program := "ythpllblcbbkfdaa", sum := "268fb685b7ff01e773b8ec7d4951b36305c8caf85a576ea89547232c536f2c52", func := "hedgerow/hedgerowlaw16.CatBack", spec := "catBack", unfollowed := true, recurses := true, plainKeys := false, apart := false }
def CatBackSaid : Prop := catBackRow.holds Try.pinned (OpenSpec.ofChange catBackSpec)

/-- ITS FALSE NEIGHBOUR: 'it returns false'. Refute it at one input. -/
def catBackWrong : ChangeSpec := { name := "catBack", fn := fun _ => fun
  | [d1, d2] => { results := [.lit (.bool false)], args := [d1, d2] }
  | _ => none }
def CatBackWrongFalsely : Prop := catBackRow.holds Try.pinned (OpenSpec.ofChange catBackWrong)

/-- 'hedgerowlaw16.CatRules': WHATEVER THE INPUT: true; the input reads as it did. -/
def catRulesSpec : ChangeSpec := { name := "catRules", fn := fun _ => fun
  | [d1, d2, d3] => { results := [.lit (.bool true)], args := [d1, d2, d3] }
  | _ => none }
def catRulesRow : OpenClaim := { program := "ythpllblcbbkfdaa", sum := "268fb685b7ff01e773b8ec7d4951b36305c8caf85a576ea89547232c536f2c52", func := "hedgerow/hedgerowlaw16.CatRules", spec := "catRules", unfollowed := true, recurses := true, plainKeys := false, apart := false }
def CatRulesSaid : Prop := catRulesRow.holds Try.pinned (OpenSpec.ofChange catRulesSpec)

/-- ITS FALSE NEIGHBOUR: 'it returns false'. Refute it at one input. -/
def catRulesWrong : ChangeSpec := { name := "catRules", fn := fun _ => fun
  | [d1, d2, d3] => { results := [.lit (.bool false)], args := [d1, d2, d3] }
  | _ => none }
def CatRulesWrongFalsely : Prop := catRulesRow.holds Try.pinned (OpenSpec.ofChange catRulesWrong)

/-- 'hedgerowlaw16.CatMany': WHATEVER THE INPUT: true; the input reads as it did. -/
def catManySpec : ChangeSpec := { name := "catMany", fn := fun _ => fun
  | [d] => { results := [.lit (.bool true)], args := [d] }
  | _ => none }
def catManyRow : OpenClaim := { program := "ythpllblcbbkfdaa", sum := "268fb685b7ff01e773b8ec7d4951b36305c8caf85a576ea89547232c536f2c52", func := "hedgerow/hedgerowlaw16.CatMany", spec := "catMany", inPlace := ["slices.overlaps[hedgerow/api.Index]"], unfollowed := true, recurses := true, plainKeys := false, apart := false }
def CatManySaid : Prop := catManyRow.holds Try.pinned (OpenSpec.ofChange catManySpec)

/-- ITS FALSE NEIGHBOUR: 'it returns false'. Refute it at one input. -/
def catManyWrong : ChangeSpec := { name := "catMany", fn := fun _ => fun
  | [d] => { results := [.lit (.bool false)], args := [d] }
  | _ => none }
def CatManyWrongFalsely : Prop := catManyRow.holds Try.pinned (OpenSpec.ofChange catManyWrong)

/-- 'hedgerowlaw16.CatIndexes': WHATEVER THE INPUT: true; the input reads as it did. -/
def catIndexesSpec : ChangeSpec := { name := "catIndexes", fn := fun _ => fun
  | [d1, d2] => { results := [.lit (.bool true)], args := [d1, d2] }
  | _ => none }
def catIndexesRow : OpenClaim := { program := "ythpllblcbbkfdaa", sum := "268fb685b7ff01e773b8ec7d4951b36305c8caf85a576ea89547232c536f2c52", func := "hedgerow/hedgerowlaw16.CatIndexes", spec := "catIndexes", inPlace := ["slices.overlaps[hedgerow/api.Index]"], unfollowed := true, recurses := true, plainKeys := false, apart := false }
def CatIndexesSaid : Prop := catIndexesRow.holds Try.pinned (OpenSpec.ofChange catIndexesSpec)

/-- ITS FALSE NEIGHBOUR: 'it returns false'. Refute it at one input. -/
def catIndexesWrong : ChangeSpec := { name := "catIndexes", fn := fun _ => fun
  | [d1, d2] => { results := [.lit (.bool false)], args := [d1, d2] }
  | _ => none }
def CatIndexesWrongFalsely : Prop := catIndexesRow.holds Try.pinned (OpenSpec.ofChange catIndexesWrong)

/-- 'hedgerowlaw16.CatStays': WHATEVER THE INPUT: true; the input reads as it did. -/
def catStaysSpec : ChangeSpec := { name := "catStays", fn := fun _ => fun
  | [d1, d2] => { results := [.lit (.bool true)], args := [d1, d2] }
  | _ => none }
def catStaysRow : OpenClaim := { program := "ythpllblcbbkfdaa", sum := "268fb685b7ff01e773b8ec7d4951b36305c8caf85a576ea89547232c536f2c52", func := "hedgerow/hedgerowlaw16.CatStays", spec := "catStays", inPlace := ["slices.overlaps[hedgerow/api.Index]"], unfollowed := true, recurses := true, plainKeys := false, apart := false }
def CatStaysSaid : Prop := catStaysRow.holds Try.pinned (OpenSpec.ofChange catStaysSpec)

/-- ITS FALSE NEIGHBOUR: 'it returns false'. Refute it at one input. -/
def catStaysWrong : ChangeSpec := { name := "catStays", fn := fun _ => fun
  | [d1, d2] => { results := [.lit (.bool false)], args := [d1, d2] }
  | _ => none }
def CatStaysWrongFalsely : Prop := catStaysRow.holds Try.pinned (OpenSpec.ofChange catStaysWrong)

/- THE SECOND FORM. 'bulk': how many values and letters a reading holds, each counted each time it is reached (what is shared counts as often as it is met; a slice's spare places count too). A statement '..UptoSaid' is the law's where the arguments, and the package variables that the reading takes, are together of bulk at most 1048576: NARROWER than '..Said'. Prove '..Said' where nothing that the law and all that it calls make is longer than what came in: it says more and counts as full. Else prove '..UptoSaid'. A law counts once. -/
mutual
def uptoBulk {H : Type} : DataW H → Nat
  | .lit (.string bytes) => bytes.length + 1
  | .lit _ => 1
  | .nil => 1
  | .ptr d => uptoBulk d + 1
  | .slice elems spare => uptoBulkAll elems + uptoBulkAll spare + 1
  | .agg parts => uptoBulkAll parts + 1
  | .iface _ d => uptoBulk d + 1
  | .map entries => uptoBulkEntries entries + 1
  | .held _ => 1
def uptoBulkAll {H : Type} : List (DataW H) → Nat
  | [] => 0
  | d :: r => uptoBulk d + uptoBulkAll r
def uptoBulkEntries {H : Type} : List (Lit × DataW H) → Nat
  | [] => 0
  | x :: r => uptoBulkEntry x + uptoBulkEntries r
def uptoBulkEntry {H : Type} : Lit × DataW H → Nat
  | (.string bytes, d) => bytes.length + uptoBulk d + 1
  | (_, d) => uptoBulk d + 1
 end
def uptoSmall : (H : Type) → List (DataW H) → Bool := fun _ ds => decide (uptoBulkAll ds ≤ 1048576)
def OpenSpec.upto (s : _root_.Go.ChangeSpec) : _root_.Go.OpenSpec := { _root_.Go.OpenSpec.ofChange s with cond := some uptoSmall }

/-- 'hedgerowlaw14.SchemaTells', WHERE WHAT IT READS IS OF BULK AT MOST 1048576: true; the input reads as it did. -/
def schemaTellsUptoRow : OpenClaim := { program := "ythpllblcbbkfdaa", sum := "268fb685b7ff01e773b8ec7d4951b36305c8caf85a576ea89547232c536f2c52", func := "hedgerow/hedgerowlaw14.SchemaTells", spec := "schemaTells", inPlace := ["slices.overlaps[string]"], unfollowed := true, recurses := true, plainKeys := false, apart := false, narrowed := true }
def SchemaTellsUptoSaid : Prop := schemaTellsUptoRow.holds Try.pinned (OpenSpec.upto schemaTellsSpec)

/-- 'hedgerowlaw14.SchemaTurns', WHERE WHAT IT READS IS OF BULK AT MOST 1048576: true; the input reads as it did. -/
def schemaTurnsUptoRow : OpenClaim := { program := "ythpllblcbbkfdaa", sum := "268fb685b7ff01e773b8ec7d4951b36305c8caf85a576ea89547232c536f2c52", func := "hedgerow/hedgerowlaw14.SchemaTurns", spec := "schemaTurns", inPlace := ["slices.overlaps[string]"], unfollowed := true, recurses := true, plainKeys := false, apart := false, narrowed := true }
def SchemaTurnsUptoSaid : Prop := schemaTurnsUptoRow.holds Try.pinned (OpenSpec.upto schemaTurnsSpec)

/-- 'hedgerowlaw14.SchemaCopies', WHERE WHAT IT READS IS OF BULK AT MOST 1048576: true; the input reads as it did. -/
def schemaCopiesUptoRow : OpenClaim := { program := "ythpllblcbbkfdaa", sum := "268fb685b7ff01e773b8ec7d4951b36305c8caf85a576ea89547232c536f2c52", func := "hedgerow/hedgerowlaw14.SchemaCopies", spec := "schemaCopies", inPlace := ["slices.overlaps[string]"], unfollowed := true, recurses := true, plainKeys := false, apart := false, narrowed := true }
def SchemaCopiesUptoSaid : Prop := schemaCopiesUptoRow.holds Try.pinned (OpenSpec.upto schemaCopiesSpec)

/-- 'hedgerowlaw14.SchemaBack', WHERE WHAT IT READS IS OF BULK AT MOST 1048576: true; the input reads as it did. -/
def schemaBackUptoRow : OpenClaim := { program := "ythpllblcbbkfdaa", sum := "268fb685b7ff01e773b8ec7d4951b36305c8caf85a576ea89547232c536f2c52", func := "hedgerow/hedgerowlaw14.SchemaBack", spec := "schemaBack", inPlace := ["slices.overlaps[string]"], unfollowed := true, recurses := true, plainKeys := false, apart := false, narrowed := true }
def SchemaBackUptoSaid : Prop := schemaBackUptoRow.holds Try.pinned (OpenSpec.upto schemaBackSpec)

/-- 'hedgerowlaw14.SchemaMany', WHERE WHAT IT READS IS OF BULK AT MOST 1048576: true; the input reads as it did. -/
def schemaManyUptoRow : OpenClaim := { program := "ythpllblcbbkfdaa", sum := "268fb685b7ff01e773b8ec7d4951b36305c8caf85a576ea89547232c536f2c52", func := "hedgerow/hedgerowlaw14.SchemaMany", spec := "schemaMany", inPlace := ["slices.overlaps[string]"], unfollowed := true, recurses := true, plainKeys := false, apart := false, narrowed := true }
def SchemaManyUptoSaid : Prop := schemaManyUptoRow.holds Try.pinned (OpenSpec.upto schemaManySpec)

/-- 'hedgerowlaw16.CatGoods', WHERE WHAT IT READS IS OF BULK AT MOST 1048576: true; the input reads as it did. -/
def catGoodsUptoRow : OpenClaim := { program := "ythpllblcbbkfdaa", sum := "268fb685b7ff01e773b8ec7d4951b36305c8caf85a576ea89547232c536f2c52", func := "hedgerow/hedgerowlaw16.CatGoods", spec := "catGoods", unfollowed := true, recurses := true, plainKeys := false, apart := false, narrowed := true }
def CatGoodsUptoSaid : Prop := catGoodsUptoRow.holds Try.pinned (OpenSpec.upto catGoodsSpec)

/-- 'hedgerowlaw16.CatCodes', WHERE WHAT IT READS IS OF BULK AT MOST 1048576: true; the input reads as it did. -/
def catCodesUptoRow : OpenClaim := { program := "ythpllblcbbkfdaa", sum := "268fb685b7ff01e773b8ec7d4951b36305c8caf85a576ea89547232c536f2c52", func := "hedgerow/hedgerowlaw16.CatCodes", spec := "catCodes", unfollowed := true, recurses := true, plainKeys := false, apart := false, narrowed := true }
def CatCodesUptoSaid : Prop := catCodesUptoRow.holds Try.pinned (OpenSpec.upto catCodesSpec)

/-- 'hedgerowlaw16.CatBack', WHERE WHAT IT READS IS OF BULK AT MOST 1048576: true; the input reads as it did. -/
def catBackUptoRow : OpenClaim := { program := "ythpllblcbbkfdaa", sum := "268fb685b7ff01e773b8ec7d4951b36305c8caf85a576ea89547232c536f2c52", func := "hedgerow/hedgerowlaw16.CatBack", spec := "catBack", unfollowed := true, recurses := true, plainKeys := false, apart := false, narrowed := true }
def CatBackUptoSaid : Prop := catBackUptoRow.holds Try.pinned (OpenSpec.upto catBackSpec)

/-- 'hedgerowlaw16.CatRules', WHERE WHAT IT READS IS OF BULK AT MOST 1048576: true; the input reads as it did. -/
def catRulesUptoRow : OpenClaim := { program := "ythpllblcbbkfdaa", sum := "268fb685b7ff01e773b8ec7d4951b36305c8caf85a576ea89547232c536f2c52", func := "hedgerow/hedgerowlaw16.CatRules", spec := "catRules", unfollowed := true, recurses := true, plainKeys := false, apart := false, narrowed := true }
def CatRulesUptoSaid : Prop := catRulesUptoRow.holds Try.pinned (OpenSpec.upto catRulesSpec)

/-- 'hedgerowlaw16.CatMany', WHERE WHAT IT READS IS OF BULK AT MOST 1048576: true; the input reads as it did. -/
def catManyUptoRow : OpenClaim := { program := "ythpllblcbbkfdaa", sum := "268fb685b7ff01e773b8ec7d4951b36305c8caf85a576ea89547232c536f2c52", func := "hedgerow/hedgerowlaw16.CatMany", spec := "catMany", inPlace := ["slices.overlaps[hedgerow/api.Index]"], unfollowed := true, recurses := true, plainKeys := false, apart := false, narrowed := true }
def CatManyUptoSaid : Prop := catManyUptoRow.holds Try.pinned (OpenSpec.upto catManySpec)

/-- 'hedgerowlaw16.CatIndexes', WHERE WHAT IT READS IS OF BULK AT MOST 1048576: true; the input reads as it did. -/
def catIndexesUptoRow : OpenClaim := { program := "ythpllblcbbkfdaa", sum := "268fb685b7ff01e773b8ec7d4951b36305c8caf85a576ea89547232c536f2c52", func := "hedgerow/hedgerowlaw16.CatIndexes", spec := "catIndexes", inPlace := ["slices.overlaps[hedgerow/api.Index]"], unfollowed := true, recurses := true, plainKeys := false, apart := false, narrowed := true }
def CatIndexesUptoSaid : Prop := catIndexesUptoRow.holds Try.pinned (OpenSpec.upto catIndexesSpec)

/-- 'hedgerowlaw16.CatStays', WHERE WHAT IT READS IS OF BULK AT MOST 1048576: true; the input reads as it did. -/
def catStaysUptoRow : OpenClaim := { program := "ythpllblcbbkfdaa", sum := "268fb685b7ff01e773b8ec7d4951b36305c8caf85a576ea89547232c536f2c52", func := "hedgerow/hedgerowlaw16.CatStays", spec := "catStays", inPlace := ["slices.overlaps[hedgerow/api.Index]"], unfollowed := true, recurses := true, plainKeys := false, apart := false, narrowed := true }
def CatStaysUptoSaid : Prop := catStaysUptoRow.holds Try.pinned (OpenSpec.upto catStaysSpec)

end Rows
end Go.Proofs.Ythpllblcbbkfdaa
