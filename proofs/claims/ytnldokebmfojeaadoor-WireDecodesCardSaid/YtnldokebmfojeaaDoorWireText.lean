/- The walks of wire.text, number, value; data of commands. Own work. -/
import Derived.Test.YtnldokebmfojeaaDoorKeepGraph
import Derived.Test.YtnldokebmfojeaaDoorValName
import Derived.Test.YtnldokebmfojeaaDoorRuleForm
import Derived.Test.YtnldokebmfojeaaDoorNumGets
import Derived.Test.YtnldokebmfojeaaDoorNumPuts
import Derived.Test.YtnldokebmfojeaaDoorRuleEncode
import Derived.Test.YtnldokebmfojeaaDoorRuleDecode
import Derived.Test.YtnldokebmfojeaaDoorValEncode
import Derived.Test.YtnldokebmfojeaaDoorValDecode
set_option linter.unusedVariables false
set_option maxRecDepth 100000
namespace Go.Proofs.YtnldokebmfojeaaDoor
open Go Go.RowKit OE

/-- a change: kind, Id, type, from, to, name, value, cascade -/
abbrev OD : D := .pair (.int .i64) (.pair (.int .i64) (.pair .str (.pair (.int .i64) (.pair (.int .i64) (.pair .str (.pair VD .bool))))))
abbrev oc (o : OD.T) : List C := [.int .i64 o.1, .int .i64 o.2.1, .str o.2.2.1, .int .i64 o.2.2.2.1, .int .i64 o.2.2.2.2.1, .str o.2.2.2.2.2.1, .int .i64 o.2.2.2.2.2.2.1.1, .int .i64 o.2.2.2.2.2.2.1.2.1, .str o.2.2.2.2.2.2.1.2.2, .bool (.sym o.2.2.2.2.2.2.2)]
/-- a command: kind, Id, type, name, value, to, N, change, rule -/
abbrev MD : D := .pair (.int .i64) (.pair (.int .i64) (.pair .str (.pair .str (.pair VD (.pair VD (.pair (.int .i64) (.pair OD RD)))))))
abbrev mc (m : MD.T) : List C := [.int .i64 m.1, .int .i64 m.2.1, .str m.2.2.1, .str m.2.2.2.1, .int .i64 m.2.2.2.2.1.1, .int .i64 m.2.2.2.2.1.2.1, .str m.2.2.2.2.1.2.2, .int .i64 m.2.2.2.2.2.1.1, .int .i64 m.2.2.2.2.2.1.2.1, .str m.2.2.2.2.2.1.2.2, .int .i64 m.2.2.2.2.2.2.1,
  .int .i64 m.2.2.2.2.2.2.2.1.1, .int .i64 m.2.2.2.2.2.2.2.1.2.1, .str m.2.2.2.2.2.2.2.1.2.2.1, .int .i64 m.2.2.2.2.2.2.2.1.2.2.2.1, .int .i64 m.2.2.2.2.2.2.2.1.2.2.2.2.1, .str m.2.2.2.2.2.2.2.1.2.2.2.2.2.1, .int .i64 m.2.2.2.2.2.2.2.1.2.2.2.2.2.2.1.1, .int .i64 m.2.2.2.2.2.2.2.1.2.2.2.2.2.2.1.2.1, .str m.2.2.2.2.2.2.2.1.2.2.2.2.2.2.1.2.2, .bool (.sym m.2.2.2.2.2.2.2.1.2.2.2.2.2.2.2),
  .int .i64 m.2.2.2.2.2.2.2.2.1, .int .i64 m.2.2.2.2.2.2.2.2.2.1, .str m.2.2.2.2.2.2.2.2.2.2.1, .str m.2.2.2.2.2.2.2.2.2.2.2.1, .str m.2.2.2.2.2.2.2.2.2.2.2.2.1, .str m.2.2.2.2.2.2.2.2.2.2.2.2.2.1, .int .i64 m.2.2.2.2.2.2.2.2.2.2.2.2.2.2.1, .int .i64 m.2.2.2.2.2.2.2.2.2.2.2.2.2.2.2]
def mType (m : MD.T) : List UInt8 := m.2.2.1
def mName (m : MD.T) : List UInt8 := m.2.2.2.1
def mV (m : MD.T) : VD.T := m.2.2.2.2.1
def mTo (m : MD.T) : VD.T := m.2.2.2.2.2.1
def mN (m : MD.T) : Int := m.2.2.2.2.2.2.1
def mOp (m : MD.T) : OD.T := m.2.2.2.2.2.2.2.1
def mRule (m : MD.T) : RD.T := m.2.2.2.2.2.2.2.2
def oV (o : OD.T) : VD.T := o.2.2.2.2.2.2.1

/-- the bytes of a field, and whether it has a form -/
def txS (s : List UInt8) (e : Bool) : List UInt8 × Bool := (Num.putT s, nameS s || (e && decide (s = [])))
def u64 (n : Int) : Nat := (IntKind.wrap .u64 n).toNat
def nuS (n least most : Int) : List UInt8 × Bool := (Num.putN (u64 n), decide (least ≤ n) && decide (n ≤ most))
def vaS (v : VD.T) (e : Bool) : List UInt8 × Bool := (encV v, !decide (encV v = []) && (e || !decide (v.1 = 0)))
theorem wrap_u64 (n : Int) : IntKind.wrap .u64 n = (u64 n : Int) ∧ u64 n < 18446744073709551616 := by
  have h : IntKind.wrap .u64 n = n % 18446744073709551616 := by simp [IntKind.wrap, IntKind.bits, IntKind.signed]
  unfold u64
  rw [h]
  omega
theorem u64_of {n : Int} (h0 : 0 ≤ n) (h1 : n < 18446744073709551616) : u64 n = n.toNat := by
  have h : IntKind.wrap .u64 n = n % 18446744073709551616 := by simp [IntKind.wrap, IntKind.bits, IntKind.signed]
  unfold u64
  rw [h]
  omega
abbrev paR (p : List UInt8 × Bool) : SV := .tup [(false, [.str p.1]), (false, [.bool (.sym p.2)])]
theorem wire_text0 (s : List UInt8) (hs : s.length ≤ 140737488355327) (b : Bool) : FnD Tryd.prog 67 [.c (.str s), .c (.bool (.sym b))] (· = paR (txS s b)) := by
  refine fn0 Tryd.func67 rfl rfl rfl ?_
  conv => whnf
  refine call1 (num_PutText s hs) rfl ?_
  conv => whnf
  refine call1 (val_Name s) rfl ?_
  conv => whnf
  rfl
theorem wire_text (s : List UInt8) (hs : s.length ≤ 140737488355327) (b : BE) : FnD Tryd.prog 67 [.c (.str s), .c (.bool b)] (· = paR (txS s b.v)) := by
  cases b with
  | tt => exact (wire_text0 s hs true).args fun w ok => ⟨fun _ h => h, fun _ h => h, trivial⟩
  | ff => exact (wire_text0 s hs false).args fun w ok => ⟨fun _ h => h, fun _ h => h, trivial⟩
  | sym b => exact wire_text0 s hs b
theorem wire_number (n least most : Int) : FnD Tryd.prog 68 [.c (.int .i64 n), .c (.int .i64 least), .c (.int .i64 most)] (· = paR (nuS n least most)) := by
  obtain ⟨e, hl⟩ := wrap_u64 n
  refine fn0 Tryd.func68 rfl rfl rfl ?_
  conv => whnf
  rw [e]
  refine call1 (num_Put (u64 n) hl) rfl ?_
  conv => whnf
  rfl
theorem wire_value0 (v : VD.T) (hv : Wf VD v) (b : Bool) : FnD Tryd.prog 69 [.agg (vc v), .c (.bool (.sym b))] (· = paR (vaS v b)) := by
  refine fn0 Tryd.func69 rfl rfl rfl ?_
  conv => whnf
  refine call1 (val_Encode v hv) rfl ?_
  conv => whnf
  refine any0 ?_
  conv => whnf
  refine ⟨.inl (by kernel_rfl), after0 ?_⟩
  conv => whnf
  rfl
theorem wire_value (v : VD.T) (hv : Wf VD v) (b : BE) : FnD Tryd.prog 69 [.agg (vc v), .c (.bool b)] (· = paR (vaS v b.v)) := by
  cases b with
  | tt => exact (wire_value0 v hv true).args fun w ok => ⟨fun _ h => h, fun _ h => h, trivial⟩
  | ff => exact (wire_value0 v hv false).args fun w ok => ⟨fun _ h => h, fun _ h => h, trivial⟩
  | sym b => exact wire_value0 v hv b
end Go.Proofs.YtnldokebmfojeaaDoor
