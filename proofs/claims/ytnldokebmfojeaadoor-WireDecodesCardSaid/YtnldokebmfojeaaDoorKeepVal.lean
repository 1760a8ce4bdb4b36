/- The walks of hedgerowkeep: values, properties, rules. Own work. -/
import Derived.Test.YtnldokebmfojeaaDoorTab
set_option linter.unusedVariables false
set_option maxRecDepth 100000
namespace Go.Proofs.YtnldokebmfojeaaDoor
open Go Go.RowKit OE

/-- a value: kind, number, text -/
abbrev VD : D := .pair (.int .i64) (.pair (.int .i64) .str)
abbrev vc (v : VD.T) : List C := [.int .i64 v.1, .int .i64 v.2.1, .str v.2.2]
/-- a property: name, value -/
abbrev PD : D := .pair .str VD
abbrev RD : D := .pair (.int .i64) (.pair (.int .i64) (.pair .str (.pair .str (.pair .str (.pair .str (.pair (.int .i64) (.int .i64)))))))
abbrev rc (r : RD.T) : List C := [.int .i64 r.1, .int .i64 r.2.1, .str r.2.2.1, .str r.2.2.2.1, .str r.2.2.2.2.1, .str r.2.2.2.2.2.1, .int .i64 r.2.2.2.2.2.2.1, .int .i64 r.2.2.2.2.2.2.2]

theorem keep_Value (v w : VD.T) : FnD Tryd.prog 46 [.agg (vc v), .agg (vc w)] (· = .c (.bool (.sym (VD.eqb v w)))) := by
  refine fn0 Tryd.func46 rfl rfl rfl ?_
  conv => whnf
  simp [D.eqb, Bool.and_assoc]

theorem PD_eqb (x y : PD.T) : PD.eqb x y = (decide (x.1 = y.1) && VD.eqb x.2 y.2) := rfl

theorem keep_Rule (v w : RD.T) : FnD Tryd.prog 48 [.agg (rc v), .agg (rc w)] (· = .c (.bool (.sym (RD.eqb v w)))) := by
  refine fn0 Tryd.func48 rfl rfl rfl ?_
  conv => whnf
  simp [D.eqb, Bool.and_assoc]

theorem keep_LargeValue (v : VD.T) : FnD Tryd.prog 22 [.agg (vc v)] (· = .c (.bool (.sym (decide ((5000 : Int) < v.2.2.length))))) := by
  refine fn0 Tryd.func22 rfl rfl rfl ?_
  conv => whnf

def largeP (p : PD.T) : Bool := decide ((1000 : Int) < p.1.length) || decide ((5000 : Int) < p.2.2.2.length)
def largeProps (l : List PD.T) : Bool := decide ((60 : Int) < l.length) || l.any largeP
end Go.Proofs.YtnldokebmfojeaaDoor
