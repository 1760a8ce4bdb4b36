/- The walks of hedgerowkeep: nodes, edges, graphs. Own work. -/
import Derived.Test.YtnldokebmfojeaaDoorKeepVal
set_option linter.unusedVariables false
set_option maxRecDepth 100000
namespace Go.Proofs.YtnldokebmfojeaaDoor
open Go Go.RowKit OE

abbrev ND : D := .pair (.int .i64) (.pair .str (.list PD))
abbrev nc (n : ND.T) : List C := [.int .i64 n.1, .str n.2.1, .dat PD n.2.2]
abbrev ED : D := .pair (.int .i64) (.pair .str (.pair (.int .i64) (.pair (.int .i64) (.list PD))))
abbrev ec (e : ED.T) : List C := [.int .i64 e.1, .str e.2.1, .int .i64 e.2.2.1, .int .i64 e.2.2.2.1, .dat PD e.2.2.2.2]

def largeRule (r : RD.T) : Bool := decide ((1000 : Int) < r.2.2.1.length) || decide ((1000 : Int) < r.2.2.2.1.length) || decide ((1000 : Int) < r.2.2.2.2.1.length) || decide ((1000 : Int) < r.2.2.2.2.2.1.length)
theorem keep_LargeRule (r : RD.T) : FnD Tryd.prog 24 [.agg (rc r)] (· = .c (.bool (.sym (largeRule r)))) := by
  refine fn0 Tryd.func24 rfl rfl rfl ?_
  conv => whnf
  rfl

def largeN (n : ND.T) : Bool := decide ((1000 : Int) < n.2.1.length) || largeProps n.2.2
def largeE (e : ED.T) : Bool := decide ((1000 : Int) < e.2.1.length) || largeProps e.2.2.2.2
def largeGraph (n : List ND.T) (e : List ED.T) : Bool := decide ((300 : Int) < n.length) || decide ((300 : Int) < e.length) || (n.any largeN || e.any largeE)
end Go.Proofs.YtnldokebmfojeaaDoor
