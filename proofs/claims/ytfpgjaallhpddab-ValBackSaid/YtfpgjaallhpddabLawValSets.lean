/- The walk of the law ValSets. Own work. -/
import Derived.Test.YtfpgjaallhpddabValWakes
import Derived.Test.YtfpgjaallhpddabValRefSet
import Derived.Test.YtfpgjaallhpddabRuleForm
set_option linter.unusedVariables false
set_option maxRecDepth 100000
namespace Go.Proofs.Ytfpgjaallhpddab
open Go Go.RowKit OE

theorem props_len {l : List PD.T} (h : largeProps l = false) : l.length ≤ 60 := by
  simp only [largeProps, Bool.or_eq_false_iff, decide_eq_false_iff_not] at h; omega
theorem eqP_self (a : List PD.T) : eqL PD.eqb a a = true := (D.eqb_iff (.list PD) a a).2 rfl
theorem eqV_self (a : VD.T) : VD.eqb a a = true := (D.eqb_iff VD a a).2 rfl

end Go.Proofs.Ytfpgjaallhpddab
