/- The walk of the law RuleCodes. Own work. -/
import Derived.Test.YtfpgjaallhpddaaRuleDecodeRef
import Derived.Test.YtfpgjaallhpddaaLawRuleKeeps
set_option linter.unusedVariables false
set_option maxRecDepth 100000
namespace Go.Proofs.Ytfpgjaallhpddaa
open Go Go.RowKit OE

theorem row_RuleCodes (r : RD.T) (hr : Wf RD r) (s : List UInt8) (hs : s.length ≤ 140737488351232) (k : Int) (wk : (Lit.int .i64 k).wf = true) :
    FnD Try.prog 6 [.agg (rc r), .c (.str s), .c (.int .i64 k)] (· = .c (.bool (.sym true))) := by
  refine fn0 Try.func6 rfl rfl rfl ?_
  conv => whnf
  refine call1 (keep_LargeRule r) rfl ?_
  conv => whnf
  refine ⟨fun h1 => ?_, fun h1 => ?_⟩
  · conv => whnf
    refine call1 (rule_wakes) rfl ?_
    conv => whnf
  simp only [Bool.or_eq_false_iff, decide_eq_false_iff_not] at h1
  have h1 : s.length ≤ 1000000 := by omega
  conv => whnf
  refine call1 (rule_Encode r) rfl ?_
  conv => whnf
  refine call1 (refrule_Encode r) rfl ?_
  conv => whnf
  refine call1 (rule_Decode s k h1) rfl ?_
  conv => whnf
  refine call1 (refrule_Decode s k h1) rfl ?_
  conv => whnf
  refine callg0 (fun _ => keep_Rule ((decS s k).getD (R0, 0)).1 ((decS s k).getD (R0, 0)).1) rfl ?_
  conv => whnf
  refine callg0 (fun _ => rule_wakes) rfl ?_
  conv => whnf
  have e : ∀ c : RD.T, RD.eqb c c = true := fun c => (D.eqb_iff RD c c).2 rfl
  rw [e]
  simp
end Go.Proofs.Ytfpgjaallhpddaa
