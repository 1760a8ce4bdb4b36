/- The walk of the law RuleBack. Own work. -/
import Derived.Test.YtfpgjaallhpddaaRuleTurn
import Derived.Test.YtfpgjaallhpddaaLawRuleKeeps
set_option linter.unusedVariables false
set_option maxRecDepth 100000
namespace Go.Proofs.Ytfpgjaallhpddaa
open Go Go.RowKit OE

theorem err_ok {r : RD.T} (h : decide (errS r = 0) = true) : okS r = true := by
  cases hn : okS r with
  | true => rfl
  | false => simp [errS, hn] at h

theorem row_RuleBack (r : RD.T) (hr : Wf RD r) (s : List UInt8) (hs : s.length ≤ 140737488351232) :
    FnD Try.prog 7 [.agg (rc r), .c (.str s)] (· = .c (.bool (.sym true))) := by
  refine fn0 Try.func7 rfl rfl rfl ?_
  conv => whnf
  refine call1 (keep_LargeRule r) rfl ?_
  conv => whnf
  refine ⟨fun h1 => ?_, fun h1 => ?_⟩
  · conv => whnf
    refine call1 (rule_wakes) rfl ?_
    conv => whnf
  simp only [Bool.or_eq_false_iff, decide_eq_false_iff_not] at h1
  have h1 : s.length ≤ 1000000 := by omega
  have eq : ∀ c : RD.T, RD.eqb c c = true := fun c => (D.eqb_iff RD c c).2 rfl
  conv => whnf
  refine call1 (rule_Encode r) rfl ?_
  conv => whnf
  refine ⟨fun h2 => ?_, fun h2 => ?_⟩
  · have hok := err_ok h2
    have hl := bytS_len hok
    have he : encS r = bytS r := by unfold encS; rw [if_pos hok]
    rw [← he] at hl
    conv => whnf
    refine ⟨by show 1 + _ ≤ _; omega, ?_⟩
    conv => whnf
    refine ⟨by rw [List.length_append]; show 1 + _ + 1 ≤ _; omega, ?_⟩
    conv => whnf
    refine call1 (rule_Decode ([120] ++ encS r ++ [120]) 1 (by simp only [List.length_append, List.length_singleton]; omega)) rfl ?_
    conv => whnf
    rw [back1 r hok]
    dsimp only [Option.getD_some, Option.isSome_some]
    refine callg0 (fun _ => keep_Rule r r) rfl ?_
    conv => whnf
    rw [eq r]
    refine fk (by simp) ?_
    conv => whnf
    refine call1 (rule_Decode s 0 h1) rfl ?_
    conv => whnf
    cases hd : decS s 0 with
    | none =>
      refine tk rfl ?_
      conv => whnf
      refine callg0 (fun _ => keep_Rule R0 R0) rfl ?_
      conv => whnf
      refine callg0 (fun _ => rule_wakes) rfl ?_
      conv => whnf
      rw [eq R0]
      rfl
    | some p =>
      have hb := back2 (q := p.1) (n := p.2) hd
      refine fk rfl ?_
      conv => whnf
      refine call1 (rule_Encode p.1) rfl ?_
      conv => whnf
      refine ⟨fun _ => ⟨Int.natCast_nonneg _, Int.ofNat_le.2 hb.2.2⟩, ?_⟩
      conv => whnf
      refine callg0 (fun _ => rule_wakes) rfl ?_
      conv => whnf
      have e0 : errS p.1 = 0 := by unfold errS; rw [if_pos hb.1]
      rw [e0, hb.2.1]
      simp
  · conv => whnf
    refine call1 (rule_Decode s 0 h1) rfl ?_
    conv => whnf
    cases hd : decS s 0 with
    | none =>
      refine tk rfl ?_
      conv => whnf
      refine callg0 (fun _ => keep_Rule R0 R0) rfl ?_
      conv => whnf
      refine callg0 (fun _ => rule_wakes) rfl ?_
      conv => whnf
      rw [eq R0]
      rfl
    | some p =>
      have hb := back2 (q := p.1) (n := p.2) hd
      refine fk rfl ?_
      conv => whnf
      refine call1 (rule_Encode p.1) rfl ?_
      conv => whnf
      refine ⟨fun _ => ⟨Int.natCast_nonneg _, Int.ofNat_le.2 hb.2.2⟩, ?_⟩
      conv => whnf
      refine callg0 (fun _ => rule_wakes) rfl ?_
      conv => whnf
      have e0 : errS p.1 = 0 := by unfold errS; rw [if_pos hb.1]
      rw [e0, hb.2.1]
      simp
end Go.Proofs.Ytfpgjaallhpddaa
