/- The walk of the law RuleKeeps. Own work. -/
import Derived.Test.YtfpgjaallhpddaaRuleFirst
set_option linter.unusedVariables false
set_option maxRecDepth 100000
namespace Go.Proofs.Ytfpgjaallhpddaa
open Go Go.RowKit OE

theorem small_props {l : List PD.T} (h : largeProps l = false) : l.length ≤ 60 := by
  simp only [largeProps, Bool.or_eq_false_iff, decide_eq_false_iff_not] at h; omega
theorem small_graph {n : List ND.T} {e : List ED.T} (h : largeGraph n e = false) : n.length ≤ 300 ∧ e.length ≤ 300 ∧ (∀ x ∈ n, x.2.2.length ≤ 1000) ∧ ∀ x ∈ e, x.2.2.2.2.length ≤ 1000 := by
  simp only [largeGraph, Bool.or_eq_false_iff, decide_eq_false_iff_not, List.any_eq_false] at h
  refine ⟨by omega, by omega, fun x hx => ?_, fun x hx => ?_⟩
  · have h1 := h.2.1 x hx
    simp only [largeN, Bool.or_eq_true, not_or, Bool.not_eq_true] at h1
    have h2 := small_props h1.2; omega
  · have h1 := h.2.2 x hx
    simp only [largeE, Bool.or_eq_true, not_or, Bool.not_eq_true] at h1
    have h2 := small_props h1.2; omega

theorem row_RuleKeeps (nodes : List ND.T) (hn : Wf (.list ND) nodes) (edges : List ED.T) (he : Wf (.list ED) edges) (l : List RD.T) (hl : Wf (.list RD) l) :
    FnD Try.prog 3 [.c (.dat ND nodes), .c (.dat ED edges), .c (.dat RD l)] (· = .c (.bool (.sym true))) := by
  refine fn0 Try.func3 rfl rfl rfl ?_
  conv => whnf
  refine call1 (keep_LargeGraph nodes edges) rfl ?_
  conv => whnf
  intro hmax
  conv => whnf
  refine ⟨fun h1 => ?_, fun h1 => ?_⟩
  · conv => whnf
    refine call1 (rule_wakes) rfl ?_
    conv => whnf
  rw [Bool.or_eq_false_iff] at h1
  obtain ⟨s1, s2, s3, s4⟩ := small_graph h1.1
  have h1 : l.length ≤ 40 := by have := h1.2; simp at this; omega
  conv => whnf
  refine call1 (keep_CopyNodes nodes (by omega) s3) rfl ?_
  conv => whnf
  refine call1 (keep_CopyEdges edges (by omega) s4) rfl ?_
  conv => whnf
  refine loop0 (α := Nat) (fun i => i ≤ l.length) (fun i => ⟨[(0, .c (.dat ND nodes)), (1, .c (.dat ED edges)), (2, .c (.dat RD l)), (7, .c (.dat ND nodes)), (8, .c (.dat ED edges)), (9, .c (.int .i64 i))], [], 0⟩) (fun i => l.length - i) ⟨0, by omega, ?_⟩ ?_
  · (conv => whnf); refine ⟨rfl, ?_, ?_, ?_⟩ <;> (repeat' apply And.intro) <;> first | exact trivial | rfl | exact wr_succ _ (by omega) | assumption
  · intro i hI
    conv => whnf
    intro _
    refine ⟨fun h2 => ?_, fun h2 => ?_⟩
    · have h2 : i < l.length := by simp at h2; omega
      have hwr := hl.2 l[i] (List.getElem_mem h2)
      conv => whnf
      try (intro _; conv => whnf)
      refine ⟨by omega, ?_⟩
      rw [gt_nat (d := RD) l i h2]
      conv => whnf
      refine call1 (keep_LargeRule l[i]) rfl ?_
      conv => whnf
      refine ⟨fun h3 => ?_, fun h3 => ?_⟩
      · conv => whnf
        refine call1 (rule_wakes) rfl ?_
        conv => whnf
      conv => whnf
      refine any0 ?_
      conv => whnf
      try (intro _; conv => whnf)
      refine ⟨by omega, ?_⟩
      rw [gt_nat (d := RD) l i h2]
      conv => whnf
      refine callr0 (rule_Keeps nodes edges l[i] (by omega) (by omega) hn.2 he.2 hwr) rfl ?_
      conv => whnf
      try (intro _; conv => whnf)
      refine ⟨by omega, ?_⟩
      rw [gt_nat (d := RD) l i h2]
      conv => whnf
      refine callr0 (ref_Keeps nodes edges l[i] (by omega) (by omega)) rfl ?_
      conv => whnf
      refine ⟨.inl (by kernel_rfl), after0 ?_⟩
      conv => whnf
      refine fk (by simp) ?_
      conv => whnf
      refine ⟨i + 1, ⟨by omega, by omega⟩, ?_⟩
      (conv => whnf); refine ⟨rfl, ?_, ?_, ?_⟩ <;> (repeat' apply And.intro) <;> first | exact trivial | rfl | exact wr_succ _ (by omega) | assumption
    · conv => whnf
      refine ⟨by show (0 + l.length) * 96 ≤ 140737488355328; omega, ?_⟩
      conv => whnf
      refine fzc 1 rfl ?_
      conv => whnf
      refine call1 (rule_First nodes edges l (by omega) (by omega) hn.2 he.2 hl.2) rfl ?_
      conv => whnf
      refine call1 (ref_First nodes edges l (by omega) (by omega)) rfl ?_
      conv => whnf
      refine callg0 (fun _ => keep_Nodes nodes nodes) rfl ?_
      conv => whnf
      refine callg0 (fun _ => keep_Edges edges edges) rfl ?_
      conv => whnf
      refine callg0 (fun _ => rule_wakes) rfl ?_
      conv => whnf
      have e1 : eqL ND.eqb nodes nodes = true := (eqL_iff (D.eqb_iff ND)).2 rfl
      have e2 : eqL ED.eqb edges edges = true := (eqL_iff (D.eqb_iff ED)).2 rfl
      rw [e1, e2]
      simp
end Go.Proofs.Ytfpgjaallhpddaa
