/- The walks of both First, of the law's wakes, and of the law RuleKeeps. Own work. -/
import Derived.Test.YtfpgjaallhpddaaRuleBroken
set_option linter.unusedVariables false
set_option maxRecDepth 100000
namespace Go.Proofs.Ytfpgjaallhpddaa
open Go Go.RowKit OE

/-- is a rule the one that is told from now on? -/
def hitS (nodes : List ND.T) (edges : List ED.T) (p : Int × Bool) (r : RD.T) : Bool := decide (r.2.2.2.2.2.2.2 = 2) && !keepsS nodes edges r && (!p.2 || decide (r.1 < p.1))
def firstS (nodes : List ND.T) (edges : List ED.T) (l : List RD.T) : Int × Bool := l.foldl (fun p r => if hitS nodes edges p r = true then (r.1, true) else p) (0, false)
theorem firstS_step {nodes : List ND.T} {edges : List ED.T} {l : List RD.T} {i : Nat} (h : i < l.length) :
    firstS nodes edges (l.take (i + 1)) = if hitS nodes edges (firstS nodes edges (l.take i)) l[i] = true then (l[i].1, true) else firstS nodes edges (l.take i) := by
  rw [take_step h, firstS, List.foldl_append]; rfl

theorem rule_First (nodes : List ND.T) (edges : List ED.T) (l : List RD.T) (hn : nodes.length ≤ 1000) (he : edges.length ≤ 1000) (hw : ∀ n ∈ nodes, Wf ND n) (hwe : ∀ e ∈ edges, Wf ED e) (hl : ∀ r ∈ l, Wf RD r) :
    FnD Try.prog 22 [.c (.dat ND nodes), .c (.dat ED edges), .c (.dat RD l)] (· = .tup [(false, [.int .i64 (firstS nodes edges l).1]), (false, [.bool (.sym (firstS nodes edges l).2)])]) := by
  refine fn0 Try.func22 rfl rfl rfl ?_
  conv => whnf
  intro hmax
  conv => whnf
  refine loop0 (α := Nat) (fun i => i ≤ l.length) (fun i => ⟨[(0, .c (.dat ND nodes)), (1, .c (.dat ED edges)), (8, .c (.int .i64 (firstS nodes edges (l.take i)).1)), (9, .c (.bool (.sym (firstS nodes edges (l.take i)).2))),
      (12, .c (.dat RD l)), (13, .c (.int .i64 l.length)), (14, .c (.int .i64 i))], [], 0⟩) (fun i => l.length - i) ⟨0, by omega, ?_⟩ ?_
  · (conv => whnf); refine ⟨rfl, ?_, ?_, ?_⟩ <;> (repeat' apply And.intro) <;> first | exact trivial | rfl | exact wr_succ _ (by omega) | assumption
  · intro i hI
    conv => whnf
    refine ⟨fun h1 => ?_, fun h1 => ?_⟩
    · have h1 : i < l.length := by simp at h1; omega
      have hst := firstS_step (nodes := nodes) (edges := edges) h1
      have hwr := hl l[i] (List.getElem_mem h1)
      conv => whnf
      try (intro _; conv => whnf)
      refine ⟨by omega, ?_⟩
      rw [gt_nat (d := RD) l i h1]
      conv => whnf
      refine callg0 (fun _ => rule_Keeps nodes edges l[i] hn he hw hwe hwr) rfl ?_
      conv => whnf
      generalize hfs : firstS nodes edges (l.take i) = p at hst ⊢
      refine ⟨fun h2 => ?_, fun h2 => ?_⟩
      · conv => whnf
        rw [if_pos (by rw [hitS]; exact h2)] at hst
        refine ⟨i + 1, ⟨by omega, by omega⟩, ?_⟩
        have e1 := congrArg (·.1) hst
        have e2 := congrArg (·.2) hst
        (conv => whnf); refine ⟨rfl, ?_, ?_, ?_⟩ <;> (repeat' apply And.intro) <;> first | exact trivial | rfl | exact wr_succ _ (by omega) | assumption
      · conv => whnf
        rw [if_neg (by rw [hitS]; simpa using h2)] at hst
        refine ⟨i + 1, ⟨by omega, by omega⟩, ?_⟩
        have e1 := congrArg (·.1) hst
        have e2 := congrArg (·.2) hst
        (conv => whnf); refine ⟨rfl, ?_, ?_, ?_⟩ <;> (repeat' apply And.intro) <;> first | exact trivial | rfl | exact wr_succ _ (by omega) | assumption
    · have h1 : l.length ≤ i := by simp at h1; omega
      conv => whnf
      rw [List.take_of_length_le h1]

theorem ref_First (nodes : List ND.T) (edges : List ED.T) (l : List RD.T) (hn : nodes.length ≤ 1000) (he : edges.length ≤ 1000) :
    FnD Try.prog 23 [.c (.dat ND nodes), .c (.dat ED edges), .c (.dat RD l)] (· = .tup [(false, [.int .i64 (firstS nodes edges l).1]), (false, [.bool (.sym (firstS nodes edges l).2)])]) := by
  refine fn0 Try.func23 rfl rfl rfl ?_
  conv => whnf
  refine loop0 (α := Nat) (fun i => i ≤ l.length) (fun i => ⟨[(0, .c (.dat ND nodes)), (1, .c (.dat ED edges)), (2, .c (.dat RD l)), (8, .c (.int .i64 (firstS nodes edges (l.take i)).1)), (9, .c (.bool (.sym (firstS nodes edges (l.take i)).2))),
      (10, .c (.int .i64 i))], [], 0⟩) (fun i => l.length - i) ⟨0, by omega, ?_⟩ ?_
  · (conv => whnf); refine ⟨rfl, ?_, ?_, ?_⟩ <;> (repeat' apply And.intro) <;> first | exact trivial | rfl | exact wr_succ _ (by omega) | assumption
  · intro i hI
    conv => whnf
    intro hmax
    refine ⟨fun h1 => ?_, fun h1 => ?_⟩
    · have h1 : i < l.length := by simp at h1; omega
      have hst := firstS_step (nodes := nodes) (edges := edges) h1
      conv => whnf
      try (intro _; conv => whnf)
      refine ⟨by omega, ?_⟩
      rw [gt_nat (d := RD) l i h1]
      conv => whnf
      try (intro _; conv => whnf)
      refine ⟨fun _ => by omega, ?_⟩
      rw [gt_nat (d := RD) l i h1]
      conv => whnf
      refine callg0 (fun _ => ref_Keeps nodes edges l[i] hn he) rfl ?_
      conv => whnf
      generalize hfs : firstS nodes edges (l.take i) = p at hst ⊢
      try (intro _; conv => whnf)
      refine ⟨fun _ => by omega, ?_⟩
      rw [gt_nat (d := RD) l i h1]
      conv => whnf
      refine ⟨fun h2 => ?_, fun h2 => ?_⟩
      · conv => whnf
        try (intro _; conv => whnf)
        refine ⟨by omega, ?_⟩
        rw [gt_nat (d := RD) l i h1]
        conv => whnf
        rw [if_pos (by rw [hitS]; exact h2)] at hst
        refine ⟨i + 1, ⟨by omega, by omega⟩, ?_⟩
        have e1 := congrArg (·.1) hst
        have e2 := congrArg (·.2) hst
        (conv => whnf); refine ⟨rfl, ?_, ?_, ?_⟩ <;> (repeat' apply And.intro) <;> first | exact trivial | rfl | exact wr_succ _ (by omega) | assumption
      · conv => whnf
        rw [if_neg (by rw [hitS]; simpa using h2)] at hst
        refine ⟨i + 1, ⟨by omega, by omega⟩, ?_⟩
        have e1 := congrArg (·.1) hst
        have e2 := congrArg (·.2) hst
        (conv => whnf); refine ⟨rfl, ?_, ?_, ?_⟩ <;> (repeat' apply And.intro) <;> first | exact trivial | rfl | exact wr_succ _ (by omega) | assumption
    · have h1 : l.length ≤ i := by simp at h1; omega
      conv => whnf
      rw [List.take_of_length_le h1]

abbrev wkR : RD.T := (3, 1, [99, 105, 116, 121], [110, 97, 109, 101], [], [], 0, 2)
abbrev wkP : List PD.T := [([110, 97, 109, 101], (3, 0, [97]))]
abbrev wkL : List ND.T := [(1, [99, 105, 116, 121], wkP), (2, [99, 105, 116, 121], wkP)]
theorem wkW : (∀ n ∈ wkL, Wf ND n) ∧ Wf RD wkR := by decide
theorem wk1 : firstS wkL [] [wkR] = (3, true) := by decide
theorem wk2 : formS wkR = true := by decide
theorem wk3 : keepsS (wkL.take 1) [] wkR = true := by decide
theorem wk4 : keepsS wkL [] wkR = false := by decide

theorem rule_wakes : FnD Try.prog 16 [] (· = .c (.bool (.sym true))) := by
  refine fn0 Try.func16 rfl rfl rfl ?_
  conv => whnf
  refine fzs 1 rfl ?_
  conv => whnf
  refine fzc 2 rfl ?_
  conv => whnf
  refine fzc 3 rfl ?_
  conv => whnf
  refine call1 ((rule_First wkL [] [wkR] (by decide) (by decide) wkW.1 (fun _ h => by cases h) (fun r hr => by simp at hr; subst hr; exact wkW.2)).args fun w ok => ⟨sameA, nilA, sameA, trivial⟩) rfl ?_
  rw [wk1]
  conv => whnf
  refine any0 ?_
  conv => whnf
  refine callr0 (rule_Form wkR) rfl ?_
  conv => whnf
  rw [wk2]
  conv => whnf
  refine ⟨fun _ => by decide, ?_⟩
  conv => whnf
  refine callrg0 (fun _ => (rule_Keeps (wkL.take 1) [] wkR (by decide) (by decide) (by decide) (by decide) wkW.2).args fun w ok => ⟨sameA, nilA, sameA, trivial⟩) rfl ?_
  conv => whnf
  rw [wk3]
  conv => whnf
  refine callrg0 (fun _ => (rule_Keeps wkL [] wkR (by decide) (by decide) wkW.1 (by decide) wkW.2).args fun w ok => ⟨sameA, nilA, sameA, trivial⟩) rfl ?_
  conv => whnf
  rw [wk4]
  conv => whnf
  refine ⟨.inl (by kernel_rfl), after0 ?_⟩
  conv => whnf
  rfl
end Go.Proofs.Ytfpgjaallhpddaa
