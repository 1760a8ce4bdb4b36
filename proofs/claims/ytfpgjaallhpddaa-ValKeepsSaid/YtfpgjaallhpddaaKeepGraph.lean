/- The walks of hedgerowkeep: nodes, edges, graphs. Own work. -/
import Derived.Test.YtfpgjaallhpddaaKeepVal
set_option linter.unusedVariables false
set_option maxRecDepth 100000
namespace Go.Proofs.Ytfpgjaallhpddaa
open Go Go.RowKit OE

abbrev ND : D := .pair (.int .i64) (.pair .str (.list PD))
abbrev nc (n : ND.T) : List C := [.int .i64 n.1, .str n.2.1, .dat PD n.2.2]
abbrev ED : D := .pair (.int .i64) (.pair .str (.pair (.int .i64) (.pair (.int .i64) (.list PD))))
abbrev ec (e : ED.T) : List C := [.int .i64 e.1, .str e.2.1, .int .i64 e.2.2.1, .int .i64 e.2.2.2.1, .dat PD e.2.2.2.2]

theorem keep_Node (v w : ND.T) : FnD Try.prog 76 [.agg (nc v), .agg (nc w)] (· = .c (.bool (.sym (ND.eqb v w)))) := by
  refine fn0 Try.func76 rfl rfl rfl ?_
  conv => whnf
  refine callg0 (fun _ => keep_Props v.2.2 w.2.2) rfl ?_
  conv => whnf
  simp [D.eqb, Bool.and_assoc]
theorem keep_Edge (v w : ED.T) : FnD Try.prog 77 [.agg (ec v), .agg (ec w)] (· = .c (.bool (.sym (ED.eqb v w)))) := by
  refine fn0 Try.func77 rfl rfl rfl ?_
  conv => whnf
  refine callg0 (fun _ => keep_Props v.2.2.2.2 w.2.2.2.2) rfl ?_
  conv => whnf
  simp [D.eqb, Bool.and_assoc]

theorem keep_Nodes (a b : List ND.T) : FnD Try.prog 24 [.c (.dat ND a), .c (.dat ND b)] (· = .c (.bool (.sym (eqL ND.eqb a b)))) := by
  refine fn0 Try.func24 rfl rfl rfl ?_
  conv => whnf
  intro ha
  conv => whnf
  intro hb
  refine ⟨fun h1 => ?_, fun h1 => ?_⟩
  · conv => whnf
    rw [eqL_len (by simp at h1; omega)]
  have h1 : a.length = b.length := by simp at h1; omega
  conv => whnf
  refine loop0 (α := Nat) (fun i => i ≤ a.length ∧ eqL ND.eqb (a.drop i) (b.drop i) = eqL ND.eqb a b)
    (fun i => ⟨[(0, .c (.dat ND a)), (1, .c (.dat ND b)), (5, .c (.int .i64 i))], [], 0⟩) (fun i => a.length - i) ⟨0, ⟨by omega, rfl⟩, ?_⟩ ?_
  · (conv => whnf); refine ⟨rfl, ?_, ?_, ?_⟩ <;> (repeat' apply And.intro) <;> first | exact trivial | rfl | exact wr_succ _ (by omega) | assumption | exact decide_eq_false (by assumption) | exact decide_eq_true (by assumption)
  · rintro i ⟨hI1, hI2⟩
    conv => whnf
    intro _
    refine ⟨fun h2 => ?_, fun h2 => ?_⟩
    · have h2 : i < a.length := by simp at h2; omega
      conv => whnf
      have hb2 : i < b.length := by omega
      rw [eqL_step h2 hb2] at hI2
      refine any0 ?_
      conv => whnf
      try (intro _; conv => whnf)
      refine ⟨by omega, ?_⟩
      rw [gt_nat (d := ND) a i h2]
      conv => whnf
      try (intro _; conv => whnf)
      refine ⟨by omega, ?_⟩
      rw [gt_nat (d := ND) b i hb2]
      conv => whnf
      refine callr0 (keep_Node a[i] b[i]) rfl ?_
      conv => whnf
      refine ⟨.inl (by kernel_rfl), after0 ?_⟩
      conv => whnf
      refine ⟨fun h4 => ?_, fun h4 => ?_⟩
      · conv => whnf
        simp only [Bool.not_eq_true'] at h4
        simp only [← hI2, h4, Bool.false_and]
      · conv => whnf
        simp only [Bool.not_eq_false'] at h4
        refine ⟨i + 1, ⟨⟨by omega, ?_⟩, by omega⟩, ?_⟩
        · rw [← hI2, h4]; simp
        · (conv => whnf); refine ⟨rfl, ?_, ?_, ?_⟩ <;> (repeat' apply And.intro) <;> first | exact trivial | rfl | exact wr_succ _ (by omega) | assumption | exact decide_eq_false (by assumption) | exact decide_eq_true (by assumption)
    · conv => whnf
      rw [← hI2, eqL_end (by simp at h2; omega) (by simp at h2; omega)]

theorem keep_Edges (a b : List ED.T) : FnD Try.prog 25 [.c (.dat ED a), .c (.dat ED b)] (· = .c (.bool (.sym (eqL ED.eqb a b)))) := by
  refine fn0 Try.func25 rfl rfl rfl ?_
  conv => whnf
  intro ha
  conv => whnf
  intro hb
  refine ⟨fun h1 => ?_, fun h1 => ?_⟩
  · conv => whnf
    rw [eqL_len (by simp at h1; omega)]
  have h1 : a.length = b.length := by simp at h1; omega
  conv => whnf
  refine loop0 (α := Nat) (fun i => i ≤ a.length ∧ eqL ED.eqb (a.drop i) (b.drop i) = eqL ED.eqb a b)
    (fun i => ⟨[(0, .c (.dat ED a)), (1, .c (.dat ED b)), (5, .c (.int .i64 i))], [], 0⟩) (fun i => a.length - i) ⟨0, ⟨by omega, rfl⟩, ?_⟩ ?_
  · (conv => whnf); refine ⟨rfl, ?_, ?_, ?_⟩ <;> (repeat' apply And.intro) <;> first | exact trivial | rfl | exact wr_succ _ (by omega) | assumption | exact decide_eq_false (by assumption) | exact decide_eq_true (by assumption)
  · rintro i ⟨hI1, hI2⟩
    conv => whnf
    intro _
    refine ⟨fun h2 => ?_, fun h2 => ?_⟩
    · have h2 : i < a.length := by simp at h2; omega
      conv => whnf
      have hb2 : i < b.length := by omega
      rw [eqL_step h2 hb2] at hI2
      refine any0 ?_
      conv => whnf
      try (intro _; conv => whnf)
      refine ⟨by omega, ?_⟩
      rw [gt_nat (d := ED) a i h2]
      conv => whnf
      try (intro _; conv => whnf)
      refine ⟨by omega, ?_⟩
      rw [gt_nat (d := ED) b i hb2]
      conv => whnf
      refine callr0 (keep_Edge a[i] b[i]) rfl ?_
      conv => whnf
      refine ⟨.inl (by kernel_rfl), after0 ?_⟩
      conv => whnf
      refine ⟨fun h4 => ?_, fun h4 => ?_⟩
      · conv => whnf
        simp only [Bool.not_eq_true'] at h4
        simp only [← hI2, h4, Bool.false_and]
      · conv => whnf
        simp only [Bool.not_eq_false'] at h4
        refine ⟨i + 1, ⟨⟨by omega, ?_⟩, by omega⟩, ?_⟩
        · rw [← hI2, h4]; simp
        · (conv => whnf); refine ⟨rfl, ?_, ?_, ?_⟩ <;> (repeat' apply And.intro) <;> first | exact trivial | rfl | exact wr_succ _ (by omega) | assumption | exact decide_eq_false (by assumption) | exact decide_eq_true (by assumption)
    · conv => whnf
      rw [← hI2, eqL_end (by simp at h2; omega) (by simp at h2; omega)]

def largeRule (r : RD.T) : Bool := decide ((1000 : Int) < r.2.2.1.length) || decide ((1000 : Int) < r.2.2.2.1.length) || decide ((1000 : Int) < r.2.2.2.2.1.length) || decide ((1000 : Int) < r.2.2.2.2.2.1.length)
theorem keep_LargeRule (r : RD.T) : FnD Try.prog 19 [.agg (rc r)] (· = .c (.bool (.sym (largeRule r)))) := by
  refine fn0 Try.func19 rfl rfl rfl ?_
  conv => whnf
  rfl

def largeN (n : ND.T) : Bool := decide ((1000 : Int) < n.2.1.length) || largeProps n.2.2
def largeE (e : ED.T) : Bool := decide ((1000 : Int) < e.2.1.length) || largeProps e.2.2.2.2
def largeGraph (n : List ND.T) (e : List ED.T) : Bool := decide ((300 : Int) < n.length) || decide ((300 : Int) < e.length) || (n.any largeN || e.any largeE)
theorem keep_LargeGraph (n : List ND.T) (e : List ED.T) : FnD Try.prog 15 [.c (.dat ND n), .c (.dat ED e)] (· = .c (.bool (.sym (largeGraph n e)))) := by
  refine fn0 Try.func15 rfl rfl rfl ?_
  conv => whnf
  intro hn
  conv => whnf
  intro he
  refine ⟨fun h1 => ?_, fun h1 => ?_⟩
  · conv => whnf
    simp only [largeGraph, h1, Bool.true_or]
  have hm : largeGraph n e = (n.any largeN || e.any largeE) := by simp only [largeGraph, h1, Bool.false_or]
  have hn3 : n.length ≤ 300 ∧ e.length ≤ 300 := by simp at h1; omega
  rw [hm]
  conv => whnf
  refine loop0 (α := Nat) (fun i => i ≤ n.length ∧ (n.drop i).any largeN = n.any largeN)
    (fun i => ⟨[(0, .c (.dat ND n)), (1, .c (.dat ED e)), (5, .c (.int .i64 i))], [], 0⟩) (fun i => n.length - i) ⟨0, ⟨by omega, rfl⟩, ?_⟩ ?_
  · (conv => whnf); refine ⟨rfl, ?_, ?_, ?_⟩ <;> (repeat' apply And.intro) <;> first | exact trivial | rfl | exact wr_succ _ (by omega) | assumption | exact decide_eq_false (by assumption) | exact decide_eq_true (by assumption)
  · rintro i ⟨hI1, hI2⟩
    conv => whnf
    intro _
    refine ⟨fun h2 => ?_, fun h2 => ?_⟩
    · have h2 : i < n.length := by simp at h2; omega
      rw [any_step h2] at hI2
      conv => whnf
      try (intro _; conv => whnf)
      refine ⟨by omega, ?_⟩
      rw [gt_nat (d := ND) n i h2]
      conv => whnf
      try (intro _; conv => whnf)
      refine ⟨fun _ => by omega, ?_⟩
      rw [gt_nat (d := ND) n i h2]
      conv => whnf
      refine callg0 (fun _ => keep_LargeProps n[i].2.2) rfl ?_
      conv => whnf
      refine ⟨fun h3 => ?_, fun h3 => ?_⟩
      · conv => whnf
        have : largeN n[i] = true := h3
        simp only [← hI2, this, Bool.true_or]
      · conv => whnf
        refine ⟨i + 1, ⟨⟨by omega, ?_⟩, by omega⟩, ?_⟩
        · have : largeN n[i] = false := h3
          rw [← hI2]; simp only [this, Bool.false_or]
        · (conv => whnf); refine ⟨rfl, ?_, ?_, ?_⟩ <;> (repeat' apply And.intro) <;> first | exact trivial | rfl | exact wr_succ _ (by omega) | assumption | exact decide_eq_false (by assumption) | exact decide_eq_true (by assumption)
    · conv => whnf
      rw [← hI2, any_end (by simp at h2; omega), Bool.false_or]
      refine loop0 (α := Nat) (fun i => i ≤ e.length ∧ (e.drop i).any largeE = e.any largeE)
        (fun i => ⟨[(0, .c (.dat ND n)), (1, .c (.dat ED e)), (6, .c (.int .i64 i))], [], 0⟩) (fun i => e.length - i) ⟨0, ⟨by omega, rfl⟩, ?_⟩ ?_
      · (conv => whnf); refine ⟨rfl, ?_, ?_, ?_⟩ <;> (repeat' apply And.intro) <;> first | exact trivial | rfl | exact wr_succ _ (by omega) | assumption | exact decide_eq_false (by assumption) | exact decide_eq_true (by assumption)
      · rintro i ⟨hI1, hI2⟩
        conv => whnf
        intro _
        refine ⟨fun h2 => ?_, fun h2 => ?_⟩
        · have h2 : i < e.length := by simp at h2; omega
          rw [any_step h2] at hI2
          conv => whnf
          try (intro _; conv => whnf)
          refine ⟨by omega, ?_⟩
          rw [gt_nat (d := ED) e i h2]
          conv => whnf
          try (intro _; conv => whnf)
          refine ⟨fun _ => by omega, ?_⟩
          rw [gt_nat (d := ED) e i h2]
          conv => whnf
          refine callg0 (fun _ => keep_LargeProps e[i].2.2.2.2) rfl ?_
          conv => whnf
          refine ⟨fun h3 => ?_, fun h3 => ?_⟩
          · conv => whnf
            have : largeE e[i] = true := h3
            simp only [← hI2, this, Bool.true_or]
          · conv => whnf
            refine ⟨i + 1, ⟨⟨by omega, ?_⟩, by omega⟩, ?_⟩
            · have : largeE e[i] = false := h3
              rw [← hI2]; simp only [this, Bool.false_or]
            · (conv => whnf); refine ⟨rfl, ?_, ?_, ?_⟩ <;> (repeat' apply And.intro) <;> first | exact trivial | rfl | exact wr_succ _ (by omega) | assumption | exact decide_eq_false (by assumption) | exact decide_eq_true (by assumption)
        · conv => whnf
          rw [← hI2, any_end (by simp at h2; omega)]

theorem keep_CopyNodes (l : List ND.T) (hl : l.length ≤ 1000) (hp : ∀ n ∈ l, n.2.2.length ≤ 1000) : FnD Try.prog 17 [.c (.dat ND l)] (· = .c (.dat ND l)) := by
  refine fn0 Try.func17 rfl rfl rfl ?_
  conv => whnf
  refine loop0 (α := Nat) (fun i => i ≤ l.length)
    (fun i => ⟨[(0, .c (.dat ND l)), (3, .c (.row 0)), (4, .c (.int .i64 i))], [(0, .row 40 ND (l.take i))], 1⟩) (fun i => l.length - i) ⟨0, by omega, ?_⟩ ?_
  · (conv => whnf); refine ⟨rfl, ?_, ?_, ?_⟩ <;> (repeat' apply And.intro) <;> first | exact trivial | rfl | exact wr_succ _ (by omega) | assumption | exact decide_eq_false (by assumption) | exact decide_eq_true (by assumption)
  · rintro i hI1
    conv => whnf
    intro _
    refine ⟨fun h2 => ?_, fun h2 => ?_⟩
    · have h2 : i < l.length := by simp at h2; omega
      conv => whnf
      try (intro _; conv => whnf)
      refine ⟨by omega, ?_⟩
      rw [gt_nat (d := ND) l i h2]
      conv => whnf
      have hq := hp l[i] (List.getElem_mem h2)
      have ht : (l.take i).length = i := by simp; omega
      refine ⟨by show (0 + l[i].2.2.length) * 48 ≤ 140737488355328; omega, ?_⟩
      conv => whnf
      refine fzs 3 rfl ?_
      conv => whnf
      refine ⟨by show ((l.take i).length + 1) * _ ≤ 140737488355328; rw [ht]; show _ * 48 ≤ _; omega, ?_⟩
      conv => whnf
      refine ⟨i + 1, ⟨by omega, by omega⟩, ?_⟩
      have hs : l.take (i + 1) = l.take i ++ [l[i]] := take_step h2
      (conv => whnf); refine ⟨rfl, ?_, ?_, ?_⟩ <;> (repeat' apply And.intro) <;> first | exact trivial | rfl | exact wr_succ _ (by omega) | assumption | exact decide_eq_false (by assumption) | exact decide_eq_true (by assumption)
    · conv => whnf
      rw [List.take_of_length_le (by simp at h2; omega)]
theorem keep_CopyEdges (l : List ED.T) (hl : l.length ≤ 1000) (hp : ∀ n ∈ l, n.2.2.2.2.length ≤ 1000) : FnD Try.prog 18 [.c (.dat ED l)] (· = .c (.dat ED l)) := by
  refine fn0 Try.func18 rfl rfl rfl ?_
  conv => whnf
  refine loop0 (α := Nat) (fun i => i ≤ l.length)
    (fun i => ⟨[(0, .c (.dat ED l)), (3, .c (.row 0)), (4, .c (.int .i64 i))], [(0, .row 42 ED (l.take i))], 1⟩) (fun i => l.length - i) ⟨0, by omega, ?_⟩ ?_
  · (conv => whnf); refine ⟨rfl, ?_, ?_, ?_⟩ <;> (repeat' apply And.intro) <;> first | exact trivial | rfl | exact wr_succ _ (by omega) | assumption | exact decide_eq_false (by assumption) | exact decide_eq_true (by assumption)
  · rintro i hI1
    conv => whnf
    intro _
    refine ⟨fun h2 => ?_, fun h2 => ?_⟩
    · have h2 : i < l.length := by simp at h2; omega
      conv => whnf
      try (intro _; conv => whnf)
      refine ⟨by omega, ?_⟩
      rw [gt_nat (d := ED) l i h2]
      conv => whnf
      have hq := hp l[i] (List.getElem_mem h2)
      have ht : (l.take i).length = i := by simp; omega
      refine ⟨by show (0 + l[i].2.2.2.2.length) * 48 ≤ 140737488355328; omega, ?_⟩
      conv => whnf
      refine fzs 3 rfl ?_
      conv => whnf
      refine ⟨by show ((l.take i).length + 1) * _ ≤ 140737488355328; rw [ht]; show _ * 64 ≤ _; omega, ?_⟩
      conv => whnf
      refine ⟨i + 1, ⟨by omega, by omega⟩, ?_⟩
      have hs : l.take (i + 1) = l.take i ++ [l[i]] := take_step h2
      (conv => whnf); refine ⟨rfl, ?_, ?_, ?_⟩ <;> (repeat' apply And.intro) <;> first | exact trivial | rfl | exact wr_succ _ (by omega) | assumption | exact decide_eq_false (by assumption) | exact decide_eq_true (by assumption)
    · conv => whnf
      rw [List.take_of_length_le (by simp at h2; omega)]
end Go.Proofs.Ytfpgjaallhpddaa
