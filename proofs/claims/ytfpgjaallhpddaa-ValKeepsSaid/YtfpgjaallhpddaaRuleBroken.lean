/- The walk of the reference's Broken and Keeps. Own work. -/
import Derived.Test.YtfpgjaallhpddaaRuleKeeps
set_option linter.unusedVariables false
set_option maxRecDepth 100000
namespace Go.Proofs.Ytfpgjaallhpddaa
open Go Go.RowKit OE

theorem bytesLess_irr : ∀ x : List UInt8, Op.bytesLess x x = false
  | [] => rfl
  | a :: l => by simp [Op.bytesLess, bytesLess_irr l]
theorem cmpV_zero (a b : VD.T) : decide (cmpV a b = 0) = VD.eqb a b := by
  have hir : ltV a a = false := by simp [ltV, bytesLess_irr]
  unfold cmpV
  by_cases h : VD.eqb a b = true
  · have e := (D.eqb_iff VD a b).1 h
    subst e
    rw [hir, h]
    simp
  · rw [if_neg h]
    have : VD.eqb a b = false := by simpa using h
    rw [this]
    split <;> simp

/-- the i-th node has what another one has -/
def brkU (ty nm : List UInt8) (nodes : List ND.T) (i : Nat) : Prop := ∃ hi : i < nodes.length, nodes[i].2.1 = ty ∧ (getS nodes[i].2.2 nm).2 = true ∧
  ∃ k, ∃ hk : k < nodes.length, k ≠ i ∧ nodes[k].2.1 = ty ∧ (getS nodes[k].2.2 nm).2 = true ∧ (getS nodes[i].2.2 nm).1 = (getS nodes[k].2.2 nm).1
theorem vals_nodup (ty nm : List UInt8) (nodes : List ND.T) : (valsS ty nm nodes).Nodup ↔ ∀ i, ¬ brkU ty nm nodes i := by
  unfold valsS List.Nodup
  rw [List.pairwise_filterMap, List.pairwise_iff_getElem]
  constructor
  · rintro h i ⟨hi, h1, h2, k, hk, hki, h3, h4, h5⟩
    rcases Nat.lt_or_ge i k with hlt | hge
    · exact h i k hi hk hlt _ (by simp [h1, h2]) _ (by simp [h3, h4]) h5
    · exact h k i hk hi (by omega) _ (by simp [h3, h4]) _ (by simp [h1, h2]) h5.symm
  · intro h i j hi hj hij x hx y hy e
    simp only [Bool.and_eq_true, decide_eq_true_eq, Option.ite_none_right_eq_some, Option.some.injEq] at hx hy
    exact h i ⟨hi, hx.1.2, hx.1.1, j, hj, by omega, hy.1.2, hy.1.1, by rw [hx.2, hy.2, e]⟩

/-- the i-th edge is the first one of too many that go out of its node -/
def brkM (ty : List UInt8) (N : Int) (edges : List ED.T) (i : Nat) : Prop := ∃ hi : i < edges.length, edges[i].2.1 = ty ∧ N < (outS ty edges edges[i].2.2.1 : Int) ∧
  ∀ k (hk : k < edges.length), edges[k].2.1 = ty → edges[k].2.2.1 = edges[i].2.2.1 → i ≤ k
theorem most_first (ty : List UInt8) (N : Int) (edges : List ED.T) : (!edges.any fun e => decide (e.2.1 = ty) && decide (N < (outS ty edges e.2.2.1 : Int))) = true ↔ ∀ i, ¬ brkM ty N edges i := by
  simp only [Bool.not_eq_true', List.any_eq_false, Bool.and_eq_true, decide_eq_true_eq, not_and]
  constructor
  · rintro h i ⟨hi, h1, h2, _⟩
    exact h _ (List.getElem_mem hi) h1 h2
  · intro h e he h1 h2
    obtain ⟨i, hi, rfl⟩ := List.getElem_of_mem he
    have least : ∀ i, ∀ hi : i < edges.length, edges[i].2.1 = ty → N < (outS ty edges edges[i].2.2.1 : Int) → False := by
      intro i
      induction i using Nat.strongRecOn with
      | _ i ih =>
        intro hi g1 g2
        refine h i ⟨hi, g1, g2, fun k hk k1 k2 => ?_⟩
        rcases Nat.lt_or_ge k i with hlt | hge
        · exact (ih k hlt hk k1 (by rw [k2]; exact g2)).elim
        · exact hge
    exact least i hi h1 h2

/-- what is returned: nothing, or Ids -/
def brokP (ok : Prop) (s : SV) : Prop := ∃ xs : List Int, (s = .c (.dat (.int .i64) xs)) ∧ (xs = [] ↔ ok)

theorem ref_Broken (nodes : List ND.T) (edges : List ED.T) (r : RD.T) (hn : nodes.length ≤ 1000) (he : edges.length ≤ 1000) (hf : formS r = true) :
    FnD Try.prog 75 [.c (.dat ND nodes), .c (.dat ED edges), .agg (rc r)] (brokP (ruleS nodes edges r = true)) := by
  refine fn0 Try.func75 rfl rfl rfl ?_
  conv => whnf
  refine call1 (ref_Form r) rfl ?_
  conv => whnf
  refine fk (by rw [hf]; rfl) ?_
  conv => whnf
  refine ⟨fun h1 => ?_, fun h1 => ?_⟩
  · have hk : r.2.1 = 1 := by simpa using h1
    have hS : ruleS nodes edges r = true ↔ ∀ i, ¬ brkU r.2.2.1 r.2.2.2.1 nodes i := by
      rw [ruleS, if_pos hk, decide_eq_true_eq, vals_nodup]
    rw [hS]
    conv => whnf
    refine loop0 (α := Nat × List Int) (fun p => p.1 ≤ nodes.length ∧ p.2.length ≤ p.1 ∧ (p.2 = [] ↔ ∀ j < p.1, ¬ brkU r.2.2.1 r.2.2.2.1 nodes j))
      (fun p => ⟨[(0, .c (.dat ND nodes)), (5, .c (.ptr 0 0)), (7, .c (.row 1)), (8, .c (.int .i64 p.1))], [(0, .cells 31 (rc r)), (1, .row 2 (.int .i64) p.2)], 2⟩) (fun p => nodes.length - p.1)
      ⟨(0, []), ⟨by simp, by simp, by simp⟩, ?_⟩ ?_
    · (conv => whnf); refine ⟨rfl, ?_, ?_, ?_⟩ <;> (repeat' apply And.intro) <;> first | exact trivial | rfl | exact wr_succ _ (by omega) | assumption | exact decide_eq_false (by assumption) | exact decide_eq_true (by assumption)
    · rintro ⟨i, xs⟩ ⟨hI1, hI2, hI3⟩
      dsimp only at hI1 hI2 hI3 ⊢
      conv => whnf
      intro _
      refine ⟨fun h2 => ?_, fun h2 => ?_⟩
      · have h2 : i < nodes.length := by simp at h2; omega
        have hstep : ∀ ys : List Int, (ys = [] ↔ (xs = [] ∧ ¬ brkU r.2.2.1 r.2.2.2.1 nodes i)) → (ys = [] ↔ ∀ j < i + 1, ¬ brkU r.2.2.1 r.2.2.2.1 nodes j) := by
          intro ys hy
          rw [hy, hI3]
          constructor
          · rintro ⟨g1, g2⟩ j hj
            rcases Nat.lt_or_ge j i with h | h
            · exact g1 j h
            · have : j = i := by omega
              subst this; exact g2
          · intro g; exact ⟨fun j hj => g j (by omega), g i (by omega)⟩
        conv => whnf
        refine any0 ?_
        conv => whnf
        try (intro _; conv => whnf)
        refine ⟨by omega, ?_⟩
        rw [gt_nat (d := ND) nodes i h2]
        conv => whnf
        refine ⟨.inl (by kernel_rfl), after0 ?_⟩
        conv => whnf
        refine ⟨fun h3 => ?_, fun h3 => ?_⟩
        · have h3 : nodes[i].2.1 ≠ r.2.2.1 := by simpa using h3
          conv => whnf
          refine ⟨(i + 1, xs), ⟨⟨by dsimp only; omega, by dsimp only; omega, ?_⟩, by dsimp only; omega⟩, ?_⟩
          · exact hstep xs ⟨fun h => ⟨h, fun ⟨_, h', _⟩ => h3 h'⟩, fun h => h.1⟩
          · (conv => whnf); refine ⟨rfl, ?_, ?_, ?_⟩ <;> (repeat' apply And.intro) <;> first | exact trivial | rfl | exact wr_succ _ (by omega) | assumption | exact decide_eq_false (by assumption) | exact decide_eq_true (by assumption)
        · have h3 : nodes[i].2.1 = r.2.2.1 := by simpa using h3
          conv => whnf
          refine any0 ?_
          conv => whnf
          try (intro _; conv => whnf)
          refine ⟨by omega, ?_⟩
          rw [gt_nat (d := ND) nodes i h2]
          conv => whnf
          refine callr0 (ref_Get nodes[i].2.2 r.2.2.2.1) rfl ?_
          conv => whnf
          refine ⟨.inl (by kernel_rfl), after0 ?_⟩
          conv => whnf
          generalize hgv : getS nodes[i].2.2 r.2.2.2.1 = gv
          refine tk h1 ?_
          conv => whnf
          refine loop0 (α := Nat × Bool) (fun p => p.1 ≤ nodes.length ∧ (p.2 = true ↔ gv.2 = true ∧ ∃ k, ∃ hk : k < nodes.length, k < p.1 ∧ k ≠ i ∧ nodes[k].2.1 = r.2.2.1 ∧ (getS nodes[k].2.2 r.2.2.2.1).2 = true ∧ gv.1 = (getS nodes[k].2.2 r.2.2.2.1).1))
            (fun p => ⟨[(0, .c (.dat ND nodes)), (5, .c (.ptr 0 0)), (7, .c (.row 1)), (8, .c (.int .i64 i)), (9, .c (.ptr 2 0)), (10, .c (.bool (.sym p.2))), (11, .c (.int .i64 p.1))],
              [(0, .cells 31 (rc r)), (1, .row 2 (.int .i64) xs), (2, .cells 86 (vc gv.1 ++ [.bool (.sym gv.2)]))], 3⟩) (fun p => nodes.length - p.1)
            ⟨(0, false), ⟨by simp, by simp⟩, ?_⟩ ?_
          · (conv => whnf); refine ⟨rfl, ?_, ?_, ?_⟩ <;> (repeat' apply And.intro) <;> first | exact trivial | rfl | exact wr_succ _ (by omega) | assumption | exact decide_eq_false (by assumption) | exact decide_eq_true (by assumption)
          · rintro ⟨k, b⟩ ⟨hJ1, hJ2⟩
            dsimp only at hJ1 hJ2 ⊢
            conv => whnf
            intro _
            refine ⟨fun h5 => ?_, fun h5 => ?_⟩
            · have h5 : k < nodes.length ∧ gv.2 = true := by simp at h5; exact ⟨by omega, h5.2⟩
              conv => whnf
              refine any0 ?_
              conv => whnf
              try (intro _; conv => whnf)
              refine ⟨by omega, ?_⟩
              rw [gt_nat (d := ND) nodes k h5.1]
              conv => whnf
              refine callr0 (ref_Get nodes[k].2.2 r.2.2.2.1) rfl ?_
              conv => whnf
              refine ⟨.inl (by kernel_rfl), after0 ?_⟩
              conv => whnf
              generalize hgw : getS nodes[k].2.2 r.2.2.2.1 = gw
              refine any0 ?_
              conv => whnf
              try (intro _; conv => whnf)
              refine ⟨fun _ => by omega, ?_⟩
              rw [gt_nat (d := ND) nodes k h5.1]
              conv => whnf
              refine callrg0 (fun _ => ref_Compare gv.1 gw.1) rfl ?_
              conv => whnf
              refine ⟨.inl (by kernel_rfl), after0 ?_⟩
              conv => whnf
              rw [cmpV_zero]
              refine ⟨(k + 1, (b || !decide ((k : Int) = i) && decide (nodes[k].2.1 = r.2.2.1) && gw.2 && VD.eqb gv.1 gw.1)), ⟨⟨by dsimp only; omega, ?_⟩, by dsimp only; omega⟩, ?_⟩
              rotate_left
              · (conv => whnf); refine ⟨rfl, ?_, ?_, ?_⟩ <;> (repeat' apply And.intro) <;> first | exact trivial | rfl | exact wr_succ _ (by omega) | assumption | exact decide_eq_false (by assumption) | exact decide_eq_true (by assumption)
              · dsimp only
                have hb : (b || !decide ((k : Int) = i) && decide (nodes[k].2.1 = r.2.2.1) && gw.2 && VD.eqb gv.1 gw.1) = true ↔ (b = true ∨ (k ≠ i ∧ nodes[k].2.1 = r.2.2.1 ∧ gw.2 = true ∧ gv.1 = gw.1)) := by
                  rw [← D.eqb_iff VD gv.1 gw.1]
                  simp only [Bool.or_eq_true, Bool.and_eq_true, Bool.not_eq_true', decide_eq_false_iff_not, decide_eq_true_eq, ne_eq, and_assoc]
                  constructor
                  · rintro (h | ⟨h, h'⟩)
                    · exact .inl h
                    · exact .inr ⟨by omega, h'⟩
                  · rintro (h | ⟨h, h'⟩)
                    · exact .inl h
                    · exact .inr ⟨by omega, h'⟩
                rw [hb, hJ2]
                constructor
                · rintro (⟨g0, k', hk', g1, g2⟩ | ⟨g1, g2, g3, g4⟩)
                  · exact ⟨g0, k', hk', by omega, g2⟩
                  · exact ⟨h5.2, k, h5.1, by omega, g1, g2, by rw [hgw]; exact g3, by rw [hgw]; exact g4⟩
                · rintro ⟨g0, k', hk', g1, g2⟩
                  rcases Nat.lt_or_ge k' k with h | h
                  · exact .inl ⟨g0, k', hk', h, g2⟩
                  · have : k' = k := by omega
                    subst this
                    rw [hgw] at g2
                    exact .inr g2
            · conv => whnf
              have hbrk : b = true ↔ brkU r.2.2.1 r.2.2.2.1 nodes i := by
                rw [hJ2]
                constructor
                · rintro ⟨g0, k', hk', g1, g2⟩
                  exact ⟨h2, h3, by rw [hgv]; exact g0, k', hk', by rw [hgv]; exact g2⟩
                · rintro ⟨_, _, g0, k', hk', g2⟩
                  rw [hgv] at g0 g2
                  refine ⟨g0, k', hk', ?_, g2⟩
                  simp only [Bool.and_eq_false_iff, decide_eq_false_iff_not, g0, Bool.true_eq_false, or_false] at h5
                  omega
              refine ⟨fun h6 => ?_, fun h6 => ?_⟩
              · conv => whnf
                try (intro _; conv => whnf)
                refine ⟨by omega, ?_⟩
                rw [gt_nat (d := ND) nodes i h2]
                conv => whnf
                refine ⟨by show (xs.length + 1) * 8 ≤ 140737488355328; omega, ?_⟩
                conv => whnf
                refine ⟨(i + 1, xs ++ [nodes[i].1]), ⟨⟨by dsimp only; omega, by simp; omega, ?_⟩, by dsimp only; omega⟩, ?_⟩
                · exact hstep _ ⟨fun h => by simp at h, fun h => (h.2 (hbrk.1 h6)).elim⟩
                · (conv => whnf); refine ⟨rfl, ?_, ?_, ?_⟩ <;> (repeat' apply And.intro) <;> first | exact trivial | rfl | exact wr_succ _ (by omega) | assumption | exact decide_eq_false (by assumption) | exact decide_eq_true (by assumption)
              · conv => whnf
                refine ⟨(i + 1, xs), ⟨⟨by dsimp only; omega, by dsimp only; omega, ?_⟩, by dsimp only; omega⟩, ?_⟩
                · exact hstep xs ⟨fun h => ⟨h, fun hb => by rw [← hbrk] at hb; rw [hb] at h6; cases h6⟩, fun h => h.1⟩
                · (conv => whnf); refine ⟨rfl, ?_, ?_, ?_⟩ <;> (repeat' apply And.intro) <;> first | exact trivial | rfl | exact wr_succ _ (by omega) | assumption | exact decide_eq_false (by assumption) | exact decide_eq_true (by assumption)
      · have h2 : nodes.length ≤ i := by simp at h2; omega
        conv => whnf
        refine ⟨xs, rfl, ?_⟩
        rw [hI3]
        exact ⟨fun h j hb => h j (by obtain ⟨hj, _⟩ := hb; omega) hb, fun h j _ => h j⟩
  have hk1 : r.2.1 ≠ 1 := by simpa using h1
  conv => whnf
  refine ⟨fun h2 => ?_, fun h2 => ?_⟩
  · have hk : r.2.1 = 2 := by simpa using h2
    have hS : ruleS nodes edges r = true ↔ ∀ i (h : i < nodes.length), ¬ (nodes[i].2.1 = r.2.2.1 ∧ (getS nodes[i].2.2 r.2.2.2.1).2 = false) := by
      rw [ruleS, if_neg hk1, if_pos hk]
      simp only [Bool.not_eq_true', List.any_eq_false, Bool.and_eq_true, decide_eq_true_eq, not_and]
      constructor
      · intro h i hi; exact h _ (List.getElem_mem hi)
      · intro h n hm; obtain ⟨i, hi, rfl⟩ := List.getElem_of_mem hm; exact h i hi
    rw [hS]
    conv => whnf
    refine loop0 (α := Nat × List Int) (fun p => p.1 ≤ nodes.length ∧ p.2.length ≤ p.1 ∧ (p.2 = [] ↔ ∀ j < p.1, ∀ h : j < nodes.length, ¬ (nodes[j].2.1 = r.2.2.1 ∧ (getS nodes[j].2.2 r.2.2.2.1).2 = false)))
      (fun p => ⟨[(0, .c (.dat ND nodes)), (5, .c (.ptr 0 0)), (7, .c (.row 1)), (8, .c (.int .i64 p.1))], [(0, .cells 31 (rc r)), (1, .row 2 (.int .i64) p.2)], 2⟩) (fun p => nodes.length - p.1)
      ⟨(0, []), ⟨by simp, by simp, by simp⟩, ?_⟩ ?_
    · (conv => whnf); refine ⟨rfl, ?_, ?_, ?_⟩ <;> (repeat' apply And.intro) <;> first | exact trivial | rfl | exact wr_succ _ (by omega) | assumption | exact decide_eq_false (by assumption) | exact decide_eq_true (by assumption)
    · rintro ⟨i, xs⟩ ⟨hI1, hI2, hI3⟩
      dsimp only at hI1 hI2 hI3 ⊢
      conv => whnf
      intro _
      refine ⟨fun h2 => ?_, fun h2 => ?_⟩
      · have h2 : i < nodes.length := by simp at h2; omega
        have hstep : ∀ ys : List Int, (ys = [] ↔ (xs = [] ∧ ¬ (nodes[i].2.1 = r.2.2.1 ∧ (getS nodes[i].2.2 r.2.2.2.1).2 = false))) → (ys = [] ↔ ∀ j < i + 1, ∀ h : j < nodes.length, ¬ (nodes[j].2.1 = r.2.2.1 ∧ (getS nodes[j].2.2 r.2.2.2.1).2 = false)) := by
          intro ys hy
          rw [hy, hI3]
          constructor
          · rintro ⟨g1, g2⟩ j hj
            rcases Nat.lt_or_ge j i with h | h
            · exact g1 j h
            · have : j = i := by omega
              subst this; exact fun _ => g2
          · intro g; exact ⟨fun j hj => g j (by omega), g i (by omega) h2⟩
        conv => whnf
        refine any0 ?_
        conv => whnf
        try (intro _; conv => whnf)
        refine ⟨by omega, ?_⟩
        rw [gt_nat (d := ND) nodes i h2]
        conv => whnf
        refine ⟨.inl (by kernel_rfl), after0 ?_⟩
        conv => whnf
        refine ⟨fun h3 => ?_, fun h3 => ?_⟩
        · have h3 : nodes[i].2.1 ≠ r.2.2.1 := by simpa using h3
          conv => whnf
          refine ⟨(i + 1, xs), ⟨⟨by dsimp only; omega, by dsimp only; omega, ?_⟩, by dsimp only; omega⟩, ?_⟩
          · exact hstep xs ⟨fun h => ⟨h, fun ⟨h', _⟩ => h3 h'⟩, fun h => h.1⟩
          · (conv => whnf); refine ⟨rfl, ?_, ?_, ?_⟩ <;> (repeat' apply And.intro) <;> first | exact trivial | rfl | exact wr_succ _ (by omega) | assumption | exact decide_eq_false (by assumption) | exact decide_eq_true (by assumption)
        · have h3 : nodes[i].2.1 = r.2.2.1 := by simpa using h3
          conv => whnf
          refine any0 ?_
          conv => whnf
          try (intro _; conv => whnf)
          refine ⟨by omega, ?_⟩
          rw [gt_nat (d := ND) nodes i h2]
          conv => whnf
          refine callr0 (ref_Get nodes[i].2.2 r.2.2.2.1) rfl ?_
          conv => whnf
          refine ⟨.inl (by kernel_rfl), after0 ?_⟩
          conv => whnf
          refine fk h1 ?_
          conv => whnf
          refine ⟨fun h6 => ?_, fun h6 => ?_⟩
          · conv => whnf
            try (intro _; conv => whnf)
            refine ⟨by omega, ?_⟩
            rw [gt_nat (d := ND) nodes i h2]
            conv => whnf
            refine ⟨by show (xs.length + 1) * 8 ≤ 140737488355328; omega, ?_⟩
            conv => whnf
            refine ⟨(i + 1, xs ++ [nodes[i].1]), ⟨⟨by dsimp only; omega, by simp; omega, ?_⟩, by dsimp only; omega⟩, ?_⟩
            · exact hstep _ ⟨fun h => by simp at h, fun h => (h.2 ⟨h3, by simpa using h6⟩).elim⟩
            · (conv => whnf); refine ⟨rfl, ?_, ?_, ?_⟩ <;> (repeat' apply And.intro) <;> first | exact trivial | rfl | exact wr_succ _ (by omega) | assumption | exact decide_eq_false (by assumption) | exact decide_eq_true (by assumption)
          · conv => whnf
            refine ⟨(i + 1, xs), ⟨⟨by dsimp only; omega, by dsimp only; omega, ?_⟩, by dsimp only; omega⟩, ?_⟩
            · exact hstep xs ⟨fun h => ⟨h, fun hb => by rw [hb.2] at h6; cases h6⟩, fun h => h.1⟩
            · (conv => whnf); refine ⟨rfl, ?_, ?_, ?_⟩ <;> (repeat' apply And.intro) <;> first | exact trivial | rfl | exact wr_succ _ (by omega) | assumption | exact decide_eq_false (by assumption) | exact decide_eq_true (by assumption)
      · have h2 : nodes.length ≤ i := by simp at h2; omega
        conv => whnf
        refine ⟨xs, rfl, ?_⟩
        rw [hI3]
        exact ⟨fun h j hj => h j (by omega) hj, fun h j _ hj => h j hj⟩
  have hk2 : r.2.1 ≠ 2 := by simpa using h2
  conv => whnf
  refine ⟨fun h3 => ?_, fun h3 => ?_⟩
  · have hk : r.2.1 = 3 := by simpa using h3
    have hS : ruleS nodes edges r = true ↔ ∀ i (h : i < edges.length), ¬ (edges[i].2.1 = r.2.2.1 ∧ (isTS nodes edges[i].2.2.1 r.2.2.2.2.1 && isTS nodes edges[i].2.2.2.1 r.2.2.2.2.2.1) = false) := by
      rw [ruleS, if_neg hk1, if_neg hk2, if_pos hk]
      simp only [Bool.not_eq_true', List.any_eq_false, Bool.and_eq_true, decide_eq_true_eq, not_and]
      constructor
      · intro h i hi; exact h _ (List.getElem_mem hi)
      · intro h n hm; obtain ⟨i, hi, rfl⟩ := List.getElem_of_mem hm; exact h i hi
    rw [hS]
    conv => whnf
    refine loop0 (α := Nat × List Int) (fun p => p.1 ≤ edges.length ∧ p.2.length ≤ p.1 ∧ (p.2 = [] ↔ ∀ j < p.1, ∀ h : j < edges.length, ¬ (edges[j].2.1 = r.2.2.1 ∧ (isTS nodes edges[j].2.2.1 r.2.2.2.2.1 && isTS nodes edges[j].2.2.2.1 r.2.2.2.2.2.1) = false)))
      (fun p => ⟨[(0, .c (.dat ND nodes)), (1, .c (.dat ED edges)), (5, .c (.ptr 0 0)), (7, .c (.row 1)), (13, .c (.int .i64 p.1))], [(0, .cells 31 (rc r)), (1, .row 2 (.int .i64) p.2)], 2⟩) (fun p => edges.length - p.1)
      ⟨(0, []), ⟨by simp, by simp, by simp⟩, ?_⟩ ?_
    · (conv => whnf); refine ⟨rfl, ?_, ?_, ?_⟩ <;> (repeat' apply And.intro) <;> first | exact trivial | rfl | exact wr_succ _ (by omega) | assumption | exact decide_eq_false (by assumption) | exact decide_eq_true (by assumption)
    · rintro ⟨i, xs⟩ ⟨hI1, hI2, hI3⟩
      dsimp only at hI1 hI2 hI3 ⊢
      conv => whnf
      intro _
      refine ⟨fun h4 => ?_, fun h4 => ?_⟩
      · have h4 : i < edges.length := by simp at h4; omega
        have hstep : ∀ ys : List Int, (ys = [] ↔ (xs = [] ∧ ¬ (edges[i].2.1 = r.2.2.1 ∧ (isTS nodes edges[i].2.2.1 r.2.2.2.2.1 && isTS nodes edges[i].2.2.2.1 r.2.2.2.2.2.1) = false))) → (ys = [] ↔ ∀ j < i + 1, ∀ h : j < edges.length, ¬ (edges[j].2.1 = r.2.2.1 ∧ (isTS nodes edges[j].2.2.1 r.2.2.2.2.1 && isTS nodes edges[j].2.2.2.1 r.2.2.2.2.2.1) = false)) := by
          intro ys hy
          rw [hy, hI3]
          constructor
          · rintro ⟨g1, g2⟩ j hj
            rcases Nat.lt_or_ge j i with h | h
            · exact g1 j h
            · have : j = i := by omega
              subst this; exact fun _ => g2
          · intro g; exact ⟨fun j hj => g j (by omega), g i (by omega) h4⟩
        conv => whnf
        refine any0 ?_
        conv => whnf
        try (intro _; conv => whnf)
        refine ⟨by omega, ?_⟩
        rw [gt_nat (d := ED) edges i h4]
        conv => whnf
        try (intro _; conv => whnf)
        refine ⟨fun _ => by omega, ?_⟩
        rw [gt_nat (d := ED) edges i h4]
        conv => whnf
        refine callrg0 (fun _ => ref_is nodes edges[i].2.2.1 r.2.2.2.2.1) rfl ?_
        conv => whnf
        try (intro _; conv => whnf)
        refine ⟨fun _ => by omega, ?_⟩
        rw [gt_nat (d := ED) edges i h4]
        conv => whnf
        refine callrg0 (fun _ => ref_is nodes edges[i].2.2.2.1 r.2.2.2.2.2.1) rfl ?_
        conv => whnf
        refine ⟨.inl (by kernel_rfl), after0 ?_⟩
        conv => whnf
        have hkey : (decide (edges[i].2.1 = r.2.2.1) && (!isTS nodes edges[i].2.2.1 r.2.2.2.2.1 || !isTS nodes edges[i].2.2.2.1 r.2.2.2.2.2.1)) = true ↔ (edges[i].2.1 = r.2.2.1 ∧ (isTS nodes edges[i].2.2.1 r.2.2.2.2.1 && isTS nodes edges[i].2.2.2.1 r.2.2.2.2.2.1) = false) := by
          simp
          intro _
          cases isTS nodes edges[i].2.2.1 r.2.2.2.2.1 <;> simp
        refine ⟨fun h6 => ?_, fun h6 => ?_⟩
        · conv => whnf
          try (intro _; conv => whnf)
          refine ⟨by omega, ?_⟩
          rw [gt_nat (d := ED) edges i h4]
          conv => whnf
          refine ⟨by show (xs.length + 1) * 8 ≤ 140737488355328; omega, ?_⟩
          conv => whnf
          refine ⟨(i + 1, xs ++ [edges[i].1]), ⟨⟨by dsimp only; omega, by simp; omega, ?_⟩, by dsimp only; omega⟩, ?_⟩
          · exact hstep _ ⟨fun h => by simp at h, fun h => (h.2 (hkey.1 h6)).elim⟩
          · (conv => whnf); refine ⟨rfl, ?_, ?_, ?_⟩ <;> (repeat' apply And.intro) <;> first | exact trivial | rfl | exact wr_succ _ (by omega) | assumption | exact decide_eq_false (by assumption) | exact decide_eq_true (by assumption)
        · conv => whnf
          refine ⟨(i + 1, xs), ⟨⟨by dsimp only; omega, by dsimp only; omega, ?_⟩, by dsimp only; omega⟩, ?_⟩
          · exact hstep xs ⟨fun h => ⟨h, fun hb => by rw [← hkey] at hb; rw [hb] at h6; cases h6⟩, fun h => h.1⟩
          · (conv => whnf); refine ⟨rfl, ?_, ?_, ?_⟩ <;> (repeat' apply And.intro) <;> first | exact trivial | rfl | exact wr_succ _ (by omega) | assumption | exact decide_eq_false (by assumption) | exact decide_eq_true (by assumption)
      · have h4 : edges.length ≤ i := by simp at h4; omega
        conv => whnf
        refine ⟨xs, rfl, ?_⟩
        rw [hI3]
        exact ⟨fun h j hj => h j (by omega) hj, fun h j _ hj => h j hj⟩
  have hk3 : r.2.1 ≠ 3 := by simpa using h3
  conv => whnf
  refine ⟨fun h4 => ?_, fun h4 => ?_⟩
  · have hS : ruleS nodes edges r = true ↔ ∀ i, ¬ brkM r.2.2.1 r.2.2.2.2.2.2.1 edges i := by
      rw [ruleS, if_neg hk1, if_neg hk2, if_neg hk3, most_first]
    rw [hS]
    conv => whnf
    refine loop0 (α := Nat × List Int) (fun p => p.1 ≤ edges.length ∧ p.2.length ≤ p.1 ∧ (p.2 = [] ↔ ∀ j < p.1, ¬ brkM r.2.2.1 r.2.2.2.2.2.2.1 edges j))
      (fun p => ⟨[(1, .c (.dat ED edges)), (5, .c (.ptr 0 0)), (7, .c (.row 1)), (14, .c (.int .i64 p.1))], [(0, .cells 31 (rc r)), (1, .row 2 (.int .i64) p.2)], 2⟩) (fun p => edges.length - p.1)
      ⟨(0, []), ⟨by simp, by simp, by simp⟩, ?_⟩ ?_
    · (conv => whnf); refine ⟨rfl, ?_, ?_, ?_⟩ <;> (repeat' apply And.intro) <;> first | exact trivial | rfl | exact wr_succ _ (by omega) | assumption | exact decide_eq_false (by assumption) | exact decide_eq_true (by assumption)
    · rintro ⟨i, xs⟩ ⟨hI1, hI2, hI3⟩
      dsimp only at hI1 hI2 hI3 ⊢
      conv => whnf
      intro _
      refine ⟨fun h5 => ?_, fun h5 => ?_⟩
      · have h5 : i < edges.length := by simp at h5; omega
        have hstep : ∀ ys : List Int, (ys = [] ↔ (xs = [] ∧ ¬ brkM r.2.2.1 r.2.2.2.2.2.2.1 edges i)) → (ys = [] ↔ ∀ j < i + 1, ¬ brkM r.2.2.1 r.2.2.2.2.2.2.1 edges j) := by
          intro ys hy
          rw [hy, hI3]
          constructor
          · rintro ⟨g1, g2⟩ j hj
            rcases Nat.lt_or_ge j i with h | h
            · exact g1 j h
            · have : j = i := by omega
              subst this; exact g2
          · intro g; exact ⟨fun j hj => g j (by omega), g i (by omega)⟩
        conv => whnf
        refine loop0 (α := Nat × Bool) (fun p => p.1 ≤ edges.length ∧ (p.2 = true ↔ ∀ k (hk : k < edges.length), k < p.1 → edges[k].2.1 = r.2.2.1 → edges[k].2.2.1 = edges[i].2.2.1 → i ≤ k))
          (fun p => ⟨[(1, .c (.dat ED edges)), (5, .c (.ptr 0 0)), (7, .c (.row 1)), (14, .c (.int .i64 i)), (15, .c (.int .i64 (outS r.2.2.1 (edges.take p.1) edges[i].2.2.1))), (16, .c (.bool (.sym p.2))), (17, .c (.int .i64 p.1))],
            [(0, .cells 31 (rc r)), (1, .row 2 (.int .i64) xs)], 2⟩) (fun p => edges.length - p.1)
          ⟨(0, true), ⟨by simp, by simp⟩, ?_⟩ ?_
        · (conv => whnf); refine ⟨rfl, ?_, ?_, ?_⟩ <;> (repeat' apply And.intro) <;> first | exact trivial | rfl | exact wr_succ _ (by omega) | assumption | exact decide_eq_false (by assumption) | exact decide_eq_true (by assumption)
        · rintro ⟨k, b⟩ ⟨hJ1, hJ2⟩
          dsimp only at hJ1 hJ2 ⊢
          conv => whnf
          intro _
          refine ⟨fun h6 => ?_, fun h6 => ?_⟩
          · have h6 : k < edges.length := by simp at h6; omega
            have hst := outS_step (ty := r.2.2.1) h6 edges[i].2.2.1
            have hle : outS r.2.2.1 (edges.take k) edges[i].2.2.1 ≤ k := by
              have := List.countP_le_length (p := fun e : ED.T => decide (e.2.1 = r.2.2.1) && decide (e.2.2.1 = edges[i].2.2.1)) (l := edges.take k)
              rw [List.length_take] at this
              unfold outS; omega
            conv => whnf
            refine any0 ?_
            conv => whnf
            try (intro _; conv => whnf)
            refine ⟨by omega, ?_⟩
            rw [gt_nat (d := ED) edges k h6]
            conv => whnf
            try (intro _; conv => whnf)
            refine ⟨fun _ => by omega, ?_⟩
            rw [gt_nat (d := ED) edges k h6]
            conv => whnf
            try (intro _; conv => whnf)
            refine ⟨fun _ => by omega, ?_⟩
            rw [gt_nat (d := ED) edges i h5]
            conv => whnf
            refine ⟨.inl (by kernel_rfl), after0 ?_⟩
            conv => whnf
            refine ⟨fun h7 => ?_, fun h7 => ?_⟩
            · conv => whnf
              rw [if_pos h7] at hst
              simp only [Bool.and_eq_true, decide_eq_true_eq] at h7
              refine ⟨(k + 1, (b && decide ((i : Int) ≤ k))), ⟨⟨by dsimp only; omega, ?_⟩, by dsimp only; omega⟩, ?_⟩
              · dsimp only
                rw [Bool.and_eq_true, hJ2, decide_eq_true_eq]
                constructor
                · rintro ⟨g1, g2⟩ k' hk' hlt q1 q2
                  rcases Nat.lt_or_ge k' k with h | h
                  · exact g1 k' hk' h q1 q2
                  · have : k' = k := by omega
                    omega
                · intro g
                  have := g k h6 (by omega) h7.1 h7.2
                  exact ⟨fun k' hk' hlt q1 q2 => g k' hk' (by omega) q1 q2, by omega⟩
              · have e1 : ((outS r.2.2.1 (edges.take (k + 1)) edges[i].2.2.1 : Nat) : Int) = IntKind.wrap .i64 ((outS r.2.2.1 (edges.take k) edges[i].2.2.1 : Int) + 1) := by rw [hst]; exact wr_succ _ (by omega)
                (conv => whnf); refine ⟨rfl, ?_, ?_, ?_⟩ <;> (repeat' apply And.intro) <;> first | exact trivial | rfl | exact wr_succ _ (by omega) | assumption | exact decide_eq_false (by assumption) | exact decide_eq_true (by assumption)
            · conv => whnf
              rw [if_neg (by rw [h7]; simp), Nat.add_zero] at hst
              refine ⟨(k + 1, b), ⟨⟨by dsimp only; omega, ?_⟩, by dsimp only; omega⟩, ?_⟩
              · dsimp only
                rw [hJ2]
                constructor
                · intro g k' hk' hlt q1 q2
                  rcases Nat.lt_or_ge k' k with h | h
                  · exact g k' hk' h q1 q2
                  · have : k' = k := by omega
                    subst this
                    simp [q1, q2] at h7
                · intro g k' hk' hlt q1 q2
                  exact g k' hk' (by omega) q1 q2
              · have e1 : ((outS r.2.2.1 (edges.take (k + 1)) edges[i].2.2.1 : Nat) : Int) = (outS r.2.2.1 (edges.take k) edges[i].2.2.1 : Int) := by rw [hst]; rfl
                (conv => whnf); refine ⟨rfl, ?_, ?_, ?_⟩ <;> (repeat' apply And.intro) <;> first | exact trivial | rfl | exact wr_succ _ (by omega) | assumption | exact decide_eq_false (by assumption) | exact decide_eq_true (by assumption)
          · have h6 : edges.length ≤ k := by simp at h6; omega
            rw [List.take_of_length_le h6]
            conv => whnf
            refine any0 ?_
            conv => whnf
            try (intro _; conv => whnf)
            refine ⟨by omega, ?_⟩
            rw [gt_nat (d := ED) edges i h5]
            conv => whnf
            refine ⟨.inl (by kernel_rfl), after0 ?_⟩
            conv => whnf
            have hbrk : (decide (edges[i].2.1 = r.2.2.1) && decide (r.2.2.2.2.2.2.1 < (outS r.2.2.1 edges edges[i].2.2.1 : Int)) && b) = true ↔ brkM r.2.2.1 r.2.2.2.2.2.2.1 edges i := by
              simp only [Bool.and_eq_true, decide_eq_true_eq, hJ2, and_assoc]
              constructor
              · rintro ⟨g1, g2, g3⟩
                exact ⟨h5, g1, g2, fun k' hk' q1 q2 => g3 k' hk' (by omega) q1 q2⟩
              · rintro ⟨_, g1, g2, g3⟩
                exact ⟨g1, g2, fun k' hk' _ q1 q2 => g3 k' hk' q1 q2⟩
            refine ⟨fun h7 => ?_, fun h7 => ?_⟩
            · conv => whnf
              try (intro _; conv => whnf)
              refine ⟨by omega, ?_⟩
              rw [gt_nat (d := ED) edges i h5]
              conv => whnf
              refine ⟨by show (xs.length + 1) * 8 ≤ 140737488355328; omega, ?_⟩
              conv => whnf
              refine ⟨(i + 1, xs ++ [edges[i].2.2.1]), ⟨⟨by dsimp only; omega, by simp; omega, ?_⟩, by dsimp only; omega⟩, ?_⟩
              · exact hstep _ ⟨fun h => by simp at h, fun h => (h.2 (hbrk.1 h7)).elim⟩
              · (conv => whnf); refine ⟨rfl, ?_, ?_, ?_⟩ <;> (repeat' apply And.intro) <;> first | exact trivial | rfl | exact wr_succ _ (by omega) | assumption | exact decide_eq_false (by assumption) | exact decide_eq_true (by assumption)
            · conv => whnf
              refine ⟨(i + 1, xs), ⟨⟨by dsimp only; omega, by dsimp only; omega, ?_⟩, by dsimp only; omega⟩, ?_⟩
              · exact hstep xs ⟨fun h => ⟨h, fun hb => by rw [← hbrk] at hb; rw [hb] at h7; cases h7⟩, fun h => h.1⟩
              · (conv => whnf); refine ⟨rfl, ?_, ?_, ?_⟩ <;> (repeat' apply And.intro) <;> first | exact trivial | rfl | exact wr_succ _ (by omega) | assumption | exact decide_eq_false (by assumption) | exact decide_eq_true (by assumption)
      · have h5 : edges.length ≤ i := by simp at h5; omega
        conv => whnf
        refine ⟨xs, rfl, ?_⟩
        rw [hI3]
        exact ⟨fun h j hb => h j (by obtain ⟨hj, _⟩ := hb; omega) hb, fun h j _ => h j⟩
  · exfalso
    have hk4 : r.2.1 ≠ 4 := by simpa using h4
    simp [formS, hk1, hk2, hk3, hk4] at hf

theorem ref_Keeps (nodes : List ND.T) (edges : List ED.T) (r : RD.T) (hn : nodes.length ≤ 1000) (he : edges.length ≤ 1000) :
    FnD Try.prog 21 [.c (.dat ND nodes), .c (.dat ED edges), .agg (rc r)] (· = .c (.bool (.sym (keepsS nodes edges r)))) := by
  refine fn0 Try.func21 rfl rfl rfl ?_
  conv => whnf
  refine call1 (ref_Form r) rfl ?_
  conv => whnf
  refine callgp0 (fun h => ref_Broken nodes edges r hn he h) rfl ⟨.c (.dat (.int .i64) (if ruleS nodes edges r = true then [] else [0])), _, rfl, ?_⟩ ?_
  · split <;> simp_all
  · rintro s ⟨xs, rfl, hxs⟩
    conv => whnf
    intro _
    conv => whnf
    rw [keepsS]
    have : decide ((xs.length : Int) = 0) = ruleS nodes edges r := by
      cases h : ruleS nodes edges r with
      | true => rw [hxs.2 h]; rfl
      | false =>
        have : xs ≠ [] := fun e => by rw [hxs.1 e] at h; cases h
        have := List.length_pos_iff.2 this
        simp; omega
    rw [← this]
end Go.Proofs.Ytfpgjaallhpddaa
