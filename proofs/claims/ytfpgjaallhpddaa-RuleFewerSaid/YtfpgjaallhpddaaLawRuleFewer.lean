/- The walk of the law RuleFewer. Own work. -/
import Derived.Test.YtfpgjaallhpddaaLawRuleKeeps
set_option linter.unusedVariables false
set_option maxRecDepth 100000
namespace Go.Proofs.Ytfpgjaallhpddaa
open Go Go.RowKit OE

theorem keeps_fewer_n {n n' : List ND.T} {e : List ED.T} {r : RD.T} (hk : r.2.1 = 1 ∨ r.2.1 = 2) (hs : n'.Sublist n) (h : keepsS n e r = true) : keepsS n' e r = true := by
  rw [keepsS, Bool.and_eq_true] at h ⊢
  refine ⟨h.1, ?_⟩
  have h2 := h.2
  unfold ruleS at h2 ⊢
  by_cases h1 : r.2.1 = 1
  · rw [if_pos h1] at h2 ⊢
    have hd : (valsS r.2.2.1 r.2.2.2.1 n).Nodup := by simpa using h2
    have : (valsS r.2.2.1 r.2.2.2.1 n').Nodup := hd.sublist (List.Sublist.filterMap _ hs)
    simpa using this
  · have hk : r.2.1 = 2 := hk.resolve_left h1
    rw [if_neg h1, if_pos hk] at h2 ⊢
    simp only [Bool.not_eq_true', List.any_eq_false] at h2 ⊢
    exact fun x hx => h2 x (hs.subset hx)
theorem keeps_fewer_e {n : List ND.T} {e e' : List ED.T} {r : RD.T} (hk : r.2.1 = 3 ∨ r.2.1 = 4) (hs : e'.Sublist e) (h : keepsS n e r = true) : keepsS n e' r = true := by
  rw [keepsS, Bool.and_eq_true] at h ⊢
  refine ⟨h.1, ?_⟩
  have h2 := h.2
  unfold ruleS at h2 ⊢
  have k1 : ¬ r.2.1 = 1 := by rcases hk with h | h <;> rw [h] <;> decide
  have k2 : ¬ r.2.1 = 2 := by rcases hk with h | h <;> rw [h] <;> decide
  rw [if_neg k1, if_neg k2] at h2 ⊢
  by_cases h1 : r.2.1 = 3
  · rw [if_pos h1] at h2 ⊢
    simp only [Bool.not_eq_true', List.any_eq_false] at h2 ⊢
    exact fun x hx => h2 x (hs.subset hx)
  · rw [if_neg h1] at h2 ⊢
    simp only [Bool.not_eq_true', List.any_eq_false, Bool.and_eq_true, decide_eq_true_eq, not_and] at h2 ⊢
    intro x hx ht
    have := h2 x (hs.subset hx) ht
    have hle : outS r.2.2.1 e' x.2.2.1 ≤ outS r.2.2.1 e x.2.2.1 := hs.countP_le
    exact fun hlt => this (Int.lt_of_lt_of_le hlt (Int.ofNat_le.2 hle))

theorem typeS_mem : ∀ {l : List ND.T} {x : ND.T}, l.Pairwise (fun a b => a.1 ≠ b.1) → x ∈ l → typeS l x.1 = (x.2.1, true)
  | y :: l, x, hp, hx => by
    rw [List.pairwise_cons] at hp
    unfold typeS
    rcases List.mem_cons.1 hx with rfl | hx
    · rw [if_pos rfl]
    · rw [if_neg (hp.1 x hx)]
      exact typeS_mem hp.2 hx
  | [], _, _, hx => by cases hx
theorem typeS_none : ∀ {l : List ND.T} {n : Int}, (∀ x ∈ l, x.1 ≠ n) → typeS l n = ([], false)
  | [], _, _ => rfl
  | y :: l, n, h => by
    unfold typeS
    rw [if_neg (h y (by simp))]
    exact typeS_none fun x hx => h x (by simp [hx])
theorem typeS_rev {l : List ND.T} (hp : l.Pairwise (fun a b => a.1 ≠ b.1)) (n : Int) : typeS l.reverse n = typeS l n := by
  have hp' : l.reverse.Pairwise (fun a b => a.1 ≠ b.1) := by
    rw [List.pairwise_reverse]; exact hp.imp fun h => Ne.symm h
  by_cases h : ∃ x ∈ l, x.1 = n
  · obtain ⟨x, hx, rfl⟩ := h
    rw [typeS_mem hp hx, typeS_mem hp' (by simpa using hx)]
  · have h : ∀ x ∈ l, x.1 ≠ n := fun x hx e => h ⟨x, hx, e⟩
    rw [typeS_none h, typeS_none (fun x hx => h x (by simpa using hx))]
theorem keeps_rev {n : List ND.T} {e : List ED.T} {r : RD.T} (hp : n.Pairwise (fun a b => a.1 ≠ b.1)) (h : keepsS n e r = true) : keepsS n.reverse e.reverse r = true := by
  rw [keepsS, Bool.and_eq_true] at h ⊢
  refine ⟨h.1, ?_⟩
  have h2 := h.2
  unfold ruleS at h2 ⊢
  by_cases h1 : r.2.1 = 1
  · rw [if_pos h1] at h2 ⊢
    have hd : (valsS r.2.2.1 r.2.2.2.1 n).Nodup := by simpa using h2
    have : (valsS r.2.2.1 r.2.2.2.1 n.reverse).Nodup := by
      rw [valsS, List.filterMap_reverse, List.nodup_iff_pairwise_ne, List.pairwise_reverse]
      exact List.Pairwise.imp (fun h => Ne.symm h) (List.nodup_iff_pairwise_ne.1 hd)
    simpa using this
  rw [if_neg h1] at h2 ⊢
  by_cases h3 : r.2.1 = 2
  · rw [if_pos h3] at h2 ⊢
    simpa using h2
  rw [if_neg h3] at h2 ⊢
  by_cases h4 : r.2.1 = 3
  · rw [if_pos h4] at h2 ⊢
    have : ∀ a t, isTS n.reverse a t = isTS n a t := fun a t => by rw [isTS, isTS, typeS_rev hp]
    simp only [this]
    simpa using h2
  rw [if_neg h4] at h2 ⊢
  have : ∀ k, outS r.2.2.1 e.reverse k = outS r.2.2.1 e k := fun k => by rw [outS, List.countP_reverse]; rfl
  simp only [this]
  simpa using h2

theorem cut_sub {α : Type} (l : List α) (i : Nat) : (l.take i ++ l.drop (i + 1)).Sublist l := by
  conv => rhs; rw [← List.take_append_drop i l]
  refine List.Sublist.append (List.Sublist.refl _) ?_
  rw [← List.drop_drop]
  exact List.drop_sublist _ _

theorem row_RuleFewer (nodes : List ND.T) (hn : Wf (.list ND) nodes) (edges : List ED.T) (he : Wf (.list ED) edges) (r : RD.T) (hr : Wf RD r) :
    FnD Try.prog 4 [.c (.dat ND nodes), .c (.dat ED edges), .agg (rc r)] (· = .c (.bool (.sym true))) := by
  refine fn0 Try.func4 rfl rfl rfl ?_
  conv => whnf
  refine call1 (keep_LargeGraph nodes edges) rfl ?_
  conv => whnf
  refine callg0 (fun _ => keep_LargeRule r) rfl ?_
  conv => whnf
  refine ⟨fun h1 => ?_, fun h1 => ?_⟩
  · conv => whnf
    refine call1 (rule_wakes) rfl ?_
    conv => whnf
  rw [Bool.or_eq_false_iff] at h1
  obtain ⟨s1, s2, s3, s4⟩ := small_graph h1.1
  conv => whnf
  refine call1 (keep_CopyNodes nodes (by omega) s3) rfl ?_
  conv => whnf
  refine call1 (keep_CopyEdges edges (by omega) s4) rfl ?_
  conv => whnf
  refine call1 (rule_Keeps nodes edges r (by omega) (by omega) hn.2 he.2 hr) rfl ?_
  conv => whnf
  refine ⟨fun h2 => ?_, fun h2 => ?_⟩
  · conv => whnf
    refine call1 (rule_wakes) rfl ?_
    conv => whnf
  have hk : keepsS nodes edges r = true := by simpa using h2
  conv => whnf
  refine loop0 (α := Nat) (fun i => i ≤ nodes.length) (fun i => ⟨[(5, .c (.ptr 0 0)), (7, .c (.dat ND nodes)), (8, .c (.dat ED edges)), (9, .c (.int .i64 i))], [(0, .cells 31 (rc r))], 1⟩) (fun i => nodes.length - i) ⟨0, by omega, ?_⟩ ?_
  · (conv => whnf); refine ⟨rfl, ?_, ?_, ?_⟩ <;> (repeat' apply And.intro) <;> first | exact trivial | rfl | exact wr_succ _ (by omega) | assumption
  intro i hI
  conv => whnf
  intro _
  refine ⟨fun h3 => ?_, fun h3 => ?_⟩
  · have h3 : i < nodes.length ∧ (r.2.1 = 1 ∨ r.2.1 = 2) := by simp at h3; exact ⟨by omega, h3.2⟩
    have hsub := cut_sub nodes i
    conv => whnf
    refine any0 ?_
    conv => whnf
    refine ⟨by omega, ?_⟩
    conv => whnf
    have hto : ((i : Nat) : Int).toNat = i := rfl
    have hl1 : (nodes.take i).length ≤ 300 := by simp; omega
    have hl2 : (nodes.drop (i + 1)).length ≤ 300 := by simp; omega
    refine ⟨by show (0 + (nodes.take i).length) * 48 ≤ _; omega, ?_⟩
    conv => whnf
    rw [wr_succ' i (by omega)]
    conv => whnf
    refine ⟨by omega, ?_⟩
    conv => whnf
    rw [List.take_length]
    refine ⟨by show ((nodes.take i).length + (nodes.drop (i + 1)).length) * 48 ≤ _; omega, ?_⟩
    conv => whnf
    refine lendr0 (rule_Keeps (nodes.take i ++ nodes.drop (i + 1)) edges r (by simp; omega) (by omega) (fun n hn' => hn.2 n (hsub.subset hn')) he.2 hr) rfl rfl ?_
    conv => whnf
    refine ⟨.inl (by kernel_rfl), after0 ?_⟩
    conv => whnf
    refine fk (by rw [keeps_fewer_n h3.2 hsub hk]; rfl) ?_
    conv => whnf
    refine ⟨i + 1, ⟨by omega, by omega⟩, ?_⟩
    (conv => whnf); refine ⟨rfl, ?_, ?_, ?_⟩ <;> (repeat' apply And.intro) <;> first | exact trivial | rfl | exact wr_succ _ (by omega) | assumption
  conv => whnf
  refine loop0 (α := Nat) (fun i => i ≤ edges.length) (fun i => ⟨[(5, .c (.ptr 0 0)), (7, .c (.dat ND nodes)), (8, .c (.dat ED edges)), (10, .c (.int .i64 i))], [(0, .cells 31 (rc r))], 1⟩) (fun i => edges.length - i) ⟨0, by omega, ?_⟩ ?_
  · (conv => whnf); refine ⟨rfl, ?_, ?_, ?_⟩ <;> (repeat' apply And.intro) <;> first | exact trivial | rfl | exact wr_succ _ (by omega) | assumption
  intro i hI
  conv => whnf
  intro _
  refine ⟨fun h3 => ?_, fun h3 => ?_⟩
  · have h3 : i < edges.length ∧ (r.2.1 = 3 ∨ r.2.1 = 4) := by simp at h3; exact ⟨by omega, h3.2⟩
    have hsub := cut_sub edges i
    conv => whnf
    refine any0 ?_
    conv => whnf
    refine ⟨by omega, ?_⟩
    conv => whnf
    have hl1 : (edges.take i).length ≤ 300 := by simp; omega
    have hl2 : (edges.drop (i + 1)).length ≤ 300 := by simp; omega
    refine ⟨by show (0 + (edges.take i).length) * 64 ≤ _; omega, ?_⟩
    conv => whnf
    rw [wr_succ' i (by omega)]
    conv => whnf
    refine ⟨by omega, ?_⟩
    conv => whnf
    rw [List.take_length]
    refine ⟨by show ((edges.take i).length + (edges.drop (i + 1)).length) * 64 ≤ _; omega, ?_⟩
    conv => whnf
    refine lendr0 (rule_Keeps nodes (edges.take i ++ edges.drop (i + 1)) r (by omega) (by simp; omega) hn.2 (fun n hn' => he.2 n (hsub.subset hn')) hr) rfl rfl ?_
    conv => whnf
    refine ⟨.inl (by kernel_rfl), after0 ?_⟩
    conv => whnf
    refine fk (by rw [keeps_fewer_e h3.2 hsub hk]; rfl) ?_
    conv => whnf
    refine ⟨i + 1, ⟨by omega, by omega⟩, ?_⟩
    (conv => whnf); refine ⟨rfl, ?_, ?_, ?_⟩ <;> (repeat' apply And.intro) <;> first | exact trivial | rfl | exact wr_succ _ (by omega) | assumption
  conv => whnf
  refine loop0 (α := Nat) (fun i => i ≤ nodes.length ∧ ∀ a b, ∀ (h1 : a < nodes.length) (h2 : b < nodes.length), a < b → b < i → nodes[a].1 ≠ nodes[b].1) (fun i => ⟨[(5, .c (.ptr 0 0)), (7, .c (.dat ND nodes)), (8, .c (.dat ED edges)), (11, .c (.int .i64 i))], [(0, .cells 31 (rc r))], 1⟩) (fun i => nodes.length - i) ⟨0, ⟨by omega, fun _ _ _ _ _ h => by omega⟩, ?_⟩ ?_
  · (conv => whnf); refine ⟨rfl, ?_, ?_, ?_⟩ <;> (repeat' apply And.intro) <;> first | exact trivial | rfl | exact wr_succ _ (by omega) | assumption
  rintro i ⟨hI, hI2⟩
  conv => whnf
  intro _
  refine ⟨fun h3 => ?_, fun h3 => ?_⟩
  · have h3 : i < nodes.length := by simp at h3; omega
    conv => whnf
    refine loop0 (α := Nat) (fun k => k ≤ i ∧ ∀ a, ∀ (h1 : a < nodes.length), a < k → nodes[a].1 ≠ nodes[i].1) (fun k => ⟨[(5, .c (.ptr 0 0)), (7, .c (.dat ND nodes)), (8, .c (.dat ED edges)), (11, .c (.int .i64 i)), (12, .c (.int .i64 k))], [(0, .cells 31 (rc r))], 1⟩) (fun k => i - k) ⟨0, ⟨by omega, fun _ _ h => by omega⟩, ?_⟩ ?_
    · (conv => whnf); refine ⟨rfl, ?_, ?_, ?_⟩ <;> (repeat' apply And.intro) <;> first | exact trivial | rfl | exact wr_succ _ (by omega) | assumption
    rintro k ⟨hJ, hJ2⟩
    conv => whnf
    refine ⟨fun h4 => ?_, fun h4 => ?_⟩
    · have h4 : k < i := by simp at h4; omega
      have hkl : k < nodes.length := by omega
      conv => whnf
      refine any0 ?_
      conv => whnf
      try (intro _; conv => whnf)
      refine ⟨by omega, ?_⟩
      rw [gt_nat (d := ND) nodes k hkl]
      conv => whnf
      try (intro _; conv => whnf)
      refine ⟨by omega, ?_⟩
      rw [gt_nat (d := ND) nodes i h3]
      conv => whnf
      refine ⟨.inl (by kernel_rfl), after0 ?_⟩
      conv => whnf
      refine ⟨fun h5 => ?_, fun h5 => ?_⟩
      · conv => whnf
        refine call1 (rule_wakes) rfl ?_
        conv => whnf
      · conv => whnf
        refine ⟨k + 1, ⟨⟨by omega, fun a ha hlt => ?_⟩, by omega⟩, ?_⟩
        · rcases Nat.lt_or_ge a k with h | h
          · exact hJ2 a ha h
          · have : a = k := by omega
            subst this
            simpa using h5
        · (conv => whnf); refine ⟨rfl, ?_, ?_, ?_⟩ <;> (repeat' apply And.intro) <;> first | exact trivial | rfl | exact wr_succ _ (by omega) | assumption
    · have h4 : i ≤ k := by simp at h4; omega
      conv => whnf
      refine ⟨i + 1, ⟨⟨by omega, fun a b h1 h2 hab hb => ?_⟩, by omega⟩, ?_⟩
      · rcases Nat.lt_or_ge b i with h | h
        · exact hI2 a b h1 h2 hab h
        · have : b = i := by omega
          subst this
          exact hJ2 a h1 (by omega)
      · (conv => whnf); refine ⟨rfl, ?_, ?_, ?_⟩ <;> (repeat' apply And.intro) <;> first | exact trivial | rfl | exact wr_succ _ (by omega) | assumption
  have h3 : nodes.length ≤ i := by simp at h3; omega
  have hpw : nodes.Pairwise (fun a b => a.1 ≠ b.1) := List.pairwise_iff_getElem.2 fun a b h1 h2 hab => hI2 a b h1 h2 hab (by omega)
  conv => whnf
  intro _
  conv => whnf
  rw [wr64 ((nodes.length : Int) - 1) (by omega) (by omega)]
  refine loop0 (α := Nat) (fun j => j ≤ nodes.length) (fun j => ⟨[(5, .c (.ptr 0 0)), (7, .c (.dat ND nodes)), (8, .c (.dat ED edges)), (13, .c (.row 1)), (14, .c (.val (.slice none 0 0))), (15, .c (.int .i64 ((j : Int) - 1)))],
    [(0, .cells 31 (rc r)), (1, .row 40 ND (nodes.drop j).reverse)], 2⟩) (fun j => j) ⟨nodes.length, by omega, ?_⟩ ?_
  · have e0 : (nodes.drop nodes.length).reverse = [] := by simp
    (conv => whnf); refine ⟨rfl, ?_, ?_, ?_⟩ <;> (repeat' apply And.intro) <;> first | exact trivial | rfl | exact wr_succ _ (by omega) | assumption
  intro j hj
  conv => whnf
  refine ⟨fun h4 => ?_, fun h4 => ?_⟩
  · have h4 : 0 < j ∧ j - 1 < nodes.length := by simp at h4; omega
    have e1 : ((j : Int) - 1) = ((j - 1 : Nat) : Int) := by omega
    rw [e1]
    conv => whnf
    try (intro _; conv => whnf)
    refine ⟨by omega, ?_⟩
    rw [gt_nat (d := ND) nodes (j-1) h4.2]
    conv => whnf
    have hlen : ((nodes.drop j).reverse).length ≤ 300 := by simp; omega
    refine ⟨by show (((nodes.drop j).reverse).length + 1) * 48 ≤ 140737488355328; omega, ?_⟩
    conv => whnf
    refine ⟨j - 1, ⟨by omega, by omega⟩, ?_⟩
    have e2 : (nodes.drop (j - 1)).reverse = (nodes.drop j).reverse ++ [nodes[j - 1]] := by
      have : nodes.drop (j - 1) = nodes[j - 1] :: nodes.drop j := by rw [List.drop_eq_getElem_cons h4.2]; congr 2; omega
      rw [this, List.reverse_cons]
    have e3 : ((j - 1 : Nat) : Int) - 1 = IntKind.wrap .i64 (((j - 1 : Nat) : Int) - 1) := (wr64 _ (by omega) (by omega)).symm
    (conv => whnf); refine ⟨rfl, ?_, ?_, ?_⟩ <;> (repeat' apply And.intro) <;> first | exact trivial | rfl | exact wr_succ _ (by omega) | assumption
  have h4 : j = 0 := by simp at h4; omega
  subst h4
  conv => whnf
  intro _
  conv => whnf
  rw [wr64 ((edges.length : Int) - 1) (by omega) (by omega)]
  refine loop0 (α := Nat) (fun j => j ≤ edges.length) (fun j => ⟨[(5, .c (.ptr 0 0)), (8, .c (.dat ED edges)), (13, .c (.row 1)), (14, .c (.row 2)), (16, .c (.int .i64 ((j : Int) - 1)))],
    [(0, .cells 31 (rc r)), (1, .row 40 ND nodes.reverse), (2, .row 42 ED (edges.drop j).reverse)], 3⟩) (fun j => j) ⟨edges.length, by omega, ?_⟩ ?_
  · have e0 : (edges.drop edges.length).reverse = [] := by simp
    (conv => whnf); refine ⟨rfl, ?_, ?_, ?_⟩ <;> (repeat' apply And.intro) <;> first | exact trivial | rfl | exact wr_succ _ (by omega) | assumption
  intro j hj
  conv => whnf
  refine ⟨fun h4 => ?_, fun h4 => ?_⟩
  · have h4 : 0 < j ∧ j - 1 < edges.length := by simp at h4; omega
    have e1 : ((j : Int) - 1) = ((j - 1 : Nat) : Int) := by omega
    rw [e1]
    conv => whnf
    try (intro _; conv => whnf)
    refine ⟨by omega, ?_⟩
    rw [gt_nat (d := ED) edges (j-1) h4.2]
    conv => whnf
    have hlen : ((edges.drop j).reverse).length ≤ 300 := by simp; omega
    refine ⟨by show (((edges.drop j).reverse).length + 1) * 64 ≤ 140737488355328; omega, ?_⟩
    conv => whnf
    refine ⟨j - 1, ⟨by omega, by omega⟩, ?_⟩
    have e2 : (edges.drop (j - 1)).reverse = (edges.drop j).reverse ++ [edges[j - 1]] := by
      have : edges.drop (j - 1) = edges[j - 1] :: edges.drop j := by rw [List.drop_eq_getElem_cons h4.2]; congr 2; omega
      rw [this, List.reverse_cons]
    have e3 : ((j - 1 : Nat) : Int) - 1 = IntKind.wrap .i64 (((j - 1 : Nat) : Int) - 1) := (wr64 _ (by omega) (by omega)).symm
    (conv => whnf); refine ⟨rfl, ?_, ?_, ?_⟩ <;> (repeat' apply And.intro) <;> first | exact trivial | rfl | exact wr_succ _ (by omega) | assumption
  have h4 : j = 0 := by simp at h4; omega
  subst h4
  conv => whnf
  refine fzc 1 rfl ?_
  conv => whnf
  refine fzc 2 rfl ?_
  conv => whnf
  refine call1 (rule_Keeps nodes.reverse edges.reverse r (by simp; omega) (by simp; omega) (fun n h => hn.2 n (by simpa using h)) (fun n h => he.2 n (by simpa using h)) hr) rfl ?_
  conv => whnf
  rw [keeps_rev hpw hk]
  conv => whnf
  refine callg0 (fun _ => rule_wakes) rfl ?_
  conv => whnf
  rfl
end Go.Proofs.Ytfpgjaallhpddaa
