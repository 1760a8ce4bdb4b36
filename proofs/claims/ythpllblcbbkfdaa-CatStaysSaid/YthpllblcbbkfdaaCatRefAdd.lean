/- The walk of the reference's AddRule. Own work. -/
import Derived.Test.YthpllblcbbkfdaaCatSettle
set_option linter.unusedVariables false
set_option maxRecDepth 100000
namespace Go.Proofs.Ythpllblcbbkfdaa
open Go Go.RowKit OE

/-- a catalog and an Id, or nothing -/
def catB (c : CD.T) (n e : Int) (r : SV) : Prop := r = .tup [(true, cc c ++ [.int .i64 n]), (false, [.int .i64 e])] ∨ (c = C0 ∧ r = .tup [(true, cn ++ [.int .i64 n]), (false, [.int .i64 e])])
theorem FnD.catB {P : Program} {f : Nat} {args : List SV} {c : CD.T} {n e : Int} (h : FnD P f args (catB c n e)) : FnD P f args (· = .tup [(true, cc c ++ [.int .i64 n]), (false, [.int .i64 e])]) :=
  h.res fun r hr w ok v hv => by
    rcases hr with rfl | ⟨rfl, rfl⟩
    · exact hv
    · obtain ⟨vs, e, hl⟩ := hv
      refine ⟨vs, e, ?_⟩
      generalize vs.toList = m at hl
      cases m with
      | nil => exact hl.elim
      | cons x m =>
        refine ⟨?_, hl.2⟩
        have h1 := hl.1
        unfold RP at h1 ⊢
        simp only [if_true] at h1 ⊢
        obtain ⟨us, e2, hl2⟩ := h1
        refine ⟨us, e2, ?_⟩
        generalize us.toList = n at hl2
        match n, hl2 with
        | [a, b, c, d, e, f], ⟨h1, h2, h3, h4, h5, h6, _⟩ => exact ⟨nilC h1, nilC h2, nilC h3, nilC h4, h5, h6, trivial⟩

theorem ref16_AddRule (c : CD.T) (r : RD.T) (g1 : c.1.length ≤ 1000) (g2 : c.2.1.length ≤ 1000) (g3 : c.2.2.1.length ≤ 1000) (g4 : c.2.2.2.1.length ≤ 1000) :
    FnD Try.prog 43 [.agg (cc c), .agg (rc r)] (· = .tup [(true, cc (addRS c r).1 ++ [.int .i64 (addRS c r).2.1]), (false, [.int .i64 (addRS c r).2.2])]) := by
  refine FnD.catB ?_
  refine fn0 Try.func43 rfl rfl rfl ?_
  conv => whnf
  refine call1 (ref16_Good c) rfl ?_
  conv => whnf
  refine callg0 (fun _ => ref_Form r) rfl ?_
  conv => whnf
  refine ⟨fun h1 => ?_, fun h1 => ?_⟩
  · have hA : addRS c r = (C0, 0, 11) := by
      unfold addRS
      by_cases h : goodC c = false
      · rw [if_pos h]
      · rw [if_neg h, if_pos (by simpa [h] using h1)]
    rw [hA]
    conv => whnf
    exact .inr ⟨rfl, rfl⟩
  have h2 : ¬ formS r = false := fun e => by rw [e] at h1; simp at h1
  have h1 : ¬ goodC c = false := fun e => by rw [e] at h1; simp at h1
  conv => whnf
  refine call1 (ref_Known c r) rfl ?_
  conv => whnf
  refine ⟨fun h3 => ?_, fun h3 => ?_⟩
  · have hA : addRS c r = (C0, 0, 140) := by unfold addRS; rw [if_neg h1, if_neg h2, if_pos (not_t h3)]
    rw [hA]
    conv => whnf
    exact .inr ⟨rfl, rfl⟩
  have h3 : ¬ knownS c r = false := by simp [not_f h3]
  conv => whnf
  refine loop0 (α := Nat) (fun j => j ≤ c.2.2.1.length ∧ (c.2.2.1.take j).any (fun q => alikeS q r) = false)
    (fun j => ⟨[(2, .c (.ptr 0 0)), (3, .c (.ptr 1 0)), (4, .c (.ptr 2 0)), (6, .c (.bool (.sym ((c.2.2.1.take j).any fun q => decide (stR q = 1))))), (7, .c (.int .i64 j))], [(0, .cells 26 (cc c)), (1, .cells 38 (rc r)), (2, .cells 58 (cn ++ [.int .i64 0]))], 3⟩) (fun j => c.2.2.1.length - j) ⟨0, ⟨by omega, rfl⟩, ?_⟩ ?_
  · (conv => whnf); refine ⟨rfl, ?_, ?_, ?_⟩ <;> (repeat' apply And.intro) <;> first | exact trivial | rfl | exact wr_succ _ (by omega) | assumption | exact decide_eq_false (by assumption) | exact decide_eq_true (by assumption)
  rintro j ⟨hJ1, hJ2⟩
  conv => whnf
  intro _
  refine ⟨fun h4 => ?_, fun h4 => ?_⟩
  · have h4 : j < c.2.2.1.length := by simp at h4; omega
    conv => whnf
    refine any0 ?_
    conv => whnf
    try (intro _; conv => whnf)
    refine ⟨by omega, ?_⟩
    rw [gt_nat (d := RD) c.2.2.1 j h4]
    conv => whnf
    refine callr0 (ref16_alike c.2.2.1[j] r) rfl ?_
    conv => whnf
    refine ⟨.inl (by kernel_rfl), after0 ?_⟩
    conv => whnf
    refine ⟨fun h5 => ?_, fun h5 => ?_⟩
    · have hA : addRS c r = (C0, 0, 61) := by
        unfold addRS; rw [if_neg h1, if_neg h2, if_neg h3, if_pos (List.any_eq_true.2 ⟨_, List.getElem_mem h4, h5⟩)]
      rw [hA]
      conv => whnf
      exact .inr ⟨rfl, rfl⟩
    · conv => whnf
      try (intro _; conv => whnf)
      refine ⟨fun _ => by omega, ?_⟩
      rw [gt_nat (d := RD) c.2.2.1 j h4]
      conv => whnf
      refine ⟨j + 1, ⟨⟨by omega, ?_⟩, by omega⟩, ?_⟩
      · rw [take_step h4, List.any_append, hJ2]
        have h5 : alikeS c.2.2.1[j] r = false := h5
        simp [h5]
      rw [take_step h4, List.any_append]
      simp only [List.any_cons, List.any_nil, Bool.or_false]
      (conv => whnf); refine ⟨rfl, ?_, ?_, ?_⟩ <;> (repeat' apply And.intro) <;> first | exact trivial | rfl | exact wr_succ _ (by omega) | assumption | exact decide_eq_false (by assumption) | exact decide_eq_true (by assumption)
  rw [List.take_of_length_le (by simp at h4; omega)] at hJ2
  rw [List.take_of_length_le (by simp at h4; omega)]
  clear h4 hJ1
  conv => whnf
  refine ⟨fun h6 => ?_, fun h6 => ?_⟩
  · have hA : addRS c r = (C0, 0, 161) := by
      unfold addRS; rw [if_neg h1, if_neg h2, if_neg h3, if_neg (by rw [hJ2]; decide), if_pos h6]
    rw [hA]
    conv => whnf
    exact .inr ⟨rfl, rfl⟩
  conv => whnf
  intro _
  refine ⟨fun h5 => ?_, fun h5 => ?_⟩
  · have hA : addRS c r = (C0, 0, 3) := by
      unfold addRS; rw [if_neg h1, if_neg h2, if_neg h3, if_neg (by rw [hJ2]; decide), if_neg (by rw [h6]; decide), if_pos (by
        rw [Bool.or_eq_true, decide_eq_true_eq, decide_eq_true_eq] at h5
        rcases h5 with h | h
        · exact .inl (by omega)
        · exact .inr h)]
    rw [hA]
    conv => whnf
    exact .inr ⟨rfl, rfl⟩
  have hA : addRS c r = ((c.1, c.2.1, c.2.2.1 ++ [newR c r], c.2.2.2.1, nxtN c.2.2.2.2), c.2.2.2.2, 0) := by
    unfold addRS; rw [if_neg h1, if_neg h2, if_neg h3, if_neg (by rw [hJ2]; decide), if_neg (by rw [h6]; decide), if_neg (by
      rw [Bool.or_eq_false_iff, decide_eq_false_iff_not, decide_eq_false_iff_not] at h5
      rintro (h | h)
      · exact h5.1 (by omega)
      · exact h5.2 h)]
  rw [hA]
  conv => whnf
  refine callo0 (own_CopyCat c g1 g2 g3 g4) rfl ?_
  conv => whnf
  refine ⟨by show (c.2.2.1.length + 1) * 96 ≤ 140737488355328; omega, ?_⟩
  conv => whnf
  have hb := good_next (c := c) (by simpa using h1)
  rw [wr_nxt c.2.2.2.2 hb.1 hb.2]
  exact .inl rfl
end Go.Proofs.Ythpllblcbbkfdaa
