/- The walks of the reference's Enable and DropRule. Own work. -/
import Derived.Test.YthpllblcbbkfdaaCatEnable
set_option linter.unusedVariables false
set_option maxRecDepth 100000
namespace Go.Proofs.Ythpllblcbbkfdaa
open Go Go.RowKit OE

def findS (l : List RD.T) (id : Int) : Int := if idxR l id < l.length then (idxR l id : Int) else -1
theorem ref16_find (c : CD.T) (id : Int) : FnD Try.prog 96 [.agg (cc c), .c (.int .i64 id)] (· = .c (.int .i64 (findS c.2.2.1 id))) := by
  refine fn0 Try.func96 rfl rfl rfl ?_
  conv => whnf
  refine loop0 (α := Nat) (fun j => j ≤ c.2.2.1.length ∧ idxR c.2.2.1 id = j + idxR (c.2.2.1.drop j) id)
    (fun j => ⟨[(1, .c (.int .i64 id)), (2, .c (.ptr 0 0)), (5, .c (.int .i64 j))], [(0, .cells 26 (cc c))], 1⟩) (fun j => c.2.2.1.length - j) ⟨0, ⟨by omega, by simp⟩, ?_⟩ ?_
  · (conv => whnf); refine ⟨rfl, ?_, ?_, ?_⟩ <;> (repeat' apply And.intro) <;> first | exact trivial | rfl | exact wr_succ _ (by omega) | assumption | exact decide_eq_false (by assumption) | exact decide_eq_true (by assumption)
  rintro j ⟨hJ1, hJ2⟩
  conv => whnf
  intro _
  refine ⟨fun h4 => ?_, fun h4 => ?_⟩
  · have h4 : j < c.2.2.1.length := by simp at h4; omega
    rw [idx_rd h4] at hJ2
    conv => whnf
    try (intro _; conv => whnf)
    refine ⟨by omega, ?_⟩
    rw [gt_nat (d := RD) c.2.2.1 j h4]
    conv => whnf
    refine ⟨fun h5 => ?_, fun h5 => ?_⟩
    · have hI : idxR c.2.2.1 id = j := by rw [if_pos (by exact h5)] at hJ2; omega
      conv => whnf
      rw [findS, if_pos (by omega), hI]
    · rw [if_neg (by simpa using h5)] at hJ2
      conv => whnf
      refine ⟨j + 1, ⟨⟨by omega, by omega⟩, by omega⟩, ?_⟩
      (conv => whnf); refine ⟨rfl, ?_, ?_, ?_⟩ <;> (repeat' apply And.intro) <;> first | exact trivial | rfl | exact wr_succ _ (by omega) | assumption | exact decide_eq_false (by assumption) | exact decide_eq_true (by assumption)
  · conv => whnf
    rw [findS, if_neg (by simp at h4; omega)]

theorem ref16_Enable (c : CD.T) (id : Int) (g1 : c.1.length ≤ 1000) (g2 : c.2.1.length ≤ 1000) (g3 : c.2.2.1.length ≤ 1000) (g4 : c.2.2.2.1.length ≤ 1000) :
    FnD Try.prog 45 [.agg (cc c), .c (.int .i64 id)] (· = .tup [(true, cc (enableS c id).1), (false, [.int .i64 (enableS c id).2])]) := by
  refine FnD.cat ?_
  refine fn0 Try.func45 rfl rfl rfl ?_
  conv => whnf
  refine call1 (ref16_Good c) rfl ?_
  conv => whnf
  refine ⟨fun h1 => ?_, fun h1 => ?_⟩
  · have hA : enableS c id = (C0, 11) := if_pos (not_t h1)
    rw [hA]
    conv => whnf
    exact .inr ⟨rfl, rfl⟩
  have h1 : ¬ goodC c = false := by simp [not_f h1]
  conv => whnf
  refine call1 (ref16_find c id) rfl ?_
  conv => whnf
  refine ⟨fun h2 => ?_, fun h2 => ?_⟩
  · have hA : enableS c id = (C0, 60) := by
      have : ¬ idxR c.2.2.1 id < c.2.2.1.length := fun h => by
        rw [findS, if_pos h] at h2; simp at h2; omega
      unfold enableS; rw [if_neg h1, dif_neg this]
    rw [hA]
    conv => whnf
    exact .inr ⟨rfl, rfl⟩
  have h4 : idxR c.2.2.1 id < c.2.2.1.length := Decidable.byContradiction fun h => by rw [findS, if_neg h] at h2; simp at h2
  rw [show findS c.2.2.1 id = (idxR c.2.2.1 id : Int) from if_pos h4]
  generalize hI : idxR c.2.2.1 id = j at h4
  conv => whnf
  try (intro _; conv => whnf)
  refine ⟨by omega, ?_⟩
  rw [gt_nat (d := RD) c.2.2.1 j h4]
  conv => whnf
  refine ⟨fun h6 => ?_, fun h6 => ?_⟩
  · have hA : enableS c id = (C0, 161) := by
      simp at h6
      unfold enableS; rw [if_neg h1, dif_pos (by omega), if_neg (by simp only [hI]; exact h6)]
    rw [hA]
    conv => whnf
    exact .inr ⟨rfl, rfl⟩
  have hA : enableS c id = ((c.1, c.2.1, c.2.2.1.set j (setE c.2.2.1[j]), c.2.2.2.1, c.2.2.2.2), 0) := by
    simp at h6
    unfold enableS; rw [if_neg h1, dif_pos (by omega), if_pos (by simp only [hI]; exact h6)]
    simp only [hI]
  rw [hA]
  conv => whnf
  refine callo0 (own_CopyCat c g1 g2 g3 g4) rfl ?_
  conv => whnf
  intro _
  conv => whnf
  refine ⟨by omega, ?_⟩
  conv => whnf
  refine ⟨by omega, ?_⟩
  conv => whnf
  rw [Int.toNat_natCast, gt_nat (d := RD) c.2.2.1 j h4]
  exact .inl rfl

theorem ref16_DropRule (c : CD.T) (id : Int) (g1 : c.1.length ≤ 1000) (g2 : c.2.1.length ≤ 1000) (g3 : c.2.2.1.length ≤ 1000) (g4 : c.2.2.2.1.length ≤ 1000) :
    FnD Try.prog 47 [.agg (cc c), .c (.int .i64 id)] (· = .tup [(true, cc (dropRS c id).1), (false, [.int .i64 (dropRS c id).2])]) := by
  refine FnD.cat ?_
  refine fn0 Try.func47 rfl rfl rfl ?_
  conv => whnf
  refine call1 (ref16_Good c) rfl ?_
  conv => whnf
  refine ⟨fun h1 => ?_, fun h1 => ?_⟩
  · have hA : dropRS c id = (C0, 11) := if_pos (not_t h1)
    rw [hA]
    conv => whnf
    exact .inr ⟨rfl, rfl⟩
  have h1 : ¬ goodC c = false := by simp [not_f h1]
  conv => whnf
  refine call1 (ref16_find c id) rfl ?_
  conv => whnf
  refine ⟨fun h2 => ?_, fun h2 => ?_⟩
  · have hA : dropRS c id = (C0, 60) := by
      have : ¬ idxR c.2.2.1 id < c.2.2.1.length := fun h => by
        rw [findS, if_pos h] at h2; simp at h2; omega
      unfold dropRS; rw [if_neg h1, if_neg this]
    rw [hA]
    conv => whnf
    exact .inr ⟨rfl, rfl⟩
  have h4 : idxR c.2.2.1 id < c.2.2.1.length := Decidable.byContradiction fun h => by rw [findS, if_neg h] at h2; simp at h2
  rw [show findS c.2.2.1 id = (idxR c.2.2.1 id : Int) from if_pos h4]
  have hA : dropRS c id = ((c.1, c.2.1, c.2.2.1.take (idxR c.2.2.1 id) ++ c.2.2.1.drop (idxR c.2.2.1 id + 1), c.2.2.2.1, c.2.2.2.2), 0) := by
    unfold dropRS; rw [if_neg h1, if_pos h4]
  rw [hA]
  generalize hI : idxR c.2.2.1 id = j at h4
  conv => whnf
  refine call1 (keep_CopyCat c g1 g2 g3 g4) rfl ?_
  conv => whnf
  refine any0 ?_
  conv => whnf
  refine ⟨by omega, ?_⟩
  conv => whnf
  refine ⟨by
    show (0 + List.length (List.drop 0 (List.take (j : Int).toNat c.2.2.1))) * 96 ≤ 140737488355328
    simp; omega, ?_⟩
  conv => whnf
  rw [wr_succ' j (by omega)]
  refine ⟨by omega, ?_⟩
  conv => whnf
  refine ⟨by
    show (List.length ([] ++ List.drop 0 (List.take (j : Int).toNat c.2.2.1)) + List.length (List.drop (((j + 1 : Nat) : Int)).toNat (List.take c.2.2.1.length c.2.2.1))) * 96 ≤ 140737488355328
    simp; omega, ?_⟩
  conv => whnf
  refine ⟨.inl (by kernel_rfl), after0 ?_⟩
  conv => whnf
  rw [Int.toNat_natCast, Int.toNat_natCast, List.drop_zero, List.nil_append, List.take_of_length_le (Nat.le_refl c.2.2.1.length)]
  exact .inl rfl
end Go.Proofs.Ythpllblcbbkfdaa
