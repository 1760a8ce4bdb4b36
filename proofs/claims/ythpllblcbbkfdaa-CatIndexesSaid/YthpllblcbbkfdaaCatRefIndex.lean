/- The walks of the reference's AddIndex and DropIndex. Own work. -/
import Derived.Test.YthpllblcbbkfdaaCatAddIndex
set_option linter.unusedVariables false
set_option maxRecDepth 100000
namespace Go.Proofs.Ythpllblcbbkfdaa
open Go Go.RowKit OE

theorem pos_step {l : List ID.T} {x : ID.T} {j : Nat} (h : j < l.length) : posI (l.drop j) x = if ltIx l[j] x = true then posI (l.drop (j + 1)) x + 1 else 0 := by
  unfold posI
  rw [List.drop_eq_getElem_cons h, List.findIdx_cons]
  cases ltIx l[j] x <;> rfl
theorem pos_at {l : List ID.T} {x : ID.T} (h : posI l x < l.length) : ltIx l[posI l x] x = false := by
  have := List.findIdx_getElem (p := fun y => !ltIx y x) (xs := l) (w := h)
  rw [Bool.not_eq_true'] at this
  exact this
theorem mem_pos {l : List ID.T} {x : ID.T} (hs : SortI l) : x ∈ l ↔ ∃ h : posI l x < l.length, ltIx x l[posI l x] = false := by
  have before : ∀ i (hi : i < l.length), i < posI l x → ltIx l[i] x = true := fun i hi h => by
    have := List.not_of_lt_findIdx (p := fun y => !ltIx y x) (xs := l) (i := i) h
    simpa using this
  constructor
  · intro hx
    obtain ⟨i, hi, rfl⟩ := List.getElem_of_mem hx
    have hle : posI l l[i] ≤ i := Nat.le_of_not_lt fun h => by have := before i hi h; rw [ltIx_irr] at this; cases this
    have hlt : posI l l[i] < l.length := by omega
    refine ⟨hlt, ?_⟩
    rcases Nat.lt_or_ge (posI l l[i]) i with h | h
    · have h1 := pos_at hlt
      rw [hs _ i hlt hi h] at h1; cases h1
    · have : posI l l[i] = i := by omega
      simp only [this]
      exact ltIx_irr _
  · rintro ⟨h, h1⟩
    have h2 := pos_at h
    rcases ltIx_tri l[posI l x] x with e | e | e
    · rw [h2] at e; cases e
    · rw [← e]; exact List.getElem_mem h
    · rw [h1] at e; cases e
theorem ref16_AddIndex (c : CD.T) (x : ID.T) (g1 : c.1.length ≤ 1000) (g2 : c.2.1.length ≤ 1000) (g3 : c.2.2.1.length ≤ 1000) (g4 : c.2.2.2.1.length ≤ 1000) :
    FnD Try.prog 49 [.agg (cc c), .agg (ic x)] (· = .tup [(true, cc (addIS c x).1), (false, [.int .i64 (addIS c x).2])]) := by
  refine FnD.cat ?_
  refine fn0 Try.func49 rfl rfl rfl ?_
  conv => whnf
  refine call1 (ref16_Good c) rfl ?_
  conv => whnf
  refine ⟨fun h1 => ?_, fun h1 => ?_⟩
  · have hA : addIS c x = (C0, 11) := if_pos (not_t h1)
    rw [hA]
    conv => whnf
    exact .inr ⟨rfl, rfl⟩
  have hS := good_sort (not_f h1)
  have h1 : ¬ goodC c = false := by simp [not_f h1]
  conv => whnf
  refine call1 (ref_Name x.2) rfl ?_
  conv => whnf
  refine ⟨fun h2 => ?_, fun h2 => ?_⟩
  · have hA : addIS c x = (C0, 1) := by unfold addIS; rw [if_neg h1, if_pos (not_t h2)]
    rw [hA]
    conv => whnf
    exact .inr ⟨rfl, rfl⟩
  have h2 : ¬ nameS x.2 = false := by simp [not_f h2]
  conv => whnf
  refine call1 (ref_Has c 1 x.1) rfl ?_
  conv => whnf
  refine ⟨fun h3 => ?_, fun h3 => ?_⟩
  · have hA : addIS c x = (C0, 140) := by unfold addIS; rw [if_neg h1, if_neg h2, if_pos (not_t (show (!hasT c.1 x.1) = true from h3))]
    rw [hA]
    conv => whnf
    exact .inr ⟨rfl, rfl⟩
  have h3 : ¬ hasT c.1 x.1 = false := by
    have : (!hasT c.1 x.1) = false := h3
    simpa using this
  conv => whnf
  refine loop0 (α := Nat) (fun j => j ≤ c.2.2.2.1.length ∧ posI c.2.2.2.1 x = j + posI (c.2.2.2.1.drop j) x)
    (fun j => ⟨[(2, .c (.ptr 0 0)), (3, .c (.ptr 1 0)), (4, .c (.ptr 2 0)), (6, .c (.int .i64 j))], [(0, .cells 26 (cc c)), (1, .cells 40 (ic x)), (2, .cells 26 cn)], 3⟩) (fun j => c.2.2.2.1.length - j) ⟨0, ⟨by omega, by simp⟩, ?_⟩ ?_
  · (conv => whnf); refine ⟨rfl, ?_, ?_, ?_⟩ <;> (repeat' apply And.intro) <;> first | exact trivial | rfl | exact wr_succ _ (by omega) | assumption | exact decide_eq_false (by assumption) | exact decide_eq_true (by assumption)
  rintro j ⟨hJ1, hJ2⟩
  conv => whnf
  refine any0 ?_
  conv => whnf
  refine ⟨fun h => by simp at h; omega, ?_⟩
  conv => whnf
  refine callrg0 (fun _ => ref16_ahead _ x) rfl ?_
  conv => whnf
  refine ⟨.inl (by kernel_rfl), after0 ?_⟩
  conv => whnf
  refine ⟨fun h4 => ?_, fun h4 => ?_⟩
  · have h4' : (j : Int) < (c.2.2.2.1.length : Int) ∧ ltIx (gt (d := ID) c.2.2.2.1 j) x = true := by simpa using h4
    clear h4
    have h4 : j < c.2.2.2.1.length := by have := h4'.1; omega
    have h5 := h4'.2
    rw [gt_nat (d := ID) _ j h4] at h5
    rw [pos_step h4, if_pos h5] at hJ2
    conv => whnf
    refine ⟨j + 1, ⟨⟨by omega, by omega⟩, by omega⟩, ?_⟩
    (conv => whnf); refine ⟨rfl, ?_, ?_, ?_⟩ <;> (repeat' apply And.intro) <;> first | exact trivial | rfl | exact wr_succ _ (by omega) | assumption | exact decide_eq_false (by assumption) | exact decide_eq_true (by assumption)
  have hP : posI c.2.2.2.1 x = j := by
    rcases Nat.lt_or_ge j c.2.2.2.1.length with h | h
    · rw [pos_step h] at hJ2
      have h5 : ltIx c.2.2.2.1[j] x = false := by
        have : ((j : Int) < (c.2.2.2.1.length : Int)) → ltIx (gt (d := ID) c.2.2.2.1 j) x = false := by simpa using h4
        rw [← gt_nat (d := ID) _ j h]
        exact this (by omega)
      rw [if_neg (by rw [h5]; decide)] at hJ2
      omega
    · rw [List.drop_eq_nil_of_le h] at hJ2
      exact hJ2
  clear h4 hJ2
  conv => whnf
  refine any0 ?_
  conv => whnf
  refine ⟨fun h => by simp at h; omega, ?_⟩
  conv => whnf
  refine callrg0 (fun _ => ref16_ahead x _) rfl ?_
  conv => whnf
  refine ⟨.inl (by kernel_rfl), after0 ?_⟩
  conv => whnf
  refine ⟨fun h5 => ?_, fun h5 => ?_⟩
  · have h5' : (j : Int) < (c.2.2.2.1.length : Int) ∧ ltIx x (gt (d := ID) c.2.2.2.1 j) = false := by simpa using h5
    have h4 : j < c.2.2.2.1.length := by have := h5'.1; omega
    have h6 := h5'.2
    rw [gt_nat (d := ID) _ j h4] at h6
    have hA : addIS c x = (C0, 61) := by
      unfold addIS; rw [if_neg h1, if_neg h2, if_neg h3, if_pos ((mem_pos hS).2 ⟨by omega, by simp only [hP]; exact h6⟩)]
    rw [hA]
    conv => whnf
    exact .inr ⟨rfl, rfl⟩
  have hnm : ¬ x ∈ c.2.2.2.1 := fun hx => by
    obtain ⟨k1, k2⟩ := (mem_pos hS).1 hx
    simp only [hP] at k1 k2
    rw [← gt_nat (d := ID) _ j k1] at k2
    have : ((j : Int) < (c.2.2.2.1.length : Int)) → ltIx x (gt (d := ID) c.2.2.2.1 j) = true := by simpa using h5
    rw [this (by omega)] at k2
    cases k2
  clear h5
  conv => whnf
  intro _
  conv => whnf
  refine ⟨fun h6 => ?_, fun h6 => ?_⟩
  · have hA : addIS c x = (C0, 3) := by
      unfold addIS; rw [if_neg h1, if_neg h2, if_neg h3, if_neg hnm, if_pos (by simp at h6; omega)]
    rw [hA]
    conv => whnf
    exact .inr ⟨rfl, rfl⟩
  have hA : addIS c x = ((c.1, c.2.1, c.2.2.1, c.2.2.2.1.take j ++ [x] ++ c.2.2.2.1.drop j, c.2.2.2.2), 0) := by
    unfold addIS; rw [if_neg h1, if_neg h2, if_neg h3, if_neg hnm, if_neg (by simp at h6; omega), hP]
  rw [hA]
  conv => whnf
  refine call1 (keep_CopyCat c g1 g2 g3 g4) rfl ?_
  conv => whnf
  refine any0 ?_
  conv => whnf
  refine ⟨by omega, ?_⟩
  conv => whnf
  refine ⟨by
    show (0 + List.length (List.drop 0 (List.take (j : Int).toNat c.2.2.2.1))) * 32 ≤ 140737488355328
    simp; omega, ?_⟩
  conv => whnf
  refine ⟨by
    show (List.length ([] ++ List.drop 0 (List.take (j : Int).toNat c.2.2.2.1)) + 1) * 32 ≤ 140737488355328
    simp; omega, ?_⟩
  conv => whnf
  refine ⟨by omega, ?_⟩
  conv => whnf
  refine ⟨by
    show (List.length (([] ++ List.drop 0 (List.take (j : Int).toNat c.2.2.2.1)) ++ [(x.1, x.2)]) + List.length (List.drop (j : Int).toNat (List.take c.2.2.2.1.length c.2.2.2.1))) * 32 ≤ 140737488355328
    simp; omega, ?_⟩
  conv => whnf
  refine ⟨.inl (by kernel_rfl), after0 ?_⟩
  conv => whnf
  rw [Int.toNat_natCast, List.drop_zero, List.nil_append, List.take_of_length_le (Nat.le_refl c.2.2.2.1.length)]
  exact .inl rfl
theorem ref16_DropIndex (c : CD.T) (x : ID.T) (g1 : c.1.length ≤ 1000) (g2 : c.2.1.length ≤ 1000) (g3 : c.2.2.1.length ≤ 1000) (g4 : c.2.2.2.1.length ≤ 1000) :
    FnD Try.prog 51 [.agg (cc c), .agg (ic x)] (· = .tup [(true, cc (dropIS c x).1), (false, [.int .i64 (dropIS c x).2])]) := by
  refine FnD.cat ?_
  refine fn0 Try.func51 rfl rfl rfl ?_
  conv => whnf
  refine call1 (ref16_Good c) rfl ?_
  conv => whnf
  refine ⟨fun h1 => ?_, fun h1 => ?_⟩
  · have hA : dropIS c x = (C0, 11) := if_pos (not_t h1)
    rw [hA]
    conv => whnf
    exact .inr ⟨rfl, rfl⟩
  have h1 : ¬ goodC c = false := by simp [not_f h1]
  conv => whnf
  refine loop0 (α := Nat) (fun j => j ≤ c.2.2.2.1.length ∧ atI c.2.2.2.1 x = j + atI (c.2.2.2.1.drop j) x)
    (fun j => ⟨[(2, .c (.ptr 0 0)), (3, .c (.ptr 1 0)), (4, .c (.ptr 2 0)), (6, .c (.int .i64 j))], [(0, .cells 26 (cc c)), (1, .cells 40 (ic x)), (2, .cells 26 cn)], 3⟩) (fun j => c.2.2.2.1.length - j) ⟨0, ⟨by omega, by simp⟩, ?_⟩ ?_
  · (conv => whnf); refine ⟨rfl, ?_, ?_, ?_⟩ <;> (repeat' apply And.intro) <;> first | exact trivial | rfl | exact wr_succ _ (by omega) | assumption | exact decide_eq_false (by assumption) | exact decide_eq_true (by assumption)
  rintro j ⟨hJ1, hJ2⟩
  conv => whnf
  intro _
  refine ⟨fun h4 => ?_, fun h4 => ?_⟩
  · have h4 : j < c.2.2.2.1.length := by simp at h4; omega
    rw [at_step h4] at hJ2
    conv => whnf
    refine any0 ?_
    conv => whnf
    try (intro _; conv => whnf)
    refine ⟨by omega, ?_⟩
    rw [gt_nat (d := ID) c.2.2.2.1 j h4]
    conv => whnf
    refine callr0 (ref16_ahead c.2.2.2.1[j] x) rfl ?_
    conv => whnf
    try (intro _; conv => whnf)
    refine ⟨fun _ => by omega, ?_⟩
    rw [gt_nat (d := ID) c.2.2.2.1 j h4]
    conv => whnf
    refine callrg0 (fun _ => ref16_ahead x c.2.2.2.1[j]) rfl ?_
    conv => whnf
    refine ⟨.inl (by kernel_rfl), after0 ?_⟩
    conv => whnf
    have hb : ((!ltIx c.2.2.2.1[j] x) && !ltIx x c.2.2.2.1[j]) = ID.eqb x c.2.2.2.1[j] := by
      rw [Bool.eq_iff_iff, D.eqb_iff ID]
      constructor
      · intro h
        simp only [Bool.and_eq_true, Bool.not_eq_true'] at h
        rcases ltIx_tri c.2.2.2.1[j] x with e | e | e
        · rw [h.1] at e; cases e
        · exact e.symm
        · rw [h.2] at e; cases e
      · intro e
        rw [← e, ltIx_irr]; rfl
    rw [hb]
    refine ⟨fun h5 => ?_, fun h5 => ?_⟩
    · rw [if_pos h5] at hJ2
      have hI : atI c.2.2.2.1 x = j := by omega
      have hA : dropIS c x = ((c.1, c.2.1, c.2.2.1, c.2.2.2.1.take j ++ c.2.2.2.1.drop (j + 1), c.2.2.2.2), 0) := by
        unfold dropIS; rw [if_neg h1, if_pos (by omega), hI]
      rw [hA]
      conv => whnf
      refine call1 (keep_CopyCat c g1 g2 g3 g4) rfl ?_
      conv => whnf
      refine any0 ?_
      conv => whnf
      refine ⟨by omega, ?_⟩
      conv => whnf
      refine ⟨by
        show (0 + List.length (List.drop 0 (List.take (j : Int).toNat c.2.2.2.1))) * 32 ≤ 140737488355328
        simp; omega, ?_⟩
      conv => whnf
      rw [wr_succ' j (by omega)]
      refine ⟨by omega, ?_⟩
      conv => whnf
      refine ⟨by
        show (List.length ([] ++ List.drop 0 (List.take (j : Int).toNat c.2.2.2.1)) + List.length (List.drop (((j + 1 : Nat) : Int)).toNat (List.take c.2.2.2.1.length c.2.2.2.1))) * 32 ≤ 140737488355328
        simp; omega, ?_⟩
      conv => whnf
      refine ⟨.inl (by kernel_rfl), after0 ?_⟩
      conv => whnf
      rw [Int.toNat_natCast, Int.toNat_natCast, List.drop_zero, List.nil_append, List.take_of_length_le (Nat.le_refl c.2.2.2.1.length)]
      exact .inl rfl
    · rw [if_neg (by rw [h5]; decide)] at hJ2
      conv => whnf
      refine ⟨j + 1, ⟨⟨by omega, by omega⟩, by omega⟩, ?_⟩
      (conv => whnf); refine ⟨rfl, ?_, ?_, ?_⟩ <;> (repeat' apply And.intro) <;> first | exact trivial | rfl | exact wr_succ _ (by omega) | assumption | exact decide_eq_false (by assumption) | exact decide_eq_true (by assumption)
  · have hA : dropIS c x = (C0, 60) := by
      have h4 : j = c.2.2.2.1.length := by simp at h4; omega
      subst h4
      have : atI c.2.2.2.1 x = c.2.2.2.1.length := by rw [hJ2, List.drop_length]; rfl
      unfold dropIS; rw [if_neg h1, if_neg (by omega)]
    rw [hA]
    conv => whnf
    exact .inr ⟨rfl, rfl⟩
end Go.Proofs.Ythpllblcbbkfdaa
