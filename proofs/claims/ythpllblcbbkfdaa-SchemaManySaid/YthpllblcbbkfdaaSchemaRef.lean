/- The walks of the reference's Add and Drop. Own work. -/
import Derived.Test.YthpllblcbbkfdaaSchemaAdd
set_option linter.unusedVariables false
set_option maxRecDepth 100000
namespace Go.Proofs.Ythpllblcbbkfdaa
open Go Go.RowKit OE

theorem ref14_Add (c : CD.T) (k : Int) (v : List UInt8) (g1 : c.1.length ≤ 1000) (g2 : c.2.1.length ≤ 1000) (g3 : c.2.2.1.length ≤ 1000) (g4 : c.2.2.2.1.length ≤ 1000) :
    FnD Try.prog 24 [.agg (cc c), .c (.int .i64 k), .c (.str v)] (· = .tup [(true, cc (addS c k v).1), (false, [.int .i64 (addS c k v).2])]) := by
  refine FnD.cat ?_
  refine fnI inlN Try.func24 rfl rfl rfl ?_
  conv => whnf
  refine callg0 (fun _ => ref_Name v) rfl ?_
  conv => whnf
  by_cases h3 : nameS v = true
  · by_cases h1 : k = 1
    · subst h1
      refine fk (by simp [h3]) ?_
      conv => whnf
      refine call1 (ref_Has c 1 v) rfl ?_
      conv => whnf
      refine ⟨fun h4 => ?_, fun h4 => ?_⟩
      · have hA : addS c 1 v = (C0, 61) := by unfold addS; rw [if_neg (by simp [h3]), if_pos h4]
        rw [hA]
        conv => whnf
        exact .inr ⟨rfl, rfl⟩
      have hK : kindS c 1 = (c.1) := rfl
      conv => whnf
      refine tk (by simp) ?_
      intro _
      conv => whnf
      refine ⟨fun h5 => ?_, fun h5 => ?_⟩
      · have hA : addS c 1 v = (C0, 3) := by
          have h6 : 16 ≤ List.length c.1 := by simp at h5; omega
          unfold addS; rw [if_neg (by simp [h3]), if_neg (by simp [h4]), hK, if_pos h6]
        rw [hA]
        conv => whnf
        exact .inr ⟨rfl, rfl⟩
      have h6 : ¬ 16 ≤ List.length c.1 := by simp at h5; omega
      have hA : addS c 1 v = (putS c 1 (withS (c.1) v), 0) := by
        unfold addS; rw [if_neg (by simp [h3]), if_neg (by simp [h4]), hK, if_neg h6]
      rw [hA]
      conv => whnf
      refine loop0 (α := Nat) (fun j => j ≤ List.length c.1 ∧ idxT (c.1) v = j + ((c.1).drop j).findIdx (fun y => !Op.bytesLess y v))
        (fun j => ⟨[(1, .c (.int .i64 1)), (2, .c (.str v)), (3, .c (.ptr 0 0)), (6, .c (.ptr 1 0)), (8, .c (.dat SD (c.1))), (9, .c (.int .i64 j))], [(0, .cells 26 (cc c)), (1, .cells 26 cn)], 2⟩) (fun j => List.length c.1 - j) ⟨0, ⟨by omega, by simp [idxT]⟩, ?_⟩ ?_
      · (conv => whnf); refine ⟨rfl, ?_, ?_, ?_⟩ <;> (repeat' apply And.intro) <;> first | exact trivial | rfl | exact wr_succ _ (by omega) | assumption | exact decide_eq_false (by assumption) | exact decide_eq_true (by assumption)
      rintro j ⟨hJ1, hJ2⟩
      conv => whnf
      intro _
      conv => whnf
      intro _
      conv => whnf
      refine ⟨fun h => by simp at h; omega, ?_⟩
      conv => whnf
      refine ⟨fun h2 => ?_, fun h2 => ?_⟩
      · rw [Bool.and_eq_true] at h2
        have h3 : j < List.length c.1 := by have := h2.1; simp at this; omega
        have h4 : Op.bytesLess (c.1)[j] v = true := by rw [← gt_nat (d := SD) (c.1) j h3]; exact h2.2
        rw [List.drop_eq_getElem_cons h3, List.findIdx_cons, h4] at hJ2
        conv => whnf
        refine ⟨j + 1, ⟨⟨by omega, by rw [hJ2]; simp only [Bool.not_true, cond_false]; omega⟩, by omega⟩, ?_⟩
        (conv => whnf); refine ⟨rfl, ?_, ?_, ?_⟩ <;> (repeat' apply And.intro) <;> first | exact trivial | rfl | exact wr_succ _ (by omega) | assumption | exact decide_eq_false (by assumption) | exact decide_eq_true (by assumption)
      have hI : idxT (c.1) v = j := by
        by_cases h3 : j < List.length c.1
        · have h4 : Op.bytesLess (c.1)[j] v = false := by
            rw [Bool.and_eq_false_iff] at h2
            rcases h2 with h2 | h2
            · simp at h2; omega
            · rw [← gt_nat (d := SD) (c.1) j h3]; exact h2
          rw [List.drop_eq_getElem_cons h3, List.findIdx_cons, h4] at hJ2
          rw [hJ2]; rfl
        · rw [List.drop_of_length_le (by omega)] at hJ2
          rw [hJ2]; rfl
      have hW : withS (c.1) v = (c.1).take j ++ [v] ++ (c.1).drop j := by unfold withS; rw [hI]
      rw [hW]
      conv => whnf
      refine any0 ?_
      conv => whnf
      refine ⟨by omega, ?_⟩
      conv => whnf
      refine ⟨?_, ?_⟩
      · show (0 + List.length (List.drop 0 (List.take (j : Int).toNat (c.1)))) * 16 ≤ 140737488355328
        rw [List.length_drop, List.length_take]; omega
      conv => whnf
      refine ⟨?_, ?_⟩
      · show (List.length ([] ++ List.drop 0 (List.take (j : Int).toNat (c.1))) + 1) * 16 ≤ 140737488355328
        rw [List.length_append, List.length_drop, List.length_take]; simp; omega
      conv => whnf
      refine ⟨by omega, ?_⟩
      conv => whnf
      refine ⟨?_, ?_⟩
      · show (List.length ([] ++ List.drop 0 (List.take (j : Int).toNat (c.1)) ++ [v]) + List.length (List.drop (j : Int).toNat (List.take (List.length c.1) (c.1)))) * 16 ≤ 140737488355328
        rw [List.length_append, List.length_append, List.length_drop, List.length_take, List.length_drop, List.length_take]; simp; omega
      conv => whnf
      refine callrf0 15 rfl (ref14_with c 1 _ g1 g2 g3 g4) rfl ?_
      conv => whnf
      refine ⟨.inl (by kernel_rfl), after0 ?_⟩
      conv => whnf
      refine .inl ?_
      have eL : ([] ++ List.drop 0 (List.take (j : Int).toNat (c.1)) ++ [v] ++ List.drop (j : Int).toNat (List.take (List.length c.1) (c.1)) : List SD.T) = (c.1).take j ++ [v] ++ (c.1).drop j := by
        rw [Int.toNat_natCast, List.drop_zero, List.nil_append, List.take_length]
      rw [eL]
    · by_cases h2 : k = 2
      · subst h2
        refine fk (by simp [h3]) ?_
        conv => whnf
        refine call1 (ref_Has c 2 v) rfl ?_
        conv => whnf
        refine ⟨fun h4 => ?_, fun h4 => ?_⟩
        · have hA : addS c 2 v = (C0, 61) := by unfold addS; rw [if_neg (by simp [h3]), if_pos h4]
          rw [hA]
          conv => whnf
          exact .inr ⟨rfl, rfl⟩
        have hK : kindS c 2 = (c.2.1) := rfl
        conv => whnf
        refine fk (by simp) ?_; (conv => whnf); refine tk (by simp) ?_
        intro _
        conv => whnf
        refine ⟨fun h5 => ?_, fun h5 => ?_⟩
        · have hA : addS c 2 v = (C0, 3) := by
            have h6 : 16 ≤ List.length c.2.1 := by simp at h5; omega
            unfold addS; rw [if_neg (by simp [h3]), if_neg (by simp [h4]), hK, if_pos h6]
          rw [hA]
          conv => whnf
          exact .inr ⟨rfl, rfl⟩
        have h6 : ¬ 16 ≤ List.length c.2.1 := by simp at h5; omega
        have hA : addS c 2 v = (putS c 2 (withS (c.2.1) v), 0) := by
          unfold addS; rw [if_neg (by simp [h3]), if_neg (by simp [h4]), hK, if_neg h6]
        rw [hA]
        conv => whnf
        refine loop0 (α := Nat) (fun j => j ≤ List.length c.2.1 ∧ idxT (c.2.1) v = j + ((c.2.1).drop j).findIdx (fun y => !Op.bytesLess y v))
          (fun j => ⟨[(1, .c (.int .i64 2)), (2, .c (.str v)), (3, .c (.ptr 0 0)), (6, .c (.ptr 1 0)), (8, .c (.dat SD (c.2.1))), (9, .c (.int .i64 j))], [(0, .cells 26 (cc c)), (1, .cells 26 cn)], 2⟩) (fun j => List.length c.2.1 - j) ⟨0, ⟨by omega, by simp [idxT]⟩, ?_⟩ ?_
        · (conv => whnf); refine ⟨rfl, ?_, ?_, ?_⟩ <;> (repeat' apply And.intro) <;> first | exact trivial | rfl | exact wr_succ _ (by omega) | assumption | exact decide_eq_false (by assumption) | exact decide_eq_true (by assumption)
        rintro j ⟨hJ1, hJ2⟩
        conv => whnf
        intro _
        conv => whnf
        intro _
        conv => whnf
        refine ⟨fun h => by simp at h; omega, ?_⟩
        conv => whnf
        refine ⟨fun h2 => ?_, fun h2 => ?_⟩
        · rw [Bool.and_eq_true] at h2
          have h3 : j < List.length c.2.1 := by have := h2.1; simp at this; omega
          have h4 : Op.bytesLess (c.2.1)[j] v = true := by rw [← gt_nat (d := SD) (c.2.1) j h3]; exact h2.2
          rw [List.drop_eq_getElem_cons h3, List.findIdx_cons, h4] at hJ2
          conv => whnf
          refine ⟨j + 1, ⟨⟨by omega, by rw [hJ2]; simp only [Bool.not_true, cond_false]; omega⟩, by omega⟩, ?_⟩
          (conv => whnf); refine ⟨rfl, ?_, ?_, ?_⟩ <;> (repeat' apply And.intro) <;> first | exact trivial | rfl | exact wr_succ _ (by omega) | assumption | exact decide_eq_false (by assumption) | exact decide_eq_true (by assumption)
        have hI : idxT (c.2.1) v = j := by
          by_cases h3 : j < List.length c.2.1
          · have h4 : Op.bytesLess (c.2.1)[j] v = false := by
              rw [Bool.and_eq_false_iff] at h2
              rcases h2 with h2 | h2
              · simp at h2; omega
              · rw [← gt_nat (d := SD) (c.2.1) j h3]; exact h2
            rw [List.drop_eq_getElem_cons h3, List.findIdx_cons, h4] at hJ2
            rw [hJ2]; rfl
          · rw [List.drop_of_length_le (by omega)] at hJ2
            rw [hJ2]; rfl
        have hW : withS (c.2.1) v = (c.2.1).take j ++ [v] ++ (c.2.1).drop j := by unfold withS; rw [hI]
        rw [hW]
        conv => whnf
        refine any0 ?_
        conv => whnf
        refine ⟨by omega, ?_⟩
        conv => whnf
        refine ⟨?_, ?_⟩
        · show (0 + List.length (List.drop 0 (List.take (j : Int).toNat (c.2.1)))) * 16 ≤ 140737488355328
          rw [List.length_drop, List.length_take]; omega
        conv => whnf
        refine ⟨?_, ?_⟩
        · show (List.length ([] ++ List.drop 0 (List.take (j : Int).toNat (c.2.1))) + 1) * 16 ≤ 140737488355328
          rw [List.length_append, List.length_drop, List.length_take]; simp; omega
        conv => whnf
        refine ⟨by omega, ?_⟩
        conv => whnf
        refine ⟨?_, ?_⟩
        · show (List.length ([] ++ List.drop 0 (List.take (j : Int).toNat (c.2.1)) ++ [v]) + List.length (List.drop (j : Int).toNat (List.take (List.length c.2.1) (c.2.1)))) * 16 ≤ 140737488355328
          rw [List.length_append, List.length_append, List.length_drop, List.length_take, List.length_drop, List.length_take]; simp; omega
        conv => whnf
        refine callrf0 15 rfl (ref14_with c 2 _ g1 g2 g3 g4) rfl ?_
        conv => whnf
        refine ⟨.inl (by kernel_rfl), after0 ?_⟩
        conv => whnf
        refine .inl ?_
        have eL : ([] ++ List.drop 0 (List.take (j : Int).toNat (c.2.1)) ++ [v] ++ List.drop (j : Int).toNat (List.take (List.length c.2.1) (c.2.1)) : List SD.T) = (c.2.1).take j ++ [v] ++ (c.2.1).drop j := by
          rw [Int.toNat_natCast, List.drop_zero, List.nil_append, List.take_length]
        rw [eL]
      · have hA : addS c k v = (C0, 1) := if_pos (.inl (by omega))
        rw [hA]
        refine tk (by simp [h1, h2]) ?_
        conv => whnf
        exact .inr ⟨rfl, rfl⟩
  · have hA : addS c k v = (C0, 1) := if_pos (.inr (by simpa using h3))
    rw [hA]
    refine tk (by simp [h3]) ?_
    conv => whnf
    exact .inr ⟨rfl, rfl⟩

def rdSt (c : CD.T) (v : List UInt8) (k : Int) (i : Nat) : List SD.T → St
  | [] => ⟨[(1, .c (.int .i64 k)), (2, .c (.str v)), (3, .c (.ptr 0 0)), (6, .c (.ptr 1 0)), (10, .c (.val (.slice none 0 0))), (11, .c (.int .i64 i))], [(0, .cells 26 (cc c)), (1, .cells 26 cn)], 2⟩
  | y :: ys => ⟨[(1, .c (.int .i64 k)), (2, .c (.str v)), (3, .c (.ptr 0 0)), (6, .c (.ptr 1 0)), (10, .c (.row 2)), (11, .c (.int .i64 i))], [(0, .cells 26 (cc c)), (1, .cells 26 cn), (2, .row 9 SD (y :: ys))], 3⟩
theorem ref14_Drop (c : CD.T) (k : Int) (v : List UInt8) (g1 : c.1.length ≤ 1000) (g2 : c.2.1.length ≤ 1000) (g3 : c.2.2.1.length ≤ 1000) (g4 : c.2.2.2.1.length ≤ 1000) :
    FnD Try.prog 26 [.agg (cc c), .c (.int .i64 k), .c (.str v)] (· = .tup [(true, cc (dropS c k v).1), (false, [.int .i64 (dropS c k v).2])]) := by
  refine FnD.cat ?_
  refine fnI inlN Try.func26 rfl rfl rfl ?_
  conv => whnf
  by_cases h1 : k = 1
  · subst h1
    refine fk (by simp) ?_
    conv => whnf
    refine call1 (ref_Has c 1 v) rfl ?_
    conv => whnf
    refine ⟨fun h3 => ?_, fun h3 => ?_⟩
    · have hA : dropS c 1 v = (C0, 60) := by unfold dropS; rw [if_neg (by simp), if_pos (not_t h3)]
      rw [hA]
      conv => whnf
      exact .inr ⟨rfl, rfl⟩
    have h3 := not_f h3
    conv => whnf
    refine loop0 (α := Nat) (fun i => i ≤ c.2.2.1.length ∧ (c.2.2.1.drop i).any (namS 1 v) = c.2.2.1.any (namS 1 v))
      (fun i => ⟨[(1, .c (.int .i64 1)), (2, .c (.str v)), (3, .c (.ptr 0 0)), (6, .c (.ptr 1 0)), (8, .c (.int .i64 i))], [(0, .cells 26 (cc c)), (1, .cells 26 cn)], 2⟩) (fun i => c.2.2.1.length - i) ⟨0, ⟨by omega, rfl⟩, ?_⟩ ?_
    · (conv => whnf); refine ⟨rfl, ?_, ?_, ?_⟩ <;> (repeat' apply And.intro) <;> first | exact trivial | rfl | exact wr_succ _ (by omega) | assumption | exact decide_eq_false (by assumption) | exact decide_eq_true (by assumption)
    rintro i ⟨hI1, hI2⟩
    conv => whnf
    intro _
    refine ⟨fun h4 => ?_, fun h4 => ?_⟩
    · have h4 : i < c.2.2.1.length := by simp at h4; omega
      rw [any_step h4] at hI2
      conv => whnf
      try (intro _; conv => whnf)
      refine ⟨by omega, ?_⟩
      rw [gt_nat (d := RD) c.2.2.1 i h4]
      conv => whnf
      refine call1 (ref14_Names c.2.2.1[i] 1 v (by simp)) rfl ?_
      conv => whnf
      refine ⟨fun h5 => ?_, fun h5 => ?_⟩
      · have hA : dropS c 1 v = (C0, 160) := by
          have hU : usedS c 1 v = true := by rw [usedS, ← hI2, h5]; simp
          unfold dropS; rw [if_neg (by simp), if_neg (by simp [h3]), if_pos hU]
        rw [hA]
        conv => whnf
        exact .inr ⟨rfl, rfl⟩
      · conv => whnf
        rw [h5, Bool.false_or] at hI2
        refine ⟨i + 1, ⟨⟨by omega, hI2⟩, by omega⟩, ?_⟩
        (conv => whnf); refine ⟨rfl, ?_, ?_, ?_⟩ <;> (repeat' apply And.intro) <;> first | exact trivial | rfl | exact wr_succ _ (by omega) | assumption | exact decide_eq_false (by assumption) | exact decide_eq_true (by assumption)
    rw [any_end (by simp at h4; omega)] at hI2
    conv => whnf
    refine loop0 (α := Nat) (fun i => i ≤ c.2.2.2.1.length ∧ (decide ((1 : Int) = 1) && (c.2.2.2.1.drop i).any fun i => decide (i.1 = v)) = (decide ((1 : Int) = 1) && c.2.2.2.1.any fun i => decide (i.1 = v)))
      (fun i => ⟨[(1, .c (.int .i64 1)), (2, .c (.str v)), (3, .c (.ptr 0 0)), (6, .c (.ptr 1 0)), (9, .c (.int .i64 i))], [(0, .cells 26 (cc c)), (1, .cells 26 cn)], 2⟩) (fun i => c.2.2.2.1.length - i) ⟨0, ⟨by omega, rfl⟩, ?_⟩ ?_
    · (conv => whnf); refine ⟨rfl, ?_, ?_, ?_⟩ <;> (repeat' apply And.intro) <;> first | exact trivial | rfl | exact wr_succ _ (by omega) | assumption | exact decide_eq_false (by assumption) | exact decide_eq_true (by assumption)
    rintro i ⟨hJ1, hJ2⟩
    conv => whnf
    intro _
    refine ⟨fun h4 => ?_, fun h4 => ?_⟩
    · have h4 : i < c.2.2.2.1.length := by simp at h4; omega
      rw [any_step h4] at hJ2
      conv => whnf
      try (intro _; conv => whnf)
      refine ⟨fun _ => by omega, ?_⟩
      rw [gt_nat (d := ID) c.2.2.2.1 i h4]
      conv => whnf
      refine ⟨fun h5 => ?_, fun h5 => ?_⟩
      · have hA : dropS c 1 v = (C0, 160) := by
          have hU : usedS c 1 v = true := by
            rw [Bool.and_eq_true] at h5
            rw [usedS, ← hJ2, h5.1, h5.2]; simp
          unfold dropS; rw [if_neg (by simp), if_neg (by simp [h3]), if_pos hU]
        rw [hA]
        conv => whnf
        exact .inr ⟨rfl, rfl⟩
      · conv => whnf
        have hJ3 : (decide ((1 : Int) = 1) && (c.2.2.2.1.drop (i + 1)).any fun i => decide (i.1 = v)) = (decide ((1 : Int) = 1) && c.2.2.2.1.any fun i => decide (i.1 = v)) := by
          rw [← hJ2]
          rw [Bool.and_eq_false_iff] at h5
          rcases h5 with h5 | h5
          · rw [h5]; rfl
          · rw [h5, Bool.false_or]
        refine ⟨i + 1, ⟨⟨by omega, hJ3⟩, by omega⟩, ?_⟩
        (conv => whnf); refine ⟨rfl, ?_, ?_, ?_⟩ <;> (repeat' apply And.intro) <;> first | exact trivial | rfl | exact wr_succ _ (by omega) | assumption | exact decide_eq_false (by assumption) | exact decide_eq_true (by assumption)
    rw [any_end (by simp at h4; omega), Bool.and_false] at hJ2
    have hA : dropS c 1 v = (putS c 1 (woS c.1 v), 0) := by
      have hU : usedS c 1 v = false := by rw [usedS, ← hI2, ← hJ2]; rfl
      unfold dropS; rw [if_neg (by simp), if_neg (by simp [h3]), if_neg (by simp [hU])]; rfl
    rw [hA]
    clear hJ2 hI2 h4
    conv => whnf
    refine loop0 (α := Nat) (fun i => i ≤ List.length c.1) (fun i => rdSt c v 1 i (woS ((c.1).take i) v)) (fun i => List.length c.1 - i) ⟨0, by omega, ?_⟩ ?_
    · (conv => whnf); refine ⟨rfl, ?_, ?_, ?_⟩ <;> (repeat' apply And.intro) <;> first | exact trivial | rfl | exact wr_succ _ (by omega) | assumption | exact decide_eq_false (by assumption) | exact decide_eq_true (by assumption)
    intro i hI
    have hlen : (woS ((c.1).take i) v).length ≤ 1000 := Nat.le_trans (List.length_filter_le _ _) (by rw [List.length_take]; omega)
    have hstep : ∀ h : i < List.length c.1, woS ((c.1).take (i + 1)) v = woS ((c.1).take i) v ++ (if (!decide ((c.1)[i] = v)) = true then [(c.1)[i]] else []) := fun h => filter_step h
    have hend : List.length c.1 ≤ i → woS c.1 v = woS ((c.1).take i) v := fun h => by rw [List.take_of_length_le h]
    generalize woS ((c.1).take i) v = ys at hlen hstep hend
    cases ys with
    | nil =>
      conv => whnf
      refine tk (by simp) ?_; (conv => whnf)
      intro _
      refine ⟨fun q2 => ?_, fun q2 => ?_⟩
      · have q2 : i < List.length c.1 := by simp at q2; omega
        have hstep := hstep q2
        conv => whnf
        refine tk (by simp) ?_; (conv => whnf)
        conv => whnf
        try (intro _; conv => whnf)
        refine ⟨by omega, ?_⟩
        rw [gt_nat (d := SD) (c.1) i q2]
        conv => whnf
        refine ⟨fun q3 => ?_, fun q3 => ?_⟩
        · rw [q3] at hstep
          conv => whnf
          refine tk (by simp) ?_; (conv => whnf)
          conv => whnf
          try (intro _; conv => whnf)
          refine ⟨by omega, ?_⟩
          rw [gt_nat (d := SD) (c.1) i q2]
          conv => whnf
          refine ⟨by show 1 * 16 ≤ 140737488355328; omega, ?_⟩
          conv => whnf
          refine ⟨i + 1, ⟨by omega, by omega⟩, ?_⟩
          rw [hstep]
          (conv => whnf); refine ⟨rfl, ?_, ?_, ?_⟩ <;> (repeat' apply And.intro) <;> first | exact trivial | rfl | exact wr_succ _ (by omega) | assumption | exact decide_eq_false (by assumption) | exact decide_eq_true (by assumption)
        · rw [q3] at hstep
          conv => whnf
          refine ⟨i + 1, ⟨by omega, by omega⟩, ?_⟩
          rw [hstep, if_neg (by simp), List.append_nil]
          (conv => whnf); refine ⟨rfl, ?_, ?_, ?_⟩ <;> (repeat' apply And.intro) <;> first | exact trivial | rfl | exact wr_succ _ (by omega) | assumption | exact decide_eq_false (by assumption) | exact decide_eq_true (by assumption)
      · have hend := hend (by simp at q2; omega)
        conv => whnf
        refine call1 ((ref14_with c 1 [] g1 g2 g3 g4).args fun w ok => ⟨sameA, sameA, nilA, trivial⟩) rfl ?_; (conv => whnf)
        rw [hend]
        exact .inl rfl
    | cons y ys =>
      conv => whnf
      refine tk (by simp) ?_; (conv => whnf)
      intro _
      refine ⟨fun q2 => ?_, fun q2 => ?_⟩
      · have q2 : i < List.length c.1 := by simp at q2; omega
        have hstep := hstep q2
        conv => whnf
        refine tk (by simp) ?_; (conv => whnf)
        conv => whnf
        try (intro _; conv => whnf)
        refine ⟨by omega, ?_⟩
        rw [gt_nat (d := SD) (c.1) i q2]
        conv => whnf
        refine ⟨fun q3 => ?_, fun q3 => ?_⟩
        · rw [q3] at hstep
          conv => whnf
          refine tk (by simp) ?_; (conv => whnf)
          conv => whnf
          try (intro _; conv => whnf)
          refine ⟨by omega, ?_⟩
          rw [gt_nat (d := SD) (c.1) i q2]
          conv => whnf
          refine ⟨by show ((y :: ys).length + 1) * 16 ≤ 140737488355328; omega, ?_⟩
          conv => whnf
          refine ⟨i + 1, ⟨by omega, by omega⟩, ?_⟩
          rw [hstep]
          (conv => whnf); refine ⟨rfl, ?_, ?_, ?_⟩ <;> (repeat' apply And.intro) <;> first | exact trivial | rfl | exact wr_succ _ (by omega) | assumption | exact decide_eq_false (by assumption) | exact decide_eq_true (by assumption)
        · rw [q3] at hstep
          conv => whnf
          refine ⟨i + 1, ⟨by omega, by omega⟩, ?_⟩
          rw [hstep, if_neg (by simp), List.append_nil]
          (conv => whnf); refine ⟨rfl, ?_, ?_, ?_⟩ <;> (repeat' apply And.intro) <;> first | exact trivial | rfl | exact wr_succ _ (by omega) | assumption | exact decide_eq_false (by assumption) | exact decide_eq_true (by assumption)
      · have hend := hend (by simp at q2; omega)
        conv => whnf
        refine fzc 2 rfl ?_; (conv => whnf); refine call1 (ref14_with c 1 (y :: ys) g1 g2 g3 g4) rfl ?_; (conv => whnf)
        rw [hend]
        exact .inl rfl
  · by_cases h2 : k = 2
    · subst h2
      refine fk (by simp) ?_
      conv => whnf
      refine call1 (ref_Has c 2 v) rfl ?_
      conv => whnf
      refine ⟨fun h3 => ?_, fun h3 => ?_⟩
      · have hA : dropS c 2 v = (C0, 60) := by unfold dropS; rw [if_neg (by simp), if_pos (not_t h3)]
        rw [hA]
        conv => whnf
        exact .inr ⟨rfl, rfl⟩
      have h3 := not_f h3
      conv => whnf
      refine loop0 (α := Nat) (fun i => i ≤ c.2.2.1.length ∧ (c.2.2.1.drop i).any (namS 2 v) = c.2.2.1.any (namS 2 v))
        (fun i => ⟨[(1, .c (.int .i64 2)), (2, .c (.str v)), (3, .c (.ptr 0 0)), (6, .c (.ptr 1 0)), (8, .c (.int .i64 i))], [(0, .cells 26 (cc c)), (1, .cells 26 cn)], 2⟩) (fun i => c.2.2.1.length - i) ⟨0, ⟨by omega, rfl⟩, ?_⟩ ?_
      · (conv => whnf); refine ⟨rfl, ?_, ?_, ?_⟩ <;> (repeat' apply And.intro) <;> first | exact trivial | rfl | exact wr_succ _ (by omega) | assumption | exact decide_eq_false (by assumption) | exact decide_eq_true (by assumption)
      rintro i ⟨hI1, hI2⟩
      conv => whnf
      intro _
      refine ⟨fun h4 => ?_, fun h4 => ?_⟩
      · have h4 : i < c.2.2.1.length := by simp at h4; omega
        rw [any_step h4] at hI2
        conv => whnf
        try (intro _; conv => whnf)
        refine ⟨by omega, ?_⟩
        rw [gt_nat (d := RD) c.2.2.1 i h4]
        conv => whnf
        refine call1 (ref14_Names c.2.2.1[i] 2 v (by simp)) rfl ?_
        conv => whnf
        refine ⟨fun h5 => ?_, fun h5 => ?_⟩
        · have hA : dropS c 2 v = (C0, 160) := by
            have hU : usedS c 2 v = true := by rw [usedS, ← hI2, h5]; simp
            unfold dropS; rw [if_neg (by simp), if_neg (by simp [h3]), if_pos hU]
          rw [hA]
          conv => whnf
          exact .inr ⟨rfl, rfl⟩
        · conv => whnf
          rw [h5, Bool.false_or] at hI2
          refine ⟨i + 1, ⟨⟨by omega, hI2⟩, by omega⟩, ?_⟩
          (conv => whnf); refine ⟨rfl, ?_, ?_, ?_⟩ <;> (repeat' apply And.intro) <;> first | exact trivial | rfl | exact wr_succ _ (by omega) | assumption | exact decide_eq_false (by assumption) | exact decide_eq_true (by assumption)
      rw [any_end (by simp at h4; omega)] at hI2
      conv => whnf
      refine loop0 (α := Nat) (fun i => i ≤ c.2.2.2.1.length ∧ (decide ((2 : Int) = 1) && (c.2.2.2.1.drop i).any fun i => decide (i.1 = v)) = (decide ((2 : Int) = 1) && c.2.2.2.1.any fun i => decide (i.1 = v)))
        (fun i => ⟨[(1, .c (.int .i64 2)), (2, .c (.str v)), (3, .c (.ptr 0 0)), (6, .c (.ptr 1 0)), (9, .c (.int .i64 i))], [(0, .cells 26 (cc c)), (1, .cells 26 cn)], 2⟩) (fun i => c.2.2.2.1.length - i) ⟨0, ⟨by omega, rfl⟩, ?_⟩ ?_
      · (conv => whnf); refine ⟨rfl, ?_, ?_, ?_⟩ <;> (repeat' apply And.intro) <;> first | exact trivial | rfl | exact wr_succ _ (by omega) | assumption | exact decide_eq_false (by assumption) | exact decide_eq_true (by assumption)
      rintro i ⟨hJ1, hJ2⟩
      conv => whnf
      intro _
      refine ⟨fun h4 => ?_, fun h4 => ?_⟩
      · have h4 : i < c.2.2.2.1.length := by simp at h4; omega
        rw [any_step h4] at hJ2
        conv => whnf
        try (intro _; conv => whnf)
        refine ⟨fun _ => by omega, ?_⟩
        rw [gt_nat (d := ID) c.2.2.2.1 i h4]
        conv => whnf
        refine ⟨fun h5 => ?_, fun h5 => ?_⟩
        · have hA : dropS c 2 v = (C0, 160) := by
            have hU : usedS c 2 v = true := by
              rw [Bool.and_eq_true] at h5
              rw [usedS, ← hJ2, h5.1, h5.2]; simp
            unfold dropS; rw [if_neg (by simp), if_neg (by simp [h3]), if_pos hU]
          rw [hA]
          conv => whnf
          exact .inr ⟨rfl, rfl⟩
        · conv => whnf
          have hJ3 : (decide ((2 : Int) = 1) && (c.2.2.2.1.drop (i + 1)).any fun i => decide (i.1 = v)) = (decide ((2 : Int) = 1) && c.2.2.2.1.any fun i => decide (i.1 = v)) := by
            rw [← hJ2]
            rw [Bool.and_eq_false_iff] at h5
            rcases h5 with h5 | h5
            · rw [h5]; rfl
            · rw [h5, Bool.false_or]
          refine ⟨i + 1, ⟨⟨by omega, hJ3⟩, by omega⟩, ?_⟩
          (conv => whnf); refine ⟨rfl, ?_, ?_, ?_⟩ <;> (repeat' apply And.intro) <;> first | exact trivial | rfl | exact wr_succ _ (by omega) | assumption | exact decide_eq_false (by assumption) | exact decide_eq_true (by assumption)
      rw [any_end (by simp at h4; omega), Bool.and_false] at hJ2
      have hA : dropS c 2 v = (putS c 2 (woS c.2.1 v), 0) := by
        have hU : usedS c 2 v = false := by rw [usedS, ← hI2, ← hJ2]; rfl
        unfold dropS; rw [if_neg (by simp), if_neg (by simp [h3]), if_neg (by simp [hU])]; rfl
      rw [hA]
      clear hJ2 hI2 h4
      conv => whnf
      refine loop0 (α := Nat) (fun i => i ≤ List.length c.2.1) (fun i => rdSt c v 2 i (woS ((c.2.1).take i) v)) (fun i => List.length c.2.1 - i) ⟨0, by omega, ?_⟩ ?_
      · (conv => whnf); refine ⟨rfl, ?_, ?_, ?_⟩ <;> (repeat' apply And.intro) <;> first | exact trivial | rfl | exact wr_succ _ (by omega) | assumption | exact decide_eq_false (by assumption) | exact decide_eq_true (by assumption)
      intro i hI
      have hlen : (woS ((c.2.1).take i) v).length ≤ 1000 := Nat.le_trans (List.length_filter_le _ _) (by rw [List.length_take]; omega)
      have hstep : ∀ h : i < List.length c.2.1, woS ((c.2.1).take (i + 1)) v = woS ((c.2.1).take i) v ++ (if (!decide ((c.2.1)[i] = v)) = true then [(c.2.1)[i]] else []) := fun h => filter_step h
      have hend : List.length c.2.1 ≤ i → woS c.2.1 v = woS ((c.2.1).take i) v := fun h => by rw [List.take_of_length_le h]
      generalize woS ((c.2.1).take i) v = ys at hlen hstep hend
      cases ys with
      | nil =>
        conv => whnf
        refine fk (by simp) ?_; (conv => whnf); refine tk (by simp) ?_; (conv => whnf)
        intro _
        refine ⟨fun q2 => ?_, fun q2 => ?_⟩
        · have q2 : i < List.length c.2.1 := by simp at q2; omega
          have hstep := hstep q2
          conv => whnf
          refine fk (by simp) ?_; (conv => whnf); refine tk (by simp) ?_; (conv => whnf)
          conv => whnf
          try (intro _; conv => whnf)
          refine ⟨by omega, ?_⟩
          rw [gt_nat (d := SD) (c.2.1) i q2]
          conv => whnf
          refine ⟨fun q3 => ?_, fun q3 => ?_⟩
          · rw [q3] at hstep
            conv => whnf
            refine fk (by simp) ?_; (conv => whnf); refine tk (by simp) ?_; (conv => whnf)
            conv => whnf
            try (intro _; conv => whnf)
            refine ⟨by omega, ?_⟩
            rw [gt_nat (d := SD) (c.2.1) i q2]
            conv => whnf
            refine ⟨by show 1 * 16 ≤ 140737488355328; omega, ?_⟩
            conv => whnf
            refine ⟨i + 1, ⟨by omega, by omega⟩, ?_⟩
            rw [hstep]
            (conv => whnf); refine ⟨rfl, ?_, ?_, ?_⟩ <;> (repeat' apply And.intro) <;> first | exact trivial | rfl | exact wr_succ _ (by omega) | assumption | exact decide_eq_false (by assumption) | exact decide_eq_true (by assumption)
          · rw [q3] at hstep
            conv => whnf
            refine ⟨i + 1, ⟨by omega, by omega⟩, ?_⟩
            rw [hstep, if_neg (by simp), List.append_nil]
            (conv => whnf); refine ⟨rfl, ?_, ?_, ?_⟩ <;> (repeat' apply And.intro) <;> first | exact trivial | rfl | exact wr_succ _ (by omega) | assumption | exact decide_eq_false (by assumption) | exact decide_eq_true (by assumption)
        · have hend := hend (by simp at q2; omega)
          conv => whnf
          refine call1 ((ref14_with c 2 [] g1 g2 g3 g4).args fun w ok => ⟨sameA, sameA, nilA, trivial⟩) rfl ?_; (conv => whnf)
          rw [hend]
          exact .inl rfl
      | cons y ys =>
        conv => whnf
        refine fk (by simp) ?_; (conv => whnf); refine tk (by simp) ?_; (conv => whnf)
        intro _
        refine ⟨fun q2 => ?_, fun q2 => ?_⟩
        · have q2 : i < List.length c.2.1 := by simp at q2; omega
          have hstep := hstep q2
          conv => whnf
          refine fk (by simp) ?_; (conv => whnf); refine tk (by simp) ?_; (conv => whnf)
          conv => whnf
          try (intro _; conv => whnf)
          refine ⟨by omega, ?_⟩
          rw [gt_nat (d := SD) (c.2.1) i q2]
          conv => whnf
          refine ⟨fun q3 => ?_, fun q3 => ?_⟩
          · rw [q3] at hstep
            conv => whnf
            refine fk (by simp) ?_; (conv => whnf); refine tk (by simp) ?_; (conv => whnf)
            conv => whnf
            try (intro _; conv => whnf)
            refine ⟨by omega, ?_⟩
            rw [gt_nat (d := SD) (c.2.1) i q2]
            conv => whnf
            refine ⟨by show ((y :: ys).length + 1) * 16 ≤ 140737488355328; omega, ?_⟩
            conv => whnf
            refine ⟨i + 1, ⟨by omega, by omega⟩, ?_⟩
            rw [hstep]
            (conv => whnf); refine ⟨rfl, ?_, ?_, ?_⟩ <;> (repeat' apply And.intro) <;> first | exact trivial | rfl | exact wr_succ _ (by omega) | assumption | exact decide_eq_false (by assumption) | exact decide_eq_true (by assumption)
          · rw [q3] at hstep
            conv => whnf
            refine ⟨i + 1, ⟨by omega, by omega⟩, ?_⟩
            rw [hstep, if_neg (by simp), List.append_nil]
            (conv => whnf); refine ⟨rfl, ?_, ?_, ?_⟩ <;> (repeat' apply And.intro) <;> first | exact trivial | rfl | exact wr_succ _ (by omega) | assumption | exact decide_eq_false (by assumption) | exact decide_eq_true (by assumption)
        · have hend := hend (by simp at q2; omega)
          conv => whnf
          refine fzc 2 rfl ?_; (conv => whnf); refine call1 (ref14_with c 2 (y :: ys) g1 g2 g3 g4) rfl ?_; (conv => whnf)
          rw [hend]
          exact .inl rfl
    · have hA : dropS c k v = (C0, 1) := if_pos (by omega)
      rw [hA]
      refine tk (by simp [h1, h2]) ?_
      conv => whnf
      exact .inr ⟨rfl, rfl⟩
end Go.Proofs.Ythpllblcbbkfdaa
