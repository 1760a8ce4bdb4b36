/- The walks of schema.with and schema.without. Own work. -/
import Derived.Test.YthpllblcbbkfdaaSlicesClone
import Derived.Test.YthpllblcbbkfdaaListIns
set_option linter.unusedVariables false
set_option maxRecDepth 100000
namespace Go.Proofs.Ythpllblcbbkfdaa
open Go Go.RowKit OE

/-- where a text belongs; a list with it -/
def idxT (l : List SD.T) (x : List UInt8) : Nat := l.findIdx fun y => !Op.bytesLess y x
def withS (l : List SD.T) (x : List UInt8) : List SD.T := l.take (idxT l x) ++ [x] ++ l.drop (idxT l x)

noncomputable def inlW : Nat → Option (FI × Code) := lk [(105, fiOf Try.f105, bodyOf Try.f105)]
instance : InlOk inlW := inl_cons Try.func105 rfl rfl inl_nil

theorem schema_with (X : List SD.T) (x : List UInt8) (hl : X.length ≤ 1000) : FnD Try.prog 60 [.c (.dat SD X), .c (.str x)] (· = .c (.dat SD (withS X x))) := by
  refine fnI inlW Try.func60 rfl rfl rfl ?_
  conv => whnf
  refine loop0 (α := Nat) (fun j => j ≤ X.length ∧ idxT X x = j + (X.drop j).findIdx (fun y => !Op.bytesLess y x))
    (fun j => ⟨[(0, .c (.dat SD X)), (1, .c (.str x)), (5, .c (.int .i64 j))], [], 0⟩) (fun j => X.length - j) ⟨0, ⟨by omega, by simp [idxT]⟩, ?_⟩ ?_
  · (conv => whnf); refine ⟨rfl, ?_, ?_, ?_⟩ <;> (repeat' apply And.intro) <;> first | exact trivial | rfl | exact wr_succ _ (by omega) | assumption | exact decide_eq_false (by assumption) | exact decide_eq_true (by assumption)
  rintro j ⟨hJ1, hJ2⟩
  conv => whnf
  intro _
  conv => whnf
  intro _
  conv => whnf
  refine ⟨fun h => by simp at h; omega, ?_⟩
  conv => whnf
  refine ⟨fun h2 => ?_, fun h2 => ?_⟩
  · rw [Bool.and_eq_true] at h2
    have h3 : j < X.length := by have := h2.1; simp at this; omega
    have h4 : Op.bytesLess X[j] x = true := by rw [← gt_nat (d := SD) X j h3]; exact h2.2
    rw [List.drop_eq_getElem_cons h3, List.findIdx_cons, h4] at hJ2
    conv => whnf
    refine ⟨j + 1, ⟨⟨by omega, by rw [hJ2]; simp only [Bool.not_true, cond_false]; omega⟩, by omega⟩, ?_⟩
    (conv => whnf); refine ⟨rfl, ?_, ?_, ?_⟩ <;> (repeat' apply And.intro) <;> first | exact trivial | rfl | exact wr_succ _ (by omega) | assumption | exact decide_eq_false (by assumption) | exact decide_eq_true (by assumption)
  have hI : idxT X x = j := by
    by_cases h3 : j < X.length
    · have h4 : Op.bytesLess X[j] x = false := by
        rw [Bool.and_eq_false_iff] at h2
        rcases h2 with h2 | h2
        · simp at h2; omega
        · rw [← gt_nat (d := SD) X j h3]; exact h2
      rw [List.drop_eq_getElem_cons h3, List.findIdx_cons, h4] at hJ2
      rw [hJ2]; rfl
    · rw [List.drop_of_length_le (by omega)] at hJ2
      rw [hJ2]; rfl
  have hW : withS X x = X.take j ++ [x] ++ X.drop j := by unfold withS; rw [hI]
  rw [hW]
  clear hW hI hJ2 h2
  conv => whnf
  refine callo0 (own_texts X hl) rfl ?_
  conv => whnf
  refine opnx 0 rfl (fun e => ?_) (fun c hc1 hc2 => ?_)
  · subst e
    have hj : j = 0 := by simp at hJ1; omega
    subst hj
    conv => whnf
    refine ⟨by decide, ?_⟩
    conv => whnf
    intro _
    conv => whnf
    refine fk rfl ?_
    conv => whnf
    refine tk rfl ?_
    conv => whnf
    refine ⟨by show 1 * 16 ≤ 140737488355328; omega, ?_⟩
    conv => whnf
    rfl
  by_cases h5 : j < X.length
  · conv => whnf
    refine ⟨by omega, ?_⟩
    conv => whnf
    intro _
    conv => whnf
    refine fk rfl ?_
    conv => whnf
    intro _
    conv => whnf
    refine fk (by simp; omega) ?_
    conv => whnf
    intro _
    conv => whnf
    have e1 : IntKind.wrap .i64 ((X.length : Int) + (([x] : List (SD).T).length : Nat)) = ((X.length + 1 : Nat) : Int) := by
      show IntKind.wrap .i64 ((X.length : Int) + 1) = _
      rw [wr64 _ (by omega) (by omega)]; omega
    have e2 : IntKind.wrap .i64 ((j : Int) + (([x] : List (SD).T).length : Nat)) = ((j + 1 : Nat) : Int) := by
      show IntKind.wrap .i64 ((j : Int) + 1) = _
      rw [wr64 _ (by omega) (by omega)]; omega
    refine ⟨fun h7 => ?_, fun h7 => ?_⟩
    · rw [e1] at h7
      simp at h7
      conv => whnf
      refine ⟨by omega, ?_⟩
      conv => whnf
      rw [e1]
      have e3 : IntKind.wrap .i64 (((X.length + 1 : Nat) : Int) - j) = ((X.length + 1 - j : Nat) : Int) := by rw [wr64 _ (by omega) (by omega)]; omega
      refine ⟨?_, ?_⟩
      · rw [e3]
        show 0 < _ ∧ ((c - 0 : Nat) : Int) < (((j : Int).toNat - 0 : Nat) : Int) + _ ∧ 0 + 0 + ((j : Int).toNat - 0) ≤ X.length ∧ ((((j : Int).toNat - 0 : Nat) : Int) + _) * ((16 : Nat) : Int) ≤ 140737488355328
        omega
      conv => whnf
      rw [e3]
      generalize hY : (List.take ((j : Int).toNat - 0) (List.drop (0 + 0) X) ++ List.replicate (((X.length + 1 - j : Nat) : Int)).toNat ([] : (SD).T)) = Y
      have hYl : Y.length = X.length + 1 := by
        rw [← hY]; simp only [List.length_append, List.length_take, List.length_drop, List.length_replicate]; omega
      refine opns 2 rfl (by rw [hYl]; omega) fun c' hc3 hc4 => ?_
      conv => whnf
      refine ⟨by rw [hYl]; omega, ?_⟩
      conv => whnf
      refine ⟨⟨trivial, ?_, ?_⟩, ?_⟩
      · rw [hYl]; show 0 + (j : Int).toNat ≤ _; omega
      · rw [hYl]; show 0 + (j : Int).toNat + min 1 _ ≤ _; omega
      conv => whnf
      refine any0 ?_
      conv => whnf
      rw [e2]
      refine ⟨by omega, ?_⟩
      conv => whnf
      refine ⟨by omega, ?_⟩
      conv => whnf
      refine ⟨⟨?_, ?_, ?_⟩, ?_⟩
      · show 0 + j + min (X.length - j) (Y.length - (j + 1)) ≤ X.length
        rw [hYl]; omega
      · show 0 + (j + 1) ≤ List.length (List.take (0 + j) Y ++ List.take (Y.length - j) [(x : (SD).T)] ++ List.drop (0 + j + min 1 (Y.length - j)) Y)
        simp only [List.length_append, List.length_take, List.length_drop, List.length_singleton]
        rw [hYl]; omega
      · show 0 + (j + 1) + min (X.length - j) (Y.length - (j + 1)) ≤ c'
        rw [hYl] at hc3 ⊢; omega
      conv => whnf
      refine ⟨.inl (by kernel_rfl), after0 ?_⟩
      conv => whnf
      have hR1 : 0 + Y.length ≤ List.length (List.take (0 + (j + 1)) (List.take (0 + j) Y ++ List.take (Y.length - j) [(x : (SD).T)] ++ List.drop (0 + j + min 1 (Y.length - j)) Y) ++ List.take (min (X.length - j) (Y.length - (j + 1))) (List.drop (0 + j) X) ++ List.drop (0 + (j + 1) + min (X.length - j) (Y.length - (j + 1))) (List.take (0 + j) Y ++ List.take (Y.length - j) [(x : (SD).T)] ++ List.drop (0 + j + min 1 (Y.length - j)) Y)) := by
        simp only [List.length_append, List.length_take, List.length_drop, List.length_singleton]
        rw [hYl]; omega
      have hR2 := growL X Y x _ j h5 hY
      refine ⟨rfl, hR1, ?_⟩
      exact congrArg (fun l => SV.c (.dat SD l)) hR2
    · rw [e1] at h7
      simp at h7
      conv => whnf
      rw [e1]
      refine ⟨by omega, ?_⟩
      conv => whnf
      rw [e2]
      refine ⟨by show 0 ≤ _ ∧ _ ≤ ((X.length + 1 - 0 : Nat) : Int); omega, ?_⟩
      conv => whnf
      refine ovl0 (tS := 22) (tR := 4) (e := 9) Try.func130 rfl rfl (by kernel_rfl) (by kernel_rfl) rfl rfl rfl rfl rfl rfl (by simp) (by omega) ?_
      conv => whnf
      refine any0 ?_
      conv => whnf
      rw [e2]
      refine ⟨by show 0 ≤ _ ∧ _ ≤ ((X.length + 1 - 0 : Nat) : Int); omega, ?_⟩
      conv => whnf
      refine ⟨by show 0 ≤ _ ∧ _ ≤ ((X.length + 1 - 0 : Nat) : Int); omega, ?_⟩
      conv => whnf
      refine ⟨⟨?_, ?_, ?_⟩, ?_⟩
      · show 0 + 0 + j + min (X.length + 1 - 0 - j) (X.length + 1 - 0 - (j + 1)) ≤ X.length
        omega
      · show 0 + 0 + (j + 1) ≤ X.length
        omega
      · show 0 + 0 + (j + 1) + min (X.length + 1 - 0 - j) (X.length + 1 - 0 - (j + 1)) ≤ c
        omega
      conv => whnf
      refine ⟨.inl (by kernel_rfl), after0 ?_⟩
      conv => whnf
      refine ⟨by show 0 ≤ _ ∧ _ ≤ ((X.length + 1 - 0 : Nat) : Int); omega, ?_⟩
      conv => whnf
      refine ⟨⟨trivial, ?_, ?_⟩, ?_⟩
      · show 0 + 0 + j ≤ List.length (List.take (0 + 0 + (j + 1)) X ++ List.take (min (X.length + 1 - 0 - j) (X.length + 1 - 0 - (j + 1))) (List.drop (0 + 0 + j) X) ++ List.drop (0 + 0 + (j + 1) + min (X.length + 1 - 0 - j) (X.length + 1 - 0 - (j + 1))) X)
        simp only [List.length_append, List.length_take, List.length_drop]
        omega
      · show 0 + 0 + j + min 1 (X.length + 1 - 0 - j) ≤ c
        omega
      conv => whnf
      have hR1 : 0 + 0 + (X.length + 1 - 0) ≤ List.length (List.take (0 + 0 + j) (List.take (0 + 0 + (j + 1)) X ++ List.take (min (X.length + 1 - 0 - j) (X.length + 1 - 0 - (j + 1))) (List.drop (0 + 0 + j) X) ++ List.drop (0 + 0 + (j + 1) + min (X.length + 1 - 0 - j) (X.length + 1 - 0 - (j + 1))) X) ++ List.take (X.length + 1 - 0 - j) [(x : (SD).T)] ++ List.drop (0 + 0 + j + min 1 (X.length + 1 - 0 - j)) (List.take (0 + 0 + (j + 1)) X ++ List.take (min (X.length + 1 - 0 - j) (X.length + 1 - 0 - (j + 1))) (List.drop (0 + 0 + j) X) ++ List.drop (0 + 0 + (j + 1) + min (X.length + 1 - 0 - j) (X.length + 1 - 0 - (j + 1))) X)) := by
        simp only [List.length_append, List.length_take, List.length_drop, List.length_singleton]
        omega
      have hR2 := shiftL X x j h5
      refine ⟨rfl, hR1, ?_⟩
      exact congrArg (fun l => SV.c (.dat SD l)) hR2
  · have h5 : j = X.length := by omega
    subst h5
    conv => whnf
    refine ⟨by omega, ?_⟩
    conv => whnf
    intro _
    conv => whnf
    refine fk rfl ?_
    conv => whnf
    intro _
    conv => whnf
    refine tk (by simp) ?_
    conv => whnf
    refine ⟨⟨⟨rfl, rfl, rfl⟩, by show (X.length + 1) * 16 ≤ 140737488355328; omega⟩, ?_⟩
    conv => whnf
    rw [List.take_length, List.drop_length, List.append_nil]

/-- a list without a text -/
def woS (l : List SD.T) (x : List UInt8) : List SD.T := l.filter fun y => !decide (y = x)
def woSt (l : List SD.T) (x : List UInt8) (i : Nat) : List SD.T → St
  | [] => ⟨[(1, .c (.str x)), (5, .c (.val (.slice none 0 0))), (8, .c (.dat SD l)), (9, .c (.int .i64 l.length)), (10, .c (.int .i64 i))], [], 0⟩
  | y :: ys => ⟨[(1, .c (.str x)), (5, .c (.row 0)), (8, .c (.dat SD l)), (9, .c (.int .i64 l.length)), (10, .c (.int .i64 i))], [(0, .row 9 SD (y :: ys))], 1⟩
theorem schema_without' (l : List SD.T) (x : List UInt8) (hl : l.length ≤ 1000) : FnD Try.prog 64 [.c (.dat SD l), .c (.str x)] (nilOr SD (woS l x)) := by
  refine fn0 Try.func64 rfl rfl rfl ?_
  conv => whnf
  intro _
  conv => whnf
  refine loop0 (α := Nat) (fun i => i ≤ l.length) (fun i => woSt l x i (woS (l.take i) x)) (fun i => l.length - i) ⟨0, by omega, ?_⟩ ?_
  · (conv => whnf); refine ⟨rfl, ?_, ?_, ?_⟩ <;> (repeat' apply And.intro) <;> first | exact trivial | rfl | exact wr_succ _ (by omega) | assumption | exact decide_eq_false (by assumption) | exact decide_eq_true (by assumption)
  intro i hI
  have hlen : (woS (l.take i) x).length ≤ 1000 := Nat.le_trans (List.length_filter_le _ _) (by rw [List.length_take]; omega)
  have hstep : ∀ h : i < l.length, woS (l.take (i + 1)) x = woS (l.take i) x ++ (if (!decide (l[i] = x)) = true then [l[i]] else []) := fun h => filter_step h
  have hend : l.length ≤ i → woS l x = woS (l.take i) x := fun h => by rw [List.take_of_length_le h]
  generalize woS (l.take i) x = ys at hlen hstep hend
  cases ys with
  | nil =>
    conv => whnf
    refine ⟨fun h2 => ?_, fun h2 => ?_⟩
    · have h2 : i < l.length := by simp at h2; omega
      have hstep := hstep h2
      conv => whnf
      try (intro _; conv => whnf)
      refine ⟨by omega, ?_⟩
      rw [gt_nat (d := SD) l i h2]
      conv => whnf
      refine ⟨fun h3 => ?_, fun h3 => ?_⟩
      · rw [h3] at hstep
        conv => whnf
        refine ⟨by show 1 * 16 ≤ 140737488355328; omega, ?_⟩
        conv => whnf
        refine ⟨i + 1, ⟨by omega, by omega⟩, ?_⟩
        rw [hstep]
        (conv => whnf); refine ⟨rfl, ?_, ?_, ?_⟩ <;> (repeat' apply And.intro) <;> first | exact trivial | rfl | exact wr_succ _ (by omega) | assumption | exact decide_eq_false (by assumption) | exact decide_eq_true (by assumption)
      · rw [h3] at hstep
        conv => whnf
        refine ⟨i + 1, ⟨by omega, by omega⟩, ?_⟩
        rw [hstep, if_neg (by simp), List.append_nil]
        (conv => whnf); refine ⟨rfl, ?_, ?_, ?_⟩ <;> (repeat' apply And.intro) <;> first | exact trivial | rfl | exact wr_succ _ (by omega) | assumption | exact decide_eq_false (by assumption) | exact decide_eq_true (by assumption)
    · have hend := hend (by simp at h2; omega)
      conv => whnf
      rw [hend]
      exact .inr ⟨rfl, rfl⟩
  | cons y ys =>
    conv => whnf
    refine ⟨fun h2 => ?_, fun h2 => ?_⟩
    · have h2 : i < l.length := by simp at h2; omega
      have hstep := hstep h2
      conv => whnf
      try (intro _; conv => whnf)
      refine ⟨by omega, ?_⟩
      rw [gt_nat (d := SD) l i h2]
      conv => whnf
      refine ⟨fun h3 => ?_, fun h3 => ?_⟩
      · rw [h3] at hstep
        conv => whnf
        refine ⟨by show ((y :: ys).length + 1) * 16 ≤ 140737488355328; omega, ?_⟩
        conv => whnf
        refine ⟨i + 1, ⟨by omega, by omega⟩, ?_⟩
        rw [hstep]
        (conv => whnf); refine ⟨rfl, ?_, ?_, ?_⟩ <;> (repeat' apply And.intro) <;> first | exact trivial | rfl | exact wr_succ _ (by omega) | assumption | exact decide_eq_false (by assumption) | exact decide_eq_true (by assumption)
      · rw [h3] at hstep
        conv => whnf
        refine ⟨i + 1, ⟨by omega, by omega⟩, ?_⟩
        rw [hstep, if_neg (by simp), List.append_nil]
        (conv => whnf); refine ⟨rfl, ?_, ?_, ?_⟩ <;> (repeat' apply And.intro) <;> first | exact trivial | rfl | exact wr_succ _ (by omega) | assumption | exact decide_eq_false (by assumption) | exact decide_eq_true (by assumption)
    · have hend := hend (by simp at h2; omega)
      conv => whnf
      rw [hend]
      exact .inl rfl
theorem schema_without (l : List SD.T) (x : List UInt8) (hl : l.length ≤ 1000) : FnD Try.prog 64 [.c (.dat SD l), .c (.str x)] (· = .c (.dat SD (woS l x))) := (schema_without' l x hl).nil
end Go.Proofs.Ythpllblcbbkfdaa
