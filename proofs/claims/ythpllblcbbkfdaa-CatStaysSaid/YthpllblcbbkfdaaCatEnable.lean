/- The walks of cat.Enable, cat.DropRule. Own work. -/
import Derived.Test.YthpllblcbbkfdaaCatSettle
set_option linter.unusedVariables false
set_option maxRecDepth 100000
namespace Go.Proofs.Ythpllblcbbkfdaa
open Go Go.RowKit OE

noncomputable def inlB : Nat → Option (FI × Code) := lk [(74, fiOf Try.f74, bodyOf Try.f74),
  (113, fiOf Try.f113, bodyOf Try.f113),
  (94, fiOf Try.f94, bodyOf Try.f94),
  (95, fiOf Try.f95, bodyOf Try.f95),
  (97, fiOf Try.f97, bodyOf Try.f97),
  (98, fiOf Try.f98, bodyOf Try.f98),
  (93, fiOf Try.f93, bodyOf Try.f93),
  (122, fiOf Try.f122, bodyOf Try.f122),
  (123, fiOf Try.f123, bodyOf Try.f123),
  (134, fiOf Try.f134, bodyOf Try.f134),
  (124, fiOf Try.f124, bodyOf Try.f124)]
instance : InlOk inlB := inl_cons Try.func74 rfl rfl <| inl_cons Try.func113 rfl rfl <| inl_cons Try.func94 rfl rfl <| inl_cons Try.func95 rfl rfl <| inl_cons Try.func97 rfl rfl <| inl_cons Try.func98 rfl rfl <| inl_cons Try.func93 rfl rfl <| inl_cons Try.func122 rfl rfl <| inl_cons Try.func123 rfl rfl <| inl_cons Try.func134 rfl rfl <| inl_cons Try.func124 rfl rfl <| inl_nil
def idxR (l : List RD.T) (id : Int) : Nat := l.findIdx fun r => decide (r.1 = id)
def setE (r : RD.T) : RD.T := (r.1, r.2.1, r.2.2.1, r.2.2.2.1, r.2.2.2.2.1, r.2.2.2.2.2.1, r.2.2.2.2.2.2.1, 2)
def enableS (c : CD.T) (id : Int) : CD.T × Int :=
  if goodC c = false then (C0, 11)
  else if h : idxR c.2.2.1 id < c.2.2.1.length then
    if stR (c.2.2.1[idxR c.2.2.1 id]) = 1 then ((c.1, c.2.1, c.2.2.1.set (idxR c.2.2.1 id) (setE (c.2.2.1[idxR c.2.2.1 id])), c.2.2.2.1, c.2.2.2.2), 0) else (C0, 161)
  else (C0, 60)
def dropRS (c : CD.T) (id : Int) : CD.T × Int :=
  if goodC c = false then (C0, 11)
  else if idxR c.2.2.1 id < c.2.2.1.length then ((c.1, c.2.1, c.2.2.1.take (idxR c.2.2.1 id) ++ c.2.2.1.drop (idxR c.2.2.1 id + 1), c.2.2.2.1, c.2.2.2.2), 0)
  else (C0, 60)
theorem idx_rd {l : List RD.T} {id : Int} {j : Nat} (h : j < l.length) : idxR (l.drop j) id = if decide (l[j].1 = id) = true then 0 else idxR (l.drop (j + 1)) id + 1 := by
  unfold idxR
  rw [List.drop_eq_getElem_cons h, List.findIdx_cons]
  cases decide (l[j].1 = id) <;> rfl

abbrev stE (c : CD.T) (id : Int) (f : Nat) (l : List RD.T) : List (Nat × Ob) :=
  [(13, .cells 3 [.int .i64 id]), (12, .cells 94 [.row 8, .row 9, .row 10, .row 11, .int .i64 c.2.2.2.2]),
   (8, .row 9 SD c.1), (9, .row 9 SD c.2.1), (10, .row 38 RD l), (11, .row 40 ID c.2.2.2.1),
   (7, .cells 26 cn), (5, .cells 26 cn), (4, .cells 119 [.fn f []]), (1, .cells 26 cn)]
theorem del_eq {α : Type} {l : List α} {j : Nat} (h : j < l.length) (R T X : List α) :
    List.take (j - 0 + (l.length - (j + 1))) (List.drop (0 + 0) (List.take (0 + 0 + (j - 0 + (l.length - (j + 1)))) (List.take (0 + 0 + (j - 0)) l ++ List.take (l.length - (j + 1)) (List.drop (0 + (j + 1)) l) ++ X) ++ R ++ T)) = l.take j ++ l.drop (j + 1) := by
  simp only [Nat.zero_add, Nat.sub_zero, List.drop_zero]
  have h1 : (l.take j).length = j := by rw [List.length_take]; omega
  have h2 : ((l.drop (j + 1)).take (l.length - (j + 1))) = l.drop (j + 1) := List.take_of_length_le (by rw [List.length_drop]; omega)
  have h3 : (l.take j ++ l.drop (j + 1)).length = j + (l.length - (j + 1)) := by rw [List.length_append, h1, List.length_drop]
  rw [h2, List.take_append_of_le_length (l₂ := X) (by omega), List.append_assoc, List.take_append_of_le_length (l₂ := R ++ T) (by rw [List.length_take]; omega), List.take_take, Nat.min_self, List.take_of_length_le (by omega)]
theorem cat_Enable (c : CD.T) (id : Int) (hw : Wf CD c) (g1 : c.1.length ≤ 1000) (g2 : c.2.1.length ≤ 1000) (g3 : c.2.2.1.length ≤ 1000) (g4 : c.2.2.2.1.length ≤ 1000) :
    FnD Try.prog 44 [.agg (cc c), .c (.int .i64 id)] (· = .tup [(true, cc (enableS c id).1), (false, [.int .i64 (enableS c id).2])]) := by
  refine FnD.cat ?_
  refine fnI inlB Try.func44 rfl rfl rfl ?_
  conv => whnf
  refine call1 (cat_Good c hw.2.2.1.2 g3) rfl ?_
  conv => whnf
  refine ⟨fun h1 => ?_, fun h1 => ?_⟩
  · have hA : enableS c id = (C0, 11) := if_pos (not_t h1)
    rw [hA]
    conv => whnf
    exact .inr ⟨rfl, rfl⟩
  have h1 : ¬ goodC c = false := by simp [not_f h1]
  conv => whnf
  refine callo0 (own_Copy c g1 g2 g3 g4) rfl ?_
  conv => whnf
  intro _
  conv => whnf
  refine loop0 (α := Nat) (fun j => j ≤ c.2.2.1.length ∧ idxR c.2.2.1 id = j + idxR (c.2.2.1.drop j) id)
    (fun j => ⟨[(0, .c (.row 10)), (1, .c (.fn 134 [(13, 0)])), (7, .c (.int .i64 c.2.2.1.length)), (8, .c (.int .i64 j))], stE c id 94 c.2.2.1, 14⟩) (fun j => c.2.2.1.length - j) ⟨0, ⟨by omega, by simp⟩, ?_⟩ ?_
  · (conv => whnf); refine ⟨rfl, ?_, ?_, ?_⟩ <;> (repeat' apply And.intro) <;> first | exact trivial | rfl | exact wr_succ _ (by omega) | assumption | exact decide_eq_false (by assumption) | exact decide_eq_true (by assumption)
  rintro j ⟨hJ1, hJ2⟩
  conv => whnf
  refine ⟨fun h4 => ?_, fun h4 => ?_⟩
  · have h4 : j < c.2.2.1.length := by simp at h4; omega
    rw [idx_rd h4] at hJ2
    conv => whnf
    intro _
    conv => whnf
    refine ⟨by omega, ?_⟩
    conv => whnf
    refine ⟨by omega, ?_⟩
    conv => whnf
    rw [gt_nat (d := RD) c.2.2.1 j h4]
    refine ⟨fun h5 => ?_, fun h5 => ?_⟩
    · have hI : idxR c.2.2.1 id = j := by rw [if_pos h5] at hJ2; omega
      clear hJ2
      conv => whnf
      refine fk (by simp) ?_
      conv => whnf
      intro _
      conv => whnf
      refine ⟨by omega, ?_⟩
      conv => whnf
      refine ⟨by omega, ?_⟩
      conv => whnf
      rw [gt_nat (d := RD) c.2.2.1 j h4]
      refine ⟨fun h6 => ?_, fun h6 => ?_⟩
      · have hA : enableS c id = (C0, 161) := by
          simp at h6
          unfold enableS; rw [if_neg h1, dif_pos (by omega), if_neg (by simp only [hI]; exact h6)]
        rw [hA]
        conv => whnf
        refine tk rfl ?_
        conv => whnf
        exact .inr ⟨rfl, rfl⟩
      have hA : enableS c id = ((c.1, c.2.1, c.2.2.1.set j (setE c.2.2.1[j]), c.2.2.2.1, c.2.2.2.2), 0) := by
        simp at h6
        unfold enableS; rw [if_neg h1, dif_pos (by omega), if_pos (by simp only [hI]; exact h6)]
        simp only [hI]
      rw [hA]
      conv => whnf
      intro _
      conv => whnf
      refine ⟨by omega, ?_⟩
      conv => whnf
      refine ⟨by omega, ?_⟩
      conv => whnf
      rw [Int.toNat_natCast, gt_nat (d := RD) c.2.2.1 j h4]
      refine fk rfl ?_
      conv => whnf
      exact .inl rfl
    · rw [if_neg (by simp [h5])] at hJ2
      conv => whnf
      refine ⟨j + 1, ⟨⟨by omega, by omega⟩, by omega⟩, ?_⟩
      (conv => whnf); refine ⟨rfl, ?_, ?_, ?_⟩ <;> (repeat' apply And.intro) <;> first | exact trivial | rfl | exact wr_succ _ (by omega) | assumption | exact decide_eq_false (by assumption) | exact decide_eq_true (by assumption)
  have hI : ¬ idxR c.2.2.1 id < c.2.2.1.length := by simp at h4; omega
  have hA : enableS c id = (C0, 60) := by unfold enableS; rw [if_neg h1, dif_neg hI]
  rw [hA]
  conv => whnf
  refine tk rfl ?_
  conv => whnf
  refine tk rfl ?_
  conv => whnf
  exact .inr ⟨rfl, rfl⟩
theorem cat_DropRule (c : CD.T) (id : Int) (hw : Wf CD c) (g1 : c.1.length ≤ 1000) (g2 : c.2.1.length ≤ 1000) (g3 : c.2.2.1.length ≤ 1000) (g4 : c.2.2.2.1.length ≤ 1000) :
    FnD Try.prog 46 [.agg (cc c), .c (.int .i64 id)] (· = .tup [(true, cc (dropRS c id).1), (false, [.int .i64 (dropRS c id).2])]) := by
  refine FnD.cat ?_
  refine fnI inlB Try.func46 rfl rfl rfl ?_
  conv => whnf
  refine call1 (cat_Good c hw.2.2.1.2 g3) rfl ?_
  conv => whnf
  refine ⟨fun h1 => ?_, fun h1 => ?_⟩
  · have hA : dropRS c id = (C0, 11) := if_pos (not_t h1)
    rw [hA]
    conv => whnf
    exact .inr ⟨rfl, rfl⟩
  have h1 : ¬ goodC c = false := by simp [not_f h1]
  conv => whnf
  refine callo0 (own_Copy c g1 g2 g3 g4) rfl ?_
  conv => whnf
  intro _
  conv => whnf
  refine loop0 (α := Nat) (fun j => j ≤ c.2.2.1.length ∧ idxR c.2.2.1 id = j + idxR (c.2.2.1.drop j) id)
    (fun j => ⟨[(0, .c (.row 10)), (1, .c (.fn 134 [(13, 0)])), (7, .c (.int .i64 c.2.2.1.length)), (8, .c (.int .i64 j))], stE c id 97 c.2.2.1, 14⟩) (fun j => c.2.2.1.length - j) ⟨0, ⟨by omega, by simp⟩, ?_⟩ ?_
  · (conv => whnf); refine ⟨rfl, ?_, ?_, ?_⟩ <;> (repeat' apply And.intro) <;> first | exact trivial | rfl | exact wr_succ _ (by omega) | assumption | exact decide_eq_false (by assumption) | exact decide_eq_true (by assumption)
  rintro j ⟨hJ1, hJ2⟩
  conv => whnf
  refine ⟨fun h4 => ?_, fun h4 => ?_⟩
  · have h4 : j < c.2.2.1.length := by simp at h4; omega
    rw [idx_rd h4] at hJ2
    conv => whnf
    intro _
    conv => whnf
    refine ⟨by omega, ?_⟩
    conv => whnf
    refine ⟨by omega, ?_⟩
    conv => whnf
    rw [gt_nat (d := RD) c.2.2.1 j h4]
    refine ⟨fun h5 => ?_, fun h5 => ?_⟩
    · have hI : idxR c.2.2.1 id = j := by rw [if_pos h5] at hJ2; omega
      clear hJ2
      conv => whnf
      refine fk (by simp) ?_
      conv => whnf
      have hA : dropRS c id = ((c.1, c.2.1, c.2.2.1.take j ++ c.2.2.1.drop (j + 1), c.2.2.2.1, c.2.2.2.2), 0) := by
        unfold dropRS; rw [if_neg h1, if_pos (by omega), hI]
      rw [hA]
      intro _
      conv => whnf
      rw [wr_succ' j (by omega)]
      refine ⟨by omega, ?_⟩
      conv => whnf
      refine fk (by simp; omega) ?_
      conv => whnf
      intro _
      conv => whnf
      refine opnd 10 rfl (fun e => absurd (show c.2.2.1.length = 0 from e) (by omega)) fun z hz1 hz2 => ?_
      conv => whnf
      refine any0 ?_
      conv => whnf
      refine ⟨by omega, ?_⟩
      conv => whnf
      refine ⟨by omega, ?_⟩
      conv => whnf
      rw [Int.toNat_natCast, Int.toNat_natCast]
      refine ⟨by omega, ?_⟩
      conv => whnf
      refine ⟨.inl (by kernel_rfl), after0 ?_⟩
      conv => whnf
      intro _
      conv => whnf
      refine ⟨by omega, ?_⟩
      conv => whnf
      rw [Int.toNat_natCast, Int.toNat_natCast]
      refine ⟨by simp; omega, ?_⟩
      conv => whnf
      refine fk rfl ?_
      conv => whnf
      refine ⟨rfl, by simp; omega, ?_⟩
      conv => whnf
      refine .inl ?_
      exact congrArg (fun l => SV.tup [(true, [C.dat SD c.1, C.dat SD c.2.1, C.dat RD l, C.dat ID c.2.2.2.1, C.int .i64 c.2.2.2.2]), (false, [C.int .i64 0])]) (del_eq h4 _ _ _)
    · rw [if_neg (by simp [h5])] at hJ2
      conv => whnf
      refine ⟨j + 1, ⟨⟨by omega, by omega⟩, by omega⟩, ?_⟩
      (conv => whnf); refine ⟨rfl, ?_, ?_, ?_⟩ <;> (repeat' apply And.intro) <;> first | exact trivial | rfl | exact wr_succ _ (by omega) | assumption | exact decide_eq_false (by assumption) | exact decide_eq_true (by assumption)
  have hI : ¬ idxR c.2.2.1 id < c.2.2.1.length := by simp at h4; omega
  have hA : dropRS c id = (C0, 60) := by unfold dropRS; rw [if_neg h1, if_neg hI]
  rw [hA]
  conv => whnf
  refine tk rfl ?_
  conv => whnf
  refine tk rfl ?_
  conv => whnf
  exact .inr ⟨rfl, rfl⟩
end Go.Proofs.Ythpllblcbbkfdaa
