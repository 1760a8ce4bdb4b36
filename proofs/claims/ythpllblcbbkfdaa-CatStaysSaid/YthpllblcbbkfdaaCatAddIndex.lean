/- The walks of cat.AddIndex and cat.DropIndex. Own work. -/
import Derived.Test.YthpllblcbbkfdaaCatIndex
set_option linter.unusedVariables false
set_option maxRecDepth 100000
namespace Go.Proofs.Ythpllblcbbkfdaa
open Go Go.RowKit OE

noncomputable def inlX : Nat → Option (FI × Code) := lk [(74, fiOf Try.f74, bodyOf Try.f74),
  (100, fiOf Try.f100, bodyOf Try.f100),
  (101, fiOf Try.f101, bodyOf Try.f101),
  (102, fiOf Try.f102, bodyOf Try.f102),
  (103, fiOf Try.f103, bodyOf Try.f103),
  (99, fiOf Try.f99, bodyOf Try.f99),
  (125, fiOf Try.f125, bodyOf Try.f125),
  (129, fiOf Try.f129, bodyOf Try.f129)]
instance : InlOk inlX := inl_cons Try.func74 rfl rfl <| inl_cons Try.func100 rfl rfl <| inl_cons Try.func101 rfl rfl <| inl_cons Try.func102 rfl rfl <| inl_cons Try.func103 rfl rfl <| inl_cons Try.func99 rfl rfl <| inl_cons Try.func125 rfl rfl <| inl_cons Try.func129 rfl rfl <| inl_nil
theorem idxL_next {c : CD.T} : ∀ {l : List ID.T} {p : Option ID.T}, idxL c p l = true → ∀ i (h : i + 1 < l.length), ltIx l[i] l[i + 1] = true
  | [], _, _, i, h => by simp at h
  | [_], _, _, i, h => by simp at h
  | a :: b :: l, p, hg, i, h => by
    simp only [idxL, Bool.and_eq_true] at hg
    have h2 : idxL c (some a) (b :: l) = true := by simp only [idxL, Bool.and_eq_true]; exact hg.2
    cases i with
    | zero =>
      have := hg.2.1
      simp only [Bool.not_eq_true', Bool.or_eq_false_iff, Bool.not_eq_false'] at this
      exact this.2
    | succ i => exact idxL_next h2 i (by simpa using h)
theorem good_sort {c : CD.T} (h : goodC c = true) : SortI c.2.2.2.1 := by
  have hx : idxL c none c.2.2.2.1 = true := by
    simp only [goodC, idxS, Bool.and_eq_true] at h
    exact h.2.2.2.2.1
  have key : ∀ n i (h : i + 1 + n < c.2.2.2.1.length), ltIx c.2.2.2.1[i] c.2.2.2.1[i + 1 + n] = true := by
    intro n
    induction n with
    | zero => intro i h; exact idxL_next hx i h
    | succ n ih => intro i h; exact ltIx_trans (ih i (by omega)) (idxL_next hx (i + 1 + n) (by omega))
  intro i j hi hj hij
  have := key (j - (i + 1)) i (by omega)
  simpa only [show i + 1 + (j - (i + 1)) = j by omega] using this

/-- a catalog that is changed, and what is kept of it -/
abbrev bkI (c : CD.T) : List (Nat × Ob) := [(0, .cells 94 [.row 1, .row 2, .row 3, .row 4, .int .i64 c.2.2.2.2]), (1, .row 9 SD c.1), (2, .row 9 SD c.2.1), (3, .row 38 RD c.2.2.1), (4, .row 40 ID c.2.2.2.1)]
abbrev bkO (c : CD.T) (l : List ID.T) : List (Nat × Ob) := [(0, .cells 94 [.row 1, .row 2, .row 3, .dat ID l, .int .i64 c.2.2.2.2]), (1, .row 9 SD c.1), (2, .row 9 SD c.2.1), (3, .row 38 RD c.2.2.1)]
abbrev kpI : List (Nat × Bool) := [(0, false), (1, true), (2, true), (3, true), (4, true)]
abbrev kpO : List (Nat × Bool) := [(0, false), (1, true), (2, true), (3, true)]
theorem add_bm (c : CD.T) : FnP Try.prog 100 [.c (.ptr 0 0)] (bkI c) 5 kpI (.c (.bm 101 0 0)) (bkI c) 5 := by
  refine fnP noI Try.func100 rfl rfl rfl rfl ?_
  conv => whnf
  refine ⟨rfl, ?_, ?_, ?_⟩ <;> (repeat' apply And.intro) <;> first | exact trivial | rfl | assumption
theorem drop_bm (c : CD.T) : FnP Try.prog 102 [.c (.ptr 0 0)] (bkI c) 5 kpI (.c (.bm 103 0 0)) (bkI c) 5 := by
  refine fnP noI Try.func102 rfl rfl rfl rfl ?_
  conv => whnf
  refine ⟨rfl, ?_, ?_, ?_⟩ <;> (repeat' apply And.intro) <;> first | exact trivial | rfl | assumption
theorem slices_DeleteI (l : List ID.T) (j : Nat) (h4 : j < l.length) (hl : l.length ≤ 1000) : FnM Try.prog 129 [.c (.row 0), .c (.int .i64 j), .c (.int .i64 (j + 1 : Nat))] 40 ID l (.c (.dat ID (l.take j ++ l.drop (j + 1)))) := by
  refine fnM noI Try.func129 rfl rfl rfl ?_
  conv => whnf
  intro _
  conv => whnf
  refine ⟨by omega, ?_⟩
  conv => whnf
  refine fk (by simp; omega) ?_
  conv => whnf
  intro _
  conv => whnf
  refine opnd 0 rfl (fun e => absurd (show l.length = 0 from e) (by omega)) fun z hz1 hz2 => ?_
  conv => whnf
  refine any0 ?_
  conv => whnf
  refine ⟨by omega, ?_⟩
  conv => whnf
  refine ⟨by omega, ?_⟩
  conv => whnf
  rw [Int.toNat_natCast, Int.toNat_natCast]
  refine ⟨by omega, ?_⟩
  conv => whnf
  refine ⟨.inl (by kernel_rfl), after0 ?_⟩
  conv => whnf
  intro _
  conv => whnf
  refine ⟨by omega, ?_⟩
  conv => whnf
  rw [Int.toNat_natCast, Int.toNat_natCast]
  refine ⟨by simp; omega, ?_⟩
  conv => whnf
  refine ⟨rfl, by simp; omega, ?_⟩
  exact congrArg (fun l => SV.c (C.dat ID l)) (del_eq h4 _ _ _)
/-- what addIndex answers, of a good catalog -/
def errI (c : CD.T) (x : ID.T) : Int :=
  if nameS x.2 = false then 1
  else if hasT c.1 x.1 = false then 140
  else if x ∈ c.2.2.2.1 then 61
  else if c.2.2.2.1.length = 16 then 3
  else 0
def insI (c : CD.T) (x : ID.T) : List ID.T := c.2.2.2.1.take (posI c.2.2.2.1 x) ++ [x] ++ c.2.2.2.1.drop (posI c.2.2.2.1 x)
theorem book_add (c : CD.T) (x : ID.T) (hs : SortI c.2.2.2.1) (g4 : c.2.2.2.1.length ≤ 1000) (he : errI c x ≠ 0) : FnP Try.prog 101 [.c (.ptr 0 0), .agg (ic x)] (bkI c) 5 kpI (.c (.int .i64 (errI c x))) (bkI c) 5 := by
  refine fnP noI Try.func101 rfl rfl rfl rfl ?_
  conv => whnf
  refine any0 ?_
  conv => whnf
  refine lendr0 (slices_Binary c.2.2.2.1 x hs g4) rfl rfl ?_
  conv => whnf
  refine ⟨.inl (by kernel_rfl), after0 ?_⟩
  conv => whnf
  refine call1 (val_Name x.2) rfl ?_
  conv => whnf
  refine ⟨fun h1 => ?_, fun h1 => ?_⟩
  · have hA : errI c x = 1 := if_pos (not_t h1)
    (rw [hA]; (conv => whnf); refine ⟨rfl, ?_, ?_, ?_⟩ <;> (repeat' apply And.intro) <;> first | exact trivial | rfl | assumption)
  have h1 : ¬ nameS x.2 = false := by simp [not_f h1]
  conv => whnf
  refine any0 ?_
  conv => whnf
  refine lendr0 (schema_Has c 1 x.1) rfl rfl ?_
  conv => whnf
  refine ⟨.inl (by kernel_rfl), after0 ?_⟩
  conv => whnf
  refine ⟨fun h2 => ?_, fun h2 => ?_⟩
  · have hA : errI c x = 140 := by unfold errI; rw [if_neg h1, if_pos (not_t (show (!hasT c.1 x.1) = true from h2))]
    (rw [hA]; (conv => whnf); refine ⟨rfl, ?_, ?_, ?_⟩ <;> (repeat' apply And.intro) <;> first | exact trivial | rfl | assumption)
  have h2 : ¬ hasT c.1 x.1 = false := by
    have : (!hasT c.1 x.1) = false := h2
    simpa using this
  conv => whnf
  refine ⟨fun h3 => ?_, fun h3 => ?_⟩
  · have h3 : x ∈ c.2.2.2.1 := of_decide_eq_true h3
    have hA : errI c x = 61 := by unfold errI; rw [if_neg h1, if_neg h2, if_pos h3]
    (rw [hA]; (conv => whnf); refine ⟨rfl, ?_, ?_, ?_⟩ <;> (repeat' apply And.intro) <;> first | exact trivial | rfl | assumption)
  have h3 : ¬ x ∈ c.2.2.2.1 := of_decide_eq_false h3
  conv => whnf
  intro _
  conv => whnf
  refine ⟨fun h4 => ?_, fun h4 => ?_⟩
  · have hA : errI c x = 3 := by unfold errI; rw [if_neg h1, if_neg h2, if_neg h3, if_pos (by simp at h4; omega)]
    (rw [hA]; (conv => whnf); refine ⟨rfl, ?_, ?_, ?_⟩ <;> (repeat' apply And.intro) <;> first | exact trivial | rfl | assumption)
  have hA : errI c x = 0 := by unfold errI; rw [if_neg h1, if_neg h2, if_neg h3, if_neg (by simp at h4; omega)]
  exact absurd hA he
theorem book_ins (c : CD.T) (x : ID.T) (hs : SortI c.2.2.2.1) (g4 : c.2.2.2.1.length ≤ 1000) (he : errI c x = 0) : FnP Try.prog 101 [.c (.ptr 0 0), .agg (ic x)] (bkI c) 5 kpO (.c (.int .i64 0)) (bkO c (insI c x)) 5 := by
  refine fnP noI Try.func101 rfl rfl rfl rfl ?_
  conv => whnf
  refine any0 ?_
  conv => whnf
  refine lendr0 (slices_Binary c.2.2.2.1 x hs g4) rfl rfl ?_
  conv => whnf
  refine ⟨.inl (by kernel_rfl), after0 ?_⟩
  conv => whnf
  refine call1 (val_Name x.2) rfl ?_
  conv => whnf
  refine ⟨fun h1 => ?_, fun h1 => ?_⟩
  · have hA : errI c x = 1 := if_pos (not_t h1)
    exact absurd (hA.symm.trans he) (by decide)
  have h1 : ¬ nameS x.2 = false := by simp [not_f h1]
  conv => whnf
  refine any0 ?_
  conv => whnf
  refine lendr0 (schema_Has c 1 x.1) rfl rfl ?_
  conv => whnf
  refine ⟨.inl (by kernel_rfl), after0 ?_⟩
  conv => whnf
  refine ⟨fun h2 => ?_, fun h2 => ?_⟩
  · have hA : errI c x = 140 := by unfold errI; rw [if_neg h1, if_pos (not_t (show (!hasT c.1 x.1) = true from h2))]
    exact absurd (hA.symm.trans he) (by decide)
  have h2 : ¬ hasT c.1 x.1 = false := by
    have : (!hasT c.1 x.1) = false := h2
    simpa using this
  conv => whnf
  refine ⟨fun h3 => ?_, fun h3 => ?_⟩
  · have h3 : x ∈ c.2.2.2.1 := of_decide_eq_true h3
    have hA : errI c x = 61 := by unfold errI; rw [if_neg h1, if_neg h2, if_pos h3]
    exact absurd (hA.symm.trans he) (by decide)
  have h3 : ¬ x ∈ c.2.2.2.1 := of_decide_eq_false h3
  conv => whnf
  intro _
  conv => whnf
  refine ⟨fun h4 => ?_, fun h4 => ?_⟩
  · have hA : errI c x = 3 := by unfold errI; rw [if_neg h1, if_neg h2, if_neg h3, if_pos (by simp at h4; omega)]
    exact absurd (hA.symm.trans he) (by decide)
  have hA : errI c x = 0 := by unfold errI; rw [if_neg h1, if_neg h2, if_neg h3, if_neg (by simp at h4; omega)]
  have hlen : c.2.2.2.1.length ≠ 16 := by simp at h4; omega
  have hk : posI c.2.2.2.1 x ≤ c.2.2.2.1.length := List.findIdx_le_length
  conv => whnf
  refine any0 ?_
  conv => whnf
  refine callrm20 4 32 rfl rfl rfl (slices_InsertI c.2.2.2.1 x (posI c.2.2.2.1 x) hk g4) rfl rfl ?_
  conv => whnf
  refine ⟨.inl (by kernel_rfl), after0 ?_⟩
  conv => whnf
  refine ⟨rfl, ?_, ?_, ?_⟩ <;> (repeat' apply And.intro) <;> first | exact trivial | rfl | assumption
theorem book_drop (c : CD.T) (x : ID.T) (g4 : c.2.2.2.1.length ≤ 1000) (he : ¬ atI c.2.2.2.1 x < c.2.2.2.1.length) : FnP Try.prog 103 [.c (.ptr 0 0), .agg (ic x)] (bkI c) 5 kpI (.c (.int .i64 60)) (bkI c) 5 := by
  refine fnP noI Try.func103 rfl rfl rfl rfl ?_
  conv => whnf
  refine any0 ?_
  conv => whnf
  refine lendr0 (slices_IndexI c.2.2.2.1 x) rfl rfl ?_
  conv => whnf
  refine ⟨.inl (by kernel_rfl), after0 ?_⟩
  conv => whnf
  rw [show atS c.2.2.2.1 x = -1 from if_neg he]
  refine tk (by decide) ?_
  conv => whnf
  refine ⟨rfl, ?_, ?_, ?_⟩ <;> (repeat' apply And.intro) <;> first | exact trivial | rfl | assumption
theorem book_cut (c : CD.T) (x : ID.T) (g4 : c.2.2.2.1.length ≤ 1000) (he : atI c.2.2.2.1 x < c.2.2.2.1.length) : FnP Try.prog 103 [.c (.ptr 0 0), .agg (ic x)] (bkI c) 5 kpO (.c (.int .i64 0)) (bkO c (c.2.2.2.1.take (atI c.2.2.2.1 x) ++ c.2.2.2.1.drop (atI c.2.2.2.1 x + 1))) 5 := by
  refine fnP noI Try.func103 rfl rfl rfl rfl ?_
  conv => whnf
  refine any0 ?_
  conv => whnf
  refine lendr0 (slices_IndexI c.2.2.2.1 x) rfl rfl ?_
  conv => whnf
  refine ⟨.inl (by kernel_rfl), after0 ?_⟩
  conv => whnf
  rw [show atS c.2.2.2.1 x = (atI c.2.2.2.1 x : Int) from if_pos he]
  refine fk (by simp) ?_
  conv => whnf
  rw [wr_succ' _ (by omega)]
  refine callm0 4 rfl (slices_DeleteI c.2.2.2.1 (atI c.2.2.2.1 x) he g4) rfl rfl ?_
  conv => whnf
  refine ⟨rfl, ?_, ?_, ?_⟩ <;> (repeat' apply And.intro) <;> first | exact trivial | rfl | assumption
theorem add_err {c : CD.T} {x : ID.T} (h1 : ¬ goodC c = false) (he : errI c x ≠ 0) : addIS c x = (C0, errI c x) := by
  unfold addIS errI at *
  rw [if_neg h1]
  split
  · rfl
  · rename_i h; rw [if_neg h] at he; split
    · rfl
    · rename_i h; rw [if_neg h] at he; split
      · rfl
      · rename_i h; rw [if_neg h] at he; split
        · rfl
        · rename_i h; rw [if_neg h] at he; exact absurd rfl he
theorem add_ok {c : CD.T} {x : ID.T} (h1 : ¬ goodC c = false) (he : errI c x = 0) : addIS c x = ((c.1, c.2.1, c.2.2.1, insI c x, c.2.2.2.2), 0) := by
  unfold addIS errI at *
  rw [if_neg h1]
  split
  · rename_i h; rw [if_pos h] at he; cases he
  · rename_i h; rw [if_neg h] at he; split
    · rename_i h; rw [if_pos h] at he; cases he
    · rename_i h; rw [if_neg h] at he; split
      · rename_i h; rw [if_pos h] at he; cases he
      · rename_i h; rw [if_neg h] at he; split
        · rename_i h; rw [if_pos h] at he; cases he
        · rfl
theorem cat_AddIndex (c : CD.T) (x : ID.T) (hw : Wf CD c) (g1 : c.1.length ≤ 1000) (g2 : c.2.1.length ≤ 1000) (g3 : c.2.2.1.length ≤ 1000) (g4 : c.2.2.2.1.length ≤ 1000) :
    FnD Try.prog 48 [.agg (cc c), .agg (ic x)] (· = .tup [(true, cc (addIS c x).1), (false, [.int .i64 (addIS c x).2])]) := by
  refine FnD.cat ?_
  refine fnI inlX Try.func48 rfl rfl rfl ?_
  conv => whnf
  refine call1 (cat_Good c hw.2.2.1.2 g3) rfl ?_
  conv => whnf
  refine ⟨fun h1 => ?_, fun h1 => ?_⟩
  · have hA : addIS c x = (C0, 11) := if_pos (not_t h1)
    rw [hA]
    conv => whnf
    exact .inr ⟨rfl, rfl⟩
  have hS := good_sort (not_f h1)
  have h1 : ¬ goodC c = false := by simp [not_f h1]
  conv => whnf
  refine callo0 (own_Copy c g1 g2 g3 g4) rfl ?_
  conv => whnf
  refine any0 ?_
  conv => whnf
  refine callrp0 [13, 9, 10, 11, 12] rfl rfl rfl (add_bm c) rfl rfl rfl rfl rfl rfl ?_
  conv => whnf
  skip
  by_cases he : errI c x = 0
  · rw [add_ok h1 he]
    refine callrp0 [13, 9, 10, 11, 12] rfl rfl rfl (book_ins c x hS g4 he) rfl rfl rfl rfl rfl rfl ?_
    conv => whnf
    refine ⟨.inl (by kernel_rfl), after0 ?_⟩
    conv => whnf
    refine fk rfl ?_
    conv => whnf
    exact .inl rfl
  · rw [add_err h1 he]
    refine callrp0 [13, 9, 10, 11, 12] rfl rfl rfl (book_add c x hS g4 he) rfl rfl rfl rfl rfl rfl ?_
    conv => whnf
    refine ⟨.inl (by kernel_rfl), after0 ?_⟩
    conv => whnf
    refine tk (by rw [decide_eq_false he]; rfl) ?_
    conv => whnf
    exact .inr ⟨rfl, rfl⟩
theorem cat_DropIndex (c : CD.T) (x : ID.T) (hw : Wf CD c) (g1 : c.1.length ≤ 1000) (g2 : c.2.1.length ≤ 1000) (g3 : c.2.2.1.length ≤ 1000) (g4 : c.2.2.2.1.length ≤ 1000) :
    FnD Try.prog 50 [.agg (cc c), .agg (ic x)] (· = .tup [(true, cc (dropIS c x).1), (false, [.int .i64 (dropIS c x).2])]) := by
  refine FnD.cat ?_
  refine fnI inlX Try.func50 rfl rfl rfl ?_
  conv => whnf
  refine call1 (cat_Good c hw.2.2.1.2 g3) rfl ?_
  conv => whnf
  refine ⟨fun h1 => ?_, fun h1 => ?_⟩
  · have hA : dropIS c x = (C0, 11) := if_pos (not_t h1)
    rw [hA]
    conv => whnf
    exact .inr ⟨rfl, rfl⟩
  have hS := good_sort (not_f h1)
  have h1 : ¬ goodC c = false := by simp [not_f h1]
  conv => whnf
  refine callo0 (own_Copy c g1 g2 g3 g4) rfl ?_
  conv => whnf
  refine any0 ?_
  conv => whnf
  refine callrp0 [13, 9, 10, 11, 12] rfl rfl rfl (drop_bm c) rfl rfl rfl rfl rfl rfl ?_
  conv => whnf
  skip
  by_cases he : atI c.2.2.2.1 x < c.2.2.2.1.length
  · have hA : dropIS c x = ((c.1, c.2.1, c.2.2.1, c.2.2.2.1.take (atI c.2.2.2.1 x) ++ c.2.2.2.1.drop (atI c.2.2.2.1 x + 1), c.2.2.2.2), 0) := by
      unfold dropIS; rw [if_neg h1, if_pos he]
    rw [hA]
    refine callrp0 [13, 9, 10, 11, 12] rfl rfl rfl (book_cut c x g4 he) rfl rfl rfl rfl rfl rfl ?_
    conv => whnf
    refine ⟨.inl (by kernel_rfl), after0 ?_⟩
    conv => whnf
    refine fk rfl ?_
    conv => whnf
    exact .inl rfl
  · have hA : dropIS c x = (C0, 60) := by unfold dropIS; rw [if_neg h1, if_neg he]
    rw [hA]
    refine callrp0 [13, 9, 10, 11, 12] rfl rfl rfl (book_drop c x g4 he) rfl rfl rfl rfl rfl rfl ?_
    conv => whnf
    refine ⟨.inl (by kernel_rfl), after0 ?_⟩
    conv => whnf
    refine tk rfl ?_
    conv => whnf
    exact .inr ⟨rfl, rfl⟩
end Go.Proofs.Ythpllblcbbkfdaa
