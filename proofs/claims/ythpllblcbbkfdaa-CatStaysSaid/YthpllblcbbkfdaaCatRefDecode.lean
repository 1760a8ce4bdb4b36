/- The walk of the reference's Decode. Own work. -/
import Derived.Test.YthpllblcbbkfdaaCatDecode
set_option linter.unusedVariables false
set_option maxRecDepth 100000
namespace Go.Proofs.Ythpllblcbbkfdaa
open Go Go.RowKit OE

abbrev hpR (s : List UInt8) (a : Nat) (bad : Bool) (l1 l2 : List SD.T) (rs : List RD.T) (is : List ID.T) : List (Nat × Ob) :=
  [(0, .cells 26 cn), (1, .cells 112 (rdC s a bad)), (2, .cells 26 [.row 3, .row 4, .row 5, .row 6, .int .i64 0]),
   (3, .row 9 SD l1), (4, .row 9 SD l2), (5, .row 38 RD rs), (6, .row 40 ID is)]
theorem ref16_Decode (s : List UInt8) (hs : s.length ≤ 1000000) : FnD Try.prog 40 [.c (.str s)] (· = .tup [(true, cc (decCS s)), (false, [.int .i64 (decCE s)])]) := by
  refine FnD.cat ?_
  refine fn0 Try.func40 rfl rfl rfl ?_
  conv => whnf
  refine nilrc0 2 0 9 SD rfl rfl ?_
  conv => whnf
  refine nilrc0 2 1 9 SD rfl rfl ?_
  conv => whnf
  refine nilrc0 2 2 38 RD rfl rfl ?_
  conv => whnf
  refine nilrc0 2 3 40 ID rfl rfl ?_
  conv => whnf
  refine callh0 1 rfl ((ref16_num0 s hs)) rfl rfl rfl rfl ?_
  conv => whnf
  have h0 : Inv (decO s) (k2 s (numA s 16 0 false).1 (numA s 16 0 false).2.1 []) s.length (numA s 16 0 false).2.1 (numA s 16 0 false).2.2 := num_inv ⟨Nat.zero_le _, fun _ => rfl, fun e => (by cases e)⟩
  have v0 := numA_le s 16 0 false
  generalize numA s 16 0 false = r at h0 v0
  obtain ⟨n0, a0, b0⟩ := r
  dsimp only at h0 v0 ⊢
  refine loop0 (α := Nat × Nat × Bool × List SD.T) (fun p => p.1 + p.2.2.2.length ≤ 16 ∧ Inv (decO s) (k2 s p.1 p.2.1 p.2.2.2) s.length p.2.1 p.2.2.1)
    (fun p => ⟨[(0, .c (.str s)), (2, .c (.ptr 0 0)), (4, .c (.ptr 1 0)), (5, .c (.ptr 2 0)), (6, .c (.int .i64 p.1))], hpR s p.2.1 p.2.2.1 p.2.2.2 [] [] [], 7⟩) (fun p => p.1) ⟨(n0, a0, b0, []), ⟨by simpa using v0, h0⟩, ?_⟩ ?_
  · (conv => whnf); refine ⟨rfl, ?_, ?_, ?_⟩ <;> (repeat' apply And.intro) <;> first | exact trivial | rfl | exact wr_succ _ (by omega) | assumption | exact decide_eq_false (by assumption) | exact decide_eq_true (by assumption)
  clear h0 v0
  rintro ⟨m, e0, c0, l0⟩ ⟨hn0, hv0⟩
  dsimp only at hn0 hv0 ⊢
  have ha0 := hv0.le
  conv => whnf
  refine ⟨fun h2 => ?_, fun h2 => ?_⟩
  · obtain ⟨j, rfl⟩ : ∃ j, m = j + 1 := ⟨m - 1, by simp at h2; omega⟩
    have hI4 := nam_inv (K := (k3 s)) hv0
    conv => whnf
    refine any0 ?_
    conv => whnf
    refine callrh0 1 rfl ((ref16_text s e0 c0 hs (by omega))) rfl rfl rfl rfl ?_
    conv => whnf
    refine ⟨by show (l0.length + 1) * 16 ≤ 140737488355328; omega, ?_⟩
    conv => whnf
    refine ⟨.inl (by kernel_rfl), after0 ?_⟩
    conv => whnf
    rw [wr_prd j (by omega)]
    refine ⟨(j, (txA s e0 c0).2.1, (txA s e0 c0).2.2, l0 ++ [(txA s e0 c0).1]), ⟨⟨by dsimp only; rw [List.length_append]; simp; omega, hI4⟩, by dsimp only; omega⟩, ?_⟩
    (conv => whnf); refine ⟨rfl, ?_, ?_, ?_⟩ <;> (repeat' apply And.intro) <;> first | exact trivial | rfl | exact wr_succ _ (by omega) | assumption | exact decide_eq_false (by assumption) | exact decide_eq_true (by assumption)
  rw [show m = 0 by simp at h2; omega] at hv0
  clear h2
  conv => whnf
  refine callh0 1 rfl ((ref16_num s 16 e0 c0 hs (by omega) (by omega))) rfl rfl rfl rfl ?_
  conv => whnf
  have h1 : Inv (decO s) (k4 s l0 (numA s 16 e0 c0).1 (numA s 16 e0 c0).2.1 []) s.length (numA s 16 e0 c0).2.1 (numA s 16 e0 c0).2.2 := num_inv (K := fun n a => k4 s l0 n a []) hv0
  have v1 := numA_le s 16 e0 c0
  generalize numA s 16 e0 c0 = r at h1 v1
  obtain ⟨n1, a1, b1⟩ := r
  dsimp only at h1 v1 ⊢
  refine loop0 (α := Nat × Nat × Bool × List SD.T) (fun p => p.1 + p.2.2.2.length ≤ 16 ∧ Inv (decO s) (k4 s l0 p.1 p.2.1 p.2.2.2) s.length p.2.1 p.2.2.1)
    (fun p => ⟨[(0, .c (.str s)), (2, .c (.ptr 0 0)), (4, .c (.ptr 1 0)), (5, .c (.ptr 2 0)), (7, .c (.int .i64 p.1))], hpR s p.2.1 p.2.2.1 l0 p.2.2.2 [] [], 7⟩) (fun p => p.1) ⟨(n1, a1, b1, []), ⟨by simpa using v1, h1⟩, ?_⟩ ?_
  · (conv => whnf); refine ⟨rfl, ?_, ?_, ?_⟩ <;> (repeat' apply And.intro) <;> first | exact trivial | rfl | exact wr_succ _ (by omega) | assumption | exact decide_eq_false (by assumption) | exact decide_eq_true (by assumption)
  clear h1 v1
  rintro ⟨m, e1, c1, l1⟩ ⟨hn1, hv1⟩
  dsimp only at hn1 hv1 ⊢
  have ha1 := hv1.le
  conv => whnf
  refine ⟨fun h2 => ?_, fun h2 => ?_⟩
  · obtain ⟨j, rfl⟩ : ∃ j, m = j + 1 := ⟨m - 1, by simp at h2; omega⟩
    have hI4 := nam_inv (K := (k5 s l0)) hv1
    conv => whnf
    refine any0 ?_
    conv => whnf
    refine callrh0 1 rfl ((ref16_text s e1 c1 hs (by omega))) rfl rfl rfl rfl ?_
    conv => whnf
    refine ⟨by show (l1.length + 1) * 16 ≤ 140737488355328; omega, ?_⟩
    conv => whnf
    refine ⟨.inl (by kernel_rfl), after0 ?_⟩
    conv => whnf
    rw [wr_prd j (by omega)]
    refine ⟨(j, (txA s e1 c1).2.1, (txA s e1 c1).2.2, l1 ++ [(txA s e1 c1).1]), ⟨⟨by dsimp only; rw [List.length_append]; simp; omega, hI4⟩, by dsimp only; omega⟩, ?_⟩
    (conv => whnf); refine ⟨rfl, ?_, ?_, ?_⟩ <;> (repeat' apply And.intro) <;> first | exact trivial | rfl | exact wr_succ _ (by omega) | assumption | exact decide_eq_false (by assumption) | exact decide_eq_true (by assumption)
  rw [show m = 0 by simp at h2; omega] at hv1
  clear h2
  conv => whnf
  refine callh0 1 rfl ((ref16_num s 16 e1 c1 hs (by omega) (by omega))) rfl rfl rfl rfl ?_
  conv => whnf
  have h2 : Inv (decO s) (k6 s l0 l1 (numA s 16 e1 c1).1 (numA s 16 e1 c1).2.1 []) s.length (numA s 16 e1 c1).2.1 (numA s 16 e1 c1).2.2 := num_inv (K := fun n a => k6 s l0 l1 n a []) hv1
  have v2 := numA_le s 16 e1 c1
  generalize numA s 16 e1 c1 = r at h2 v2
  obtain ⟨n2, a2, b2⟩ := r
  dsimp only at h2 v2 ⊢
  refine loop0 (α := Nat × Nat × Bool × List RD.T) (fun p => p.1 + p.2.2.2.length ≤ 16 ∧ Inv (decO s) (k6 s l0 l1 p.1 p.2.1 p.2.2.2) s.length p.2.1 p.2.2.1)
    (fun p => ⟨[(0, .c (.str s)), (2, .c (.ptr 0 0)), (4, .c (.ptr 1 0)), (5, .c (.ptr 2 0)), (8, .c (.int .i64 p.1))], hpR s p.2.1 p.2.2.1 l0 l1 p.2.2.2 [], 7⟩) (fun p => p.1) ⟨(n2, a2, b2, []), ⟨by simpa using v2, h2⟩, ?_⟩ ?_
  · (conv => whnf); refine ⟨rfl, ?_, ?_, ?_⟩ <;> (repeat' apply And.intro) <;> first | exact trivial | rfl | exact wr_succ _ (by omega) | assumption | exact decide_eq_false (by assumption) | exact decide_eq_true (by assumption)
  clear h2 v2
  rintro ⟨m, e2, c2, l2⟩ ⟨hn2, hv2⟩
  dsimp only at hn2 hv2 ⊢
  have ha2 := hv2.le
  conv => whnf
  refine ⟨fun h2 => ?_, fun h2 => ?_⟩
  · rw [Bool.and_eq_true, Bool.not_eq_true'] at h2
    obtain ⟨h2, rfl⟩ := h2
    obtain ⟨j, rfl⟩ : ∃ j, m = j + 1 := ⟨m - 1, by simp at h2; omega⟩
    have hv3 := rul_inv (K := k7 s l0 l1) hv2
    have hle := hv3.le
    conv => whnf
    refine call1 (refrule_Decode s e2 (by omega)) rfl ?_
    conv => whnf
    refine any0 ?_
    conv => whnf
    refine ⟨.inl (by kernel_rfl), after0 ?_⟩
    conv => whnf
    rw [wr_nn e2 _ (by omega)]
    refine ⟨by show (l2.length + 1) * 96 ≤ 140737488355328; omega, ?_⟩
    conv => whnf
    rw [wr_prd j (by omega)]
    refine ⟨(j, e2 + ((decS s e2).getD (R0, 0)).2, (!(decS s e2).isSome), l2 ++ [((decS s e2).getD (R0, 0)).1]), ⟨⟨by dsimp only; rw [List.length_append]; simp; omega, hv3⟩, by dsimp only; omega⟩, ?_⟩
    (conv => whnf); refine ⟨rfl, ?_, ?_, ?_⟩ <;> (repeat' apply And.intro) <;> first | exact trivial | rfl | exact wr_succ _ (by omega) | assumption | exact decide_eq_false (by assumption) | exact decide_eq_true (by assumption)
  have hv3 : Inv (decO s) (k7 s l0 l1 l2 e2) s.length e2 c2 := by
    cases c2 with
    | true => exact ⟨hv2.le, fun e => (by cases e), hv2.no⟩
    | false =>
      have : m = 0 := by simp at h2; omega
      subst this
      exact hv2
  clear hv2 h2
  conv => whnf
  refine callh0 1 rfl ((ref16_num s 16 e2 c2 hs (by omega) (by omega))) rfl rfl rfl rfl ?_
  conv => whnf
  have h3 : Inv (decO s) (k8 s l0 l1 l2 (numA s 16 e2 c2).1 (numA s 16 e2 c2).2.1 []) s.length (numA s 16 e2 c2).2.1 (numA s 16 e2 c2).2.2 := num_inv (K := fun n a => k8 s l0 l1 l2 n a []) hv3
  have v3 := numA_le s 16 e2 c2
  generalize numA s 16 e2 c2 = r at h3 v3
  obtain ⟨n3, a3, b3⟩ := r
  dsimp only at h3 v3 ⊢
  refine loop0 (α := Nat × Nat × Bool × List ID.T) (fun p => p.1 + p.2.2.2.length ≤ 16 ∧ Inv (decO s) (k8 s l0 l1 l2 p.1 p.2.1 p.2.2.2) s.length p.2.1 p.2.2.1)
    (fun p => ⟨[(0, .c (.str s)), (2, .c (.ptr 0 0)), (4, .c (.ptr 1 0)), (5, .c (.ptr 2 0)), (10, .c (.int .i64 p.1))], hpR s p.2.1 p.2.2.1 l0 l1 l2 p.2.2.2, 7⟩) (fun p => p.1) ⟨(n3, a3, b3, []), ⟨by simpa using v3, h3⟩, ?_⟩ ?_
  · (conv => whnf); refine ⟨rfl, ?_, ?_, ?_⟩ <;> (repeat' apply And.intro) <;> first | exact trivial | rfl | exact wr_succ _ (by omega) | assumption | exact decide_eq_false (by assumption) | exact decide_eq_true (by assumption)
  clear h3 v3 hv3
  rintro ⟨m, e3, c3, l3⟩ ⟨hn3, hv3⟩
  dsimp only at hn3 hv3 ⊢
  have ha3 := hv3.le
  conv => whnf
  refine ⟨fun h2 => ?_, fun h2 => ?_⟩
  · obtain ⟨j, rfl⟩ : ∃ j, m = j + 1 := ⟨m - 1, by simp at h2; omega⟩
    have hv4 := ix_inv (K := k9 s l0 l1 l2) hv3
    have hx := txA_le s.length e3 c3 ha3
    conv => whnf
    refine callh0 1 rfl ((ref16_text s e3 c3 hs (by omega))) rfl rfl rfl rfl ?_
    conv => whnf
    refine any0 ?_
    conv => whnf
    refine callrh0 1 rfl ((ref16_text s (txA s e3 c3).2.1 (txA s e3 c3).2.2 hs (by omega))) rfl rfl rfl rfl ?_
    conv => whnf
    refine ⟨by show (l3.length + 1) * 32 ≤ 140737488355328; omega, ?_⟩
    conv => whnf
    refine ⟨.inl (by kernel_rfl), after0 ?_⟩
    conv => whnf
    rw [wr_prd j (by omega)]
    refine ⟨(j, _, _, _), ⟨⟨?_, hv4⟩, by dsimp only; omega⟩, ?_⟩
    · dsimp only; rw [List.length_append]; simp; omega
    (conv => whnf); refine ⟨rfl, ?_, ?_, ?_⟩ <;> (repeat' apply And.intro) <;> first | exact trivial | rfl | exact wr_succ _ (by omega) | assumption | exact decide_eq_false (by assumption) | exact decide_eq_true (by assumption)
  rw [show m = 0 by simp at h2; omega] at hv3
  clear h2
  conv => whnf
  refine fzc 3 rfl ?_
  conv => whnf
  refine fzc 4 rfl ?_
  conv => whnf
  refine fzc 5 rfl ?_
  conv => whnf
  refine fzc 6 rfl ?_
  conv => whnf
  refine callh0 1 rfl ((ref16_num s 1000000 e3 c3 hs (by omega) (by omega))) rfl rfl rfl rfl ?_
  conv => whnf
  have h4 : Inv (decO s) (finK s l0 l1 l2 l3 (numA s 1000000 e3 c3).1 (numA s 1000000 e3 c3).2.1) s.length (numA s 1000000 e3 c3).2.1 (numA s 1000000 e3 c3).2.2 := num_inv (K := fun nx a => finK s l0 l1 l2 l3 nx a) hv3
  generalize numA s 1000000 e3 c3 = r at h4
  obtain ⟨nx, a4, b4⟩ := r
  dsimp only at h4 ⊢
  conv => whnf
  refine callg0 (fun _ => ref16_Good (l0, l1, l2, l3, ((nx : Nat) : Int))) rfl ?_
  conv => whnf
  refine ⟨fun h5 => ?_, fun h5 => ?_⟩
  · have hD : decO s = none := by
      cases b4 with
      | true => exact h4.no rfl
      | false =>
        rw [← h4.ok rfl, finK, if_neg]
        rintro ⟨g1, g2⟩
        rw [g2, g1] at h5
        simp at h5
    rw [show decCS s = C0 by rw [decCS, hD]; rfl, show decCE s = 11 by rw [decCE, hD]; rfl]
    conv => whnf
    exact .inr ⟨rfl, rfl⟩
  · simp only [Bool.or_eq_false_iff, Bool.not_eq_false', decide_eq_true_eq] at h5
    obtain ⟨⟨g1, g2⟩, g3⟩ := h5
    have hD : decO s = some (l0, l1, l2, l3, ((nx : Nat) : Int)) := by
      rw [← h4.ok g1, finK, if_pos ⟨by omega, g3⟩]
    rw [show decCS s = (l0, l1, l2, l3, ((nx : Nat) : Int)) by rw [decCS, hD]; rfl, show decCE s = 0 by rw [decCE, hD]; rfl]
    conv => whnf
    exact .inl rfl
end Go.Proofs.Ythpllblcbbkfdaa
