/- The walk of the law AnswerDecodes. Own work. -/
import Derived.Test.YtnldokebmfojeaaGreatPart7
/- The walk of the reference's Decode. Own work. -/
set_option linter.unusedVariables false
set_option maxRecDepth 100000
namespace Go.Proofs.YtnldokebmfojeaaGreat
open Go Go.RowKit OE

abbrev hpR (s : List UInt8) (a : Nat) (bad : Bool) (l1 l2 : List SD.T) (rs : List RD.T) (is : List ID.T) : List (Nat × Ob) :=
  [(0, .cells 30 cn), (1, .cells 136 (rdC s a bad)), (2, .cells 30 [.row 3, .row 4, .row 5, .row 6, .int .i64 0]),
   (3, .row 9 SD l1), (4, .row 9 SD l2), (5, .row 120 RD rs), (6, .row 124 ID is)]
theorem ref16_Decode (s : List UInt8) (hs : s.length ≤ 1000000) : FnD Tryz.prog 31 [.c (.str s)] (· = .tup [(true, cc (decCS s)), (false, [.int .i64 (decCE s)])]) := by
  refine FnD.cat ?_
  refine fn0 Tryz.func31 rfl rfl rfl ?_
  conv => whnf
  refine nilrc0 2 0 9 SD rfl rfl ?_
  conv => whnf
  refine nilrc0 2 1 9 SD rfl rfl ?_
  conv => whnf
  refine nilrc0 2 2 120 RD rfl rfl ?_
  conv => whnf
  refine nilrc0 2 3 124 ID rfl rfl ?_
  conv => whnf
  refine callh0 1 rfl ((ref16_num0 s hs)) rfl rfl rfl rfl ?_
  conv => whnf
  have h0 : Inv (decO s) (k2 s (numA s 16 0 false).1 (numA s 16 0 false).2.1 []) s.length (numA s 16 0 false).2.1 (numA s 16 0 false).2.2 := num_inv ⟨Nat.zero_le _, fun _ => rfl, fun e => (by cases e)⟩
  have v0 := numA_le s 16 0 false
  generalize numA s 16 0 false = r at h0 v0
  obtain ⟨n0, a0, b0⟩ := r
  dsimp only at h0 v0 ⊢
  refine loop0 (α := Nat × Nat × Bool × List SD.T) (fun p => p.1 + p.2.2.2.length ≤ 16 ∧ Inv (decO s) (k2 s p.1 p.2.1 p.2.2.2) s.length p.2.1 p.2.2.1)
    (fun p => ⟨[(0, .c (.str s)), (2, .c (.ptr 0 0)), (4, .c (.ptr 1 0)), (5, .c (.ptr 2 0)), (6, .c (.int .i64 p.1))], hpR s p.2.1 p.2.2.1 p.2.2.2 [] [] [], 7⟩) (fun p => p.1) ⟨(n0, a0, b0, []), ⟨by simpa using v0, h0⟩, ?_⟩ ?_
  · (conv => whnf); refine ⟨rfl, ?_, ?_, ?_⟩ <;> (repeat' apply And.intro) <;> first | exact trivial | rfl | exact wr_succ _ (by omega) | assumption | exact decide_eq_false (by assumption) | exact decide_eq_true (by assumption)
  clear h0 v0
  rintro ⟨m, e0, c0, l0⟩ ⟨hn0, hv0⟩
  dsimp only at hn0 hv0 ⊢
  have ha0 := hv0.le
  conv => whnf
  refine ⟨fun h2 => ?_, fun h2 => ?_⟩
  · obtain ⟨j, rfl⟩ : ∃ j, m = j + 1 := ⟨m - 1, by simp at h2; omega⟩
    have hI4 := nam_inv (K := (k3 s)) hv0
    conv => whnf
    refine any0 ?_
    conv => whnf
    refine callrh0 1 rfl ((ref16_text s e0 c0 hs (by omega))) rfl rfl rfl rfl ?_
    conv => whnf
    refine ⟨by show (l0.length + 1) * 16 ≤ 140737488355328; omega, ?_⟩
    conv => whnf
    refine ⟨.inl (by kernel_rfl), after0 ?_⟩
    conv => whnf
    rw [wr_prd j (by omega)]
    refine ⟨(j, (txA s e0 c0).2.1, (txA s e0 c0).2.2, l0 ++ [(txA s e0 c0).1]), ⟨⟨by dsimp only; rw [List.length_append]; simp; omega, hI4⟩, by dsimp only; omega⟩, ?_⟩
    (conv => whnf); refine ⟨rfl, ?_, ?_, ?_⟩ <;> (repeat' apply And.intro) <;> first | exact trivial | rfl | exact wr_succ _ (by omega) | assumption | exact decide_eq_false (by assumption) | exact decide_eq_true (by assumption)
  rw [show m = 0 by simp at h2; omega] at hv0
  clear h2
  conv => whnf
  refine callh0 1 rfl ((ref16_num s 16 e0 c0 hs (by omega) (by omega))) rfl rfl rfl rfl ?_
  conv => whnf
  have h1 : Inv (decO s) (k4 s l0 (numA s 16 e0 c0).1 (numA s 16 e0 c0).2.1 []) s.length (numA s 16 e0 c0).2.1 (numA s 16 e0 c0).2.2 := num_inv (K := fun n a => k4 s l0 n a []) hv0
  have v1 := numA_le s 16 e0 c0
  generalize numA s 16 e0 c0 = r at h1 v1
  obtain ⟨n1, a1, b1⟩ := r
  dsimp only at h1 v1 ⊢
  refine loop0 (α := Nat × Nat × Bool × List SD.T) (fun p => p.1 + p.2.2.2.length ≤ 16 ∧ Inv (decO s) (k4 s l0 p.1 p.2.1 p.2.2.2) s.length p.2.1 p.2.2.1)
    (fun p => ⟨[(0, .c (.str s)), (2, .c (.ptr 0 0)), (4, .c (.ptr 1 0)), (5, .c (.ptr 2 0)), (7, .c (.int .i64 p.1))], hpR s p.2.1 p.2.2.1 l0 p.2.2.2 [] [], 7⟩) (fun p => p.1) ⟨(n1, a1, b1, []), ⟨by simpa using v1, h1⟩, ?_⟩ ?_
  · (conv => whnf); refine ⟨rfl, ?_, ?_, ?_⟩ <;> (repeat' apply And.intro) <;> first | exact trivial | rfl | exact wr_succ _ (by omega) | assumption | exact decide_eq_false (by assumption) | exact decide_eq_true (by assumption)
  clear h1 v1
  rintro ⟨m, e1, c1, l1⟩ ⟨hn1, hv1⟩
  dsimp only at hn1 hv1 ⊢
  have ha1 := hv1.le
  conv => whnf
  refine ⟨fun h2 => ?_, fun h2 => ?_⟩
  · obtain ⟨j, rfl⟩ : ∃ j, m = j + 1 := ⟨m - 1, by simp at h2; omega⟩
    have hI4 := nam_inv (K := (k5 s l0)) hv1
    conv => whnf
    refine any0 ?_
    conv => whnf
    refine callrh0 1 rfl ((ref16_text s e1 c1 hs (by omega))) rfl rfl rfl rfl ?_
    conv => whnf
    refine ⟨by show (l1.length + 1) * 16 ≤ 140737488355328; omega, ?_⟩
    conv => whnf
    refine ⟨.inl (by kernel_rfl), after0 ?_⟩
    conv => whnf
    rw [wr_prd j (by omega)]
    refine ⟨(j, (txA s e1 c1).2.1, (txA s e1 c1).2.2, l1 ++ [(txA s e1 c1).1]), ⟨⟨by dsimp only; rw [List.length_append]; simp; omega, hI4⟩, by dsimp only; omega⟩, ?_⟩
    (conv => whnf); refine ⟨rfl, ?_, ?_, ?_⟩ <;> (repeat' apply And.intro) <;> first | exact trivial | rfl | exact wr_succ _ (by omega) | assumption | exact decide_eq_false (by assumption) | exact decide_eq_true (by assumption)
  rw [show m = 0 by simp at h2; omega] at hv1
  clear h2
  conv => whnf
  refine callh0 1 rfl ((ref16_num s 16 e1 c1 hs (by omega) (by omega))) rfl rfl rfl rfl ?_
  conv => whnf
  have h2 : Inv (decO s) (k6 s l0 l1 (numA s 16 e1 c1).1 (numA s 16 e1 c1).2.1 []) s.length (numA s 16 e1 c1).2.1 (numA s 16 e1 c1).2.2 := num_inv (K := fun n a => k6 s l0 l1 n a []) hv1
  have v2 := numA_le s 16 e1 c1
  generalize numA s 16 e1 c1 = r at h2 v2
  obtain ⟨n2, a2, b2⟩ := r
  dsimp only at h2 v2 ⊢
  refine loop0 (α := Nat × Nat × Bool × List RD.T) (fun p => p.1 + p.2.2.2.length ≤ 16 ∧ Inv (decO s) (k6 s l0 l1 p.1 p.2.1 p.2.2.2) s.length p.2.1 p.2.2.1)
    (fun p => ⟨[(0, .c (.str s)), (2, .c (.ptr 0 0)), (4, .c (.ptr 1 0)), (5, .c (.ptr 2 0)), (8, .c (.int .i64 p.1))], hpR s p.2.1 p.2.2.1 l0 l1 p.2.2.2 [], 7⟩) (fun p => p.1) ⟨(n2, a2, b2, []), ⟨by simpa using v2, h2⟩, ?_⟩ ?_
  · (conv => whnf); refine ⟨rfl, ?_, ?_, ?_⟩ <;> (repeat' apply And.intro) <;> first | exact trivial | rfl | exact wr_succ _ (by omega) | assumption | exact decide_eq_false (by assumption) | exact decide_eq_true (by assumption)
  clear h2 v2
  rintro ⟨m, e2, c2, l2⟩ ⟨hn2, hv2⟩
  dsimp only at hn2 hv2 ⊢
  have ha2 := hv2.le
  conv => whnf
  refine ⟨fun h2 => ?_, fun h2 => ?_⟩
  · rw [Bool.and_eq_true, Bool.not_eq_true'] at h2
    obtain ⟨h2, rfl⟩ := h2
    obtain ⟨j, rfl⟩ : ∃ j, m = j + 1 := ⟨m - 1, by simp at h2; omega⟩
    have hv3 := rul_inv (K := k7 s l0 l1) hv2
    have hle := hv3.le
    conv => whnf
    refine call1 (refrule_Decode s e2 (by omega)) rfl ?_
    conv => whnf
    refine any0 ?_
    conv => whnf
    refine ⟨.inl (by kernel_rfl), after0 ?_⟩
    conv => whnf
    rw [wr_nn e2 _ (by omega)]
    refine ⟨by show (l2.length + 1) * 96 ≤ 140737488355328; omega, ?_⟩
    conv => whnf
    rw [wr_prd j (by omega)]
    refine ⟨(j, e2 + ((decS s e2).getD (R0, 0)).2, (!(decS s e2).isSome), l2 ++ [((decS s e2).getD (R0, 0)).1]), ⟨⟨by dsimp only; rw [List.length_append]; simp; omega, hv3⟩, by dsimp only; omega⟩, ?_⟩
    (conv => whnf); refine ⟨rfl, ?_, ?_, ?_⟩ <;> (repeat' apply And.intro) <;> first | exact trivial | rfl | exact wr_succ _ (by omega) | assumption | exact decide_eq_false (by assumption) | exact decide_eq_true (by assumption)
  have hv3 : Inv (decO s) (k7 s l0 l1 l2 e2) s.length e2 c2 := by
    cases c2 with
    | true => exact ⟨hv2.le, fun e => (by cases e), hv2.no⟩
    | false =>
      have : m = 0 := by simp at h2; omega
      subst this
      exact hv2
  clear hv2 h2
  conv => whnf
  refine callh0 1 rfl ((ref16_num s 16 e2 c2 hs (by omega) (by omega))) rfl rfl rfl rfl ?_
  conv => whnf
  have h3 : Inv (decO s) (k8 s l0 l1 l2 (numA s 16 e2 c2).1 (numA s 16 e2 c2).2.1 []) s.length (numA s 16 e2 c2).2.1 (numA s 16 e2 c2).2.2 := num_inv (K := fun n a => k8 s l0 l1 l2 n a []) hv3
  have v3 := numA_le s 16 e2 c2
  generalize numA s 16 e2 c2 = r at h3 v3
  obtain ⟨n3, a3, b3⟩ := r
  dsimp only at h3 v3 ⊢
  refine loop0 (α := Nat × Nat × Bool × List ID.T) (fun p => p.1 + p.2.2.2.length ≤ 16 ∧ Inv (decO s) (k8 s l0 l1 l2 p.1 p.2.1 p.2.2.2) s.length p.2.1 p.2.2.1)
    (fun p => ⟨[(0, .c (.str s)), (2, .c (.ptr 0 0)), (4, .c (.ptr 1 0)), (5, .c (.ptr 2 0)), (10, .c (.int .i64 p.1))], hpR s p.2.1 p.2.2.1 l0 l1 l2 p.2.2.2, 7⟩) (fun p => p.1) ⟨(n3, a3, b3, []), ⟨by simpa using v3, h3⟩, ?_⟩ ?_
  · (conv => whnf); refine ⟨rfl, ?_, ?_, ?_⟩ <;> (repeat' apply And.intro) <;> first | exact trivial | rfl | exact wr_succ _ (by omega) | assumption | exact decide_eq_false (by assumption) | exact decide_eq_true (by assumption)
  clear h3 v3 hv3
  rintro ⟨m, e3, c3, l3⟩ ⟨hn3, hv3⟩
  dsimp only at hn3 hv3 ⊢
  have ha3 := hv3.le
  conv => whnf
  refine ⟨fun h2 => ?_, fun h2 => ?_⟩
  · obtain ⟨j, rfl⟩ : ∃ j, m = j + 1 := ⟨m - 1, by simp at h2; omega⟩
    have hv4 := ix_inv (K := k9 s l0 l1 l2) hv3
    have hx := txA_le s.length e3 c3 ha3
    conv => whnf
    refine callh0 1 rfl ((ref16_text s e3 c3 hs (by omega))) rfl rfl rfl rfl ?_
    conv => whnf
    refine any0 ?_
    conv => whnf
    refine callrh0 1 rfl ((ref16_text s (txA s e3 c3).2.1 (txA s e3 c3).2.2 hs (by omega))) rfl rfl rfl rfl ?_
    conv => whnf
    refine ⟨by show (l3.length + 1) * 32 ≤ 140737488355328; omega, ?_⟩
    conv => whnf
    refine ⟨.inl (by kernel_rfl), after0 ?_⟩
    conv => whnf
    rw [wr_prd j (by omega)]
    refine ⟨(j, _, _, _), ⟨⟨?_, hv4⟩, by dsimp only; omega⟩, ?_⟩
    · dsimp only; rw [List.length_append]; simp; omega
    (conv => whnf); refine ⟨rfl, ?_, ?_, ?_⟩ <;> (repeat' apply And.intro) <;> first | exact trivial | rfl | exact wr_succ _ (by omega) | assumption | exact decide_eq_false (by assumption) | exact decide_eq_true (by assumption)
  rw [show m = 0 by simp at h2; omega] at hv3
  clear h2
  conv => whnf
  refine fzc 3 rfl ?_
  conv => whnf
  refine fzc 4 rfl ?_
  conv => whnf
  refine fzc 5 rfl ?_
  conv => whnf
  refine fzc 6 rfl ?_
  conv => whnf
  refine callh0 1 rfl ((ref16_num s 1000000 e3 c3 hs (by omega) (by omega))) rfl rfl rfl rfl ?_
  conv => whnf
  have h4 : Inv (decO s) (finK s l0 l1 l2 l3 (numA s 1000000 e3 c3).1 (numA s 1000000 e3 c3).2.1) s.length (numA s 1000000 e3 c3).2.1 (numA s 1000000 e3 c3).2.2 := num_inv (K := fun nx a => finK s l0 l1 l2 l3 nx a) hv3
  generalize numA s 1000000 e3 c3 = r at h4
  obtain ⟨nx, a4, b4⟩ := r
  dsimp only at h4 ⊢
  conv => whnf
  refine callg0 (fun _ => ref16_Good (l0, l1, l2, l3, ((nx : Nat) : Int))) rfl ?_
  conv => whnf
  refine ⟨fun h5 => ?_, fun h5 => ?_⟩
  · have hD : decO s = none := by
      cases b4 with
      | true => exact h4.no rfl
      | false =>
        rw [← h4.ok rfl, finK, if_neg]
        rintro ⟨g1, g2⟩
        rw [g2, g1] at h5
        simp at h5
    rw [show decCS s = C0 by rw [decCS, hD]; rfl, show decCE s = 11 by rw [decCE, hD]; rfl]
    conv => whnf
    exact .inr ⟨rfl, rfl⟩
  · simp only [Bool.or_eq_false_iff, Bool.not_eq_false', decide_eq_true_eq] at h5
    obtain ⟨⟨g1, g2⟩, g3⟩ := h5
    have hD : decO s = some (l0, l1, l2, l3, ((nx : Nat) : Int)) := by
      rw [← h4.ok g1, finK, if_pos ⟨by omega, g3⟩]
    rw [show decCS s = (l0, l1, l2, l3, ((nx : Nat) : Int)) by rw [decCS, hD]; rfl, show decCE s = 0 by rw [decCE, hD]; rfl]
    conv => whnf
    exact .inl rfl
end Go.Proofs.YtnldokebmfojeaaGreat
/- The walk of the reference's Decode of replies. Own work. -/
set_option linter.unusedVariables false
set_option maxRecDepth 100000
namespace Go.Proofs.YtnldokebmfojeaaGreat
open Go Go.RowKit OE

abbrev rdSt (s : List UInt8) (q : Int × Bool) (ns : List ND.T) (es : List ED.T) (is : List LD.T) (fr : List (Nat × SV)) : St :=
  ⟨(0, .c (.str s)) :: (2, .c (.ptr 0 0)) :: (3, .c (.int .i64 0)) :: (4, .c (.ptr 1 0)) :: (5, .c (.ptr 2 0)) :: fr,
    [(0, .cells 32 an), (1, .cells 72 [.str s, .int .i64 q.1, .bool (.sym q.2)]),
      (2, .cells 32 [.int .i64 (qC s).1, .int .i64 (qI s).1, .int .i64 (qR s).1, .row 3, .row 4, .row 5, .val (.slice none 0 0), .val (.slice none 0 0), .val (.slice none 0 0), .val (.slice none 0 0), .int .i64 0]),
      (3, .row 60 ND ns), (4, .row 64 ED es), (5, .row 2 LD is)], 6⟩
theorem lstR_end {α : Type} {one : Int × Bool → α × Int × Bool} {n : Nat} {acc : List α} {q : Int × Bool} (h : n = 0 ∨ q.2 = true) : lstR one n acc q = (acc, q) := by
  cases n with
  | zero => rfl
  | succ n =>
    unfold lstR
    rw [if_pos (h.resolve_left (by omega))]
theorem lstR_go {α : Type} {one : Int × Bool → α × Int × Bool} {n : Nat} {acc : List α} {q : Int × Bool} (h : q.2 = false) : lstR one (n + 1) acc q = lstR one n (acc ++ [(one q).1]) (one q).2 := by
  rw [lstR, if_neg (by rw [h]; decide)]
theorem rdT_bad {s : List UInt8} {m : Int} {q : Int × Bool} (h : (rdT s m q).2.2 = true) : (rdT s m q).1 = [] := by
  unfold rdT at h ⊢
  split
  · rfl
  · rename_i hc
    rw [if_neg hc] at h
    exact absurd (.inl h) hc
theorem rawR_wf (s : List UInt8) : Wf AD (rawR s) ∧ (aC (rawR s)).2.2.1.length ≤ 1000 := by
  have hc : Wf CD (catOf (pT s).1).1 ∧ (catOf (pT s).1).1.2.2.1.length ≤ 1000 := catOf_wf _
  exact ⟨⟨rdN_wf s _ (by decide) (by decide), rdN_wf s _ (by decide) (by decide), rdN_wf s _ (by decide) (by decide), (listR_wf s (oneN_wf s) _).2, (listR_wf s (oneE_wf s) _).2, (listR_wf (d := LD) s (oneI_wf s) _).2, hc.1⟩, hc.2⟩
theorem okR_eq (s : List UInt8) {b : Bool} {X : AD.T} (hb : badR s = b) (hX : rawR s = X) : okR' s = !(b || !decide ((pT s).2.1 = s.length) || !goodA X) := by
  unfold okR'
  rw [hb, hX]
  cases b <;> cases decide ((pT s).2.1 = s.length) <;> cases goodA X <;> rfl
theorem ref25_Decode (s : List UInt8) (hs : s.length ≤ 1000000) : FnD Tryz.prog 7 [.c (.str s)] (· = .tup [(true, ac (repA s)), (false, [.int .i64 (repE s)])]) := by
  refine FnD.ans ?_
  refine fn0 Tryz.func7 rfl rfl rfl ?_
  conv => whnf
  refine ⟨fun hx => ?_⟩
  clear hx
  refine weaken (st := ⟨[(0, .c (.str s)), (2, .c (.ptr 0 0)), (3, .c (.int .i64 0)), (4, .c (.ptr 1 0)), (5, .c (.ptr 2 0)), (17, .c (.ptr 1 0))], [(0, .cells 32 an), (1, .cells 72 [.str s, .int .i64 0, .bool (.sym false)]), (2, .cells 32 an)], 3⟩) ?_ (go0 ?_)
  · (conv => whnf); refine ⟨rfl, ?_, ?_, ?_⟩ <;> (repeat' apply And.intro) <;> first | exact trivial | rfl | exact wr_succ _ (by omega) | assumption | exact decide_eq_false (by assumption) | exact decide_eq_true (by assumption)
  conv => whnf
  refine callp0 [1] rfl rfl (rr_num s hs 1000 (0, false) (in0 s)) rfl rfl rfl rfl rfl ?_
  conv => whnf
  rw [show rdN s 1000 (0, false) = qC s from rfl]
  conv => whnf
  refine callp0 [1] rfl rfl (rr_num s hs mxI (qC s).2 (inC s)) rfl rfl rfl rfl rfl ?_
  conv => whnf
  rw [show rdN s mxI (qC s).2 = qI s from rfl]
  conv => whnf
  refine callp0 [1] rfl rfl (rr_num s hs 1000000 (qI s).2 (inI s)) rfl rfl rfl rfl rfl ?_
  conv => whnf
  rw [show rdN s 1000000 (qI s).2 = qR s from rfl]
  conv => whnf
  have hv := rdN_val s (qR s).2 (most := 1024) (by decide) (by decide)
  have hi := rdN_in (most := 1024) (inR s)
  refine callp0 [1] rfl rfl (rr_num s hs 1024 (qR s).2 (inR s)) rfl rfl rfl rfl rfl ?_
  conv => whnf
  have hR : pN s = lstR (oneN s) (rdN s 1024 (qR s).2).1.toNat [] (rdN s 1024 (qR s).2).2 := rfl
  generalize rdN s 1024 (qR s).2 = y at hv hi hR
  obtain ⟨m, q1⟩ := y
  dsimp only at hv hi hR
  obtain ⟨n, rfl⟩ := Int.eq_ofNat_of_zero_le hv.1
  rw [Int.toNat_natCast] at hR
  conv => whnf
  refine nilrl0 2 3 60 ND rfl rfl ?_
  conv => whnf
  refine nilrl0 2 4 64 ED rfl rfl ?_
  conv => whnf
  refine nilrl0 2 5 2 LD rfl rfl ?_
  conv => whnf
  refine loop0 (α := Nat × List ND.T × Int × Bool) (fun p => p.1 + p.2.1.length ≤ 1024 ∧ inS s p.2.2 ∧ lstR (oneN s) p.1 p.2.1 p.2.2 = pN s) (fun p => rdSt s p.2.2 p.2.1 [] [] [(6, .c (.int .i64 p.1))]) (fun p => p.1) ⟨(n, [], q1), ⟨by dsimp only; rw [List.length_nil]; omega, hi, hR.symm⟩, ?_⟩ ?_
  · (conv => whnf); refine ⟨rfl, ?_, ?_, ?_⟩ <;> (repeat' apply And.intro) <;> first | exact trivial | rfl | exact wr_succ _ (by omega) | assumption | exact decide_eq_false (by assumption) | exact decide_eq_true (by assumption)
  clear hR hi hv
  rintro ⟨n, acc, q⟩ ⟨hl, hq, hE⟩
  dsimp only at hl hq hE ⊢
  conv => whnf
  refine ⟨fun a => ?_, fun a => ?_⟩
  · rw [Bool.and_eq_true, decide_eq_true_eq, Bool.not_eq_true'] at a
    obtain ⟨k, rfl⟩ : ∃ k, n = k + 1 := ⟨n - 1, by omega⟩
    rw [lstR_go a.2] at hE
    conv => whnf
    have hwk := (wr_prd k (by omega)).symm
    refine callp0 [1] rfl rfl (rr_num s hs mxI q hq) rfl rfl rfl rfl rfl ?_
    conv => whnf
    refine callp0 [1] rfl rfl (rr_text s hs 16 (by decide) _ (rdN_in hq)) rfl rfl rfl rfl rfl ?_
    conv => whnf
    refine callp0 [1] rfl rfl (rr_props s hs _ (rdT_in (rdN_in hq))) rfl rfl rfl rfl rfl ?_
    conv => whnf
    refine ⟨by show (acc.length + 1) * 48 ≤ 140737488355328; omega, ?_⟩
    conv => whnf
    refine ⟨(k, acc ++ [(oneN s q).1], (oneN s q).2), ⟨⟨by dsimp only; rw [List.length_append, List.length_singleton]; omega, oneN_in hq, hE⟩, by dsimp only; omega⟩, ?_⟩
    (conv => whnf); refine ⟨rfl, ?_, ?_, ?_⟩ <;> (repeat' apply And.intro) <;> first | exact trivial | rfl | exact wr_succ _ (by omega) | assumption | exact decide_eq_false (by assumption) | exact decide_eq_true (by assumption)
  have b : n = 0 ∨ q.2 = true := by
    rw [Bool.and_eq_false_iff, decide_eq_false_iff_not, Bool.not_eq_false'] at a
    exact a.imp (fun h => by omega) id
  rw [lstR_end b] at hE
  obtain rfl : acc = (pN s).1 := congrArg Prod.fst hE
  obtain rfl : q = (pN s).2 := congrArg Prod.snd hE
  clear hE hq b hl
  conv => whnf
  have hv := rdN_val s (pN s).2 (most := 1024) (by decide) (by decide)
  have hi := rdN_in (most := 1024) (inN' s)
  refine callp0 [1] rfl rfl (rr_num s hs 1024 (pN s).2 (inN' s)) rfl rfl rfl rfl rfl ?_
  conv => whnf
  have hR : pE s = lstR (oneE s) (rdN s 1024 (pN s).2).1.toNat [] (rdN s 1024 (pN s).2).2 := rfl
  generalize rdN s 1024 (pN s).2 = y at hv hi hR
  obtain ⟨m, q1⟩ := y
  dsimp only at hv hi hR
  obtain ⟨n, rfl⟩ := Int.eq_ofNat_of_zero_le hv.1
  rw [Int.toNat_natCast] at hR
  conv => whnf
  refine loop0 (α := Nat × List ED.T × Int × Bool) (fun p => p.1 + p.2.1.length ≤ 1024 ∧ inS s p.2.2 ∧ lstR (oneE s) p.1 p.2.1 p.2.2 = pE s) (fun p => rdSt s p.2.2 (pN s).1 p.2.1 [] [(8, .c (.int .i64 p.1))]) (fun p => p.1) ⟨(n, [], q1), ⟨by dsimp only; rw [List.length_nil]; omega, hi, hR.symm⟩, ?_⟩ ?_
  · (conv => whnf); refine ⟨rfl, ?_, ?_, ?_⟩ <;> (repeat' apply And.intro) <;> first | exact trivial | rfl | exact wr_succ _ (by omega) | assumption | exact decide_eq_false (by assumption) | exact decide_eq_true (by assumption)
  clear hR hi hv
  rintro ⟨n, acc, q⟩ ⟨hl, hq, hE⟩
  dsimp only at hl hq hE ⊢
  conv => whnf
  refine ⟨fun a => ?_, fun a => ?_⟩
  · rw [Bool.and_eq_true, decide_eq_true_eq, Bool.not_eq_true'] at a
    obtain ⟨k, rfl⟩ : ∃ k, n = k + 1 := ⟨n - 1, by omega⟩
    rw [lstR_go a.2] at hE
    conv => whnf
    have hwk := (wr_prd k (by omega)).symm
    refine callp0 [1] rfl rfl (rr_num s hs mxI q hq) rfl rfl rfl rfl rfl ?_
    conv => whnf
    refine callp0 [1] rfl rfl (rr_text s hs 16 (by decide) _ (rdN_in hq)) rfl rfl rfl rfl rfl ?_
    conv => whnf
    refine callp0 [1] rfl rfl (rr_num s hs mxI _ (rdT_in (rdN_in hq))) rfl rfl rfl rfl rfl ?_
    conv => whnf
    refine callp0 [1] rfl rfl (rr_num s hs mxI _ (rdN_in (rdT_in (rdN_in hq)))) rfl rfl rfl rfl rfl ?_
    conv => whnf
    refine callp0 [1] rfl rfl (rr_props s hs _ (rdN_in (rdN_in (rdT_in (rdN_in hq))))) rfl rfl rfl rfl rfl ?_
    conv => whnf
    refine ⟨by show (acc.length + 1) * 64 ≤ 140737488355328; omega, ?_⟩
    conv => whnf
    refine ⟨(k, acc ++ [(oneE s q).1], (oneE s q).2), ⟨⟨by dsimp only; rw [List.length_append, List.length_singleton]; omega, oneE_in hq, hE⟩, by dsimp only; omega⟩, ?_⟩
    (conv => whnf); refine ⟨rfl, ?_, ?_, ?_⟩ <;> (repeat' apply And.intro) <;> first | exact trivial | rfl | exact wr_succ _ (by omega) | assumption | exact decide_eq_false (by assumption) | exact decide_eq_true (by assumption)
  have b : n = 0 ∨ q.2 = true := by
    rw [Bool.and_eq_false_iff, decide_eq_false_iff_not, Bool.not_eq_false'] at a
    exact a.imp (fun h => by omega) id
  rw [lstR_end b] at hE
  obtain rfl : acc = (pE s).1 := congrArg Prod.fst hE
  obtain rfl : q = (pE s).2 := congrArg Prod.snd hE
  clear hE hq b hl
  conv => whnf
  have hv := rdN_val s (pE s).2 (most := 1024) (by decide) (by decide)
  have hi := rdN_in (most := 1024) (inE' s)
  refine callp0 [1] rfl rfl (rr_num s hs 1024 (pE s).2 (inE' s)) rfl rfl rfl rfl rfl ?_
  conv => whnf
  have hR : pD s = lstR (oneI s) (rdN s 1024 (pE s).2).1.toNat [] (rdN s 1024 (pE s).2).2 := rfl
  generalize rdN s 1024 (pE s).2 = y at hv hi hR
  obtain ⟨m, q1⟩ := y
  dsimp only at hv hi hR
  obtain ⟨n, rfl⟩ := Int.eq_ofNat_of_zero_le hv.1
  rw [Int.toNat_natCast] at hR
  conv => whnf
  refine loop0 (α := Nat × List LD.T × Int × Bool) (fun p => p.1 + p.2.1.length ≤ 1024 ∧ inS s p.2.2 ∧ lstR (oneI s) p.1 p.2.1 p.2.2 = pD s) (fun p => rdSt s p.2.2 (pN s).1 (pE s).1 p.2.1 [(10, .c (.int .i64 p.1))]) (fun p => p.1) ⟨(n, [], q1), ⟨by dsimp only; rw [List.length_nil]; omega, hi, hR.symm⟩, ?_⟩ ?_
  · (conv => whnf); refine ⟨rfl, ?_, ?_, ?_⟩ <;> (repeat' apply And.intro) <;> first | exact trivial | rfl | exact wr_succ _ (by omega) | assumption | exact decide_eq_false (by assumption) | exact decide_eq_true (by assumption)
  clear hR hi hv
  rintro ⟨n, acc, q⟩ ⟨hl, hq, hE⟩
  dsimp only at hl hq hE ⊢
  conv => whnf
  refine ⟨fun a => ?_, fun a => ?_⟩
  · rw [Bool.and_eq_true, decide_eq_true_eq, Bool.not_eq_true'] at a
    obtain ⟨k, rfl⟩ : ∃ k, n = k + 1 := ⟨n - 1, by omega⟩
    rw [lstR_go a.2] at hE
    conv => whnf
    have hwk := (wr_prd k (by omega)).symm
    refine any0 ?_
    conv => whnf
    refine callrp0 [1] rfl rfl rfl (rr_num s hs mxI q hq) rfl rfl rfl rfl rfl rfl [] rfl rfl ?_
    conv => whnf
    refine ⟨by show (acc.length + 1) * 8 ≤ 140737488355328; omega, ?_⟩
    conv => whnf
    refine ⟨.inl (by kernel_rfl), after0 ?_⟩
    conv => whnf
    refine ⟨(k, acc ++ [(oneI s q).1], (oneI s q).2), ⟨⟨by dsimp only; rw [List.length_append, List.length_singleton]; omega, oneI_in hq, hE⟩, by dsimp only; omega⟩, ?_⟩
    (conv => whnf); refine ⟨rfl, ?_, ?_, ?_⟩ <;> (repeat' apply And.intro) <;> first | exact trivial | rfl | exact wr_succ _ (by omega) | assumption | exact decide_eq_false (by assumption) | exact decide_eq_true (by assumption)
  have b : n = 0 ∨ q.2 = true := by
    rw [Bool.and_eq_false_iff, decide_eq_false_iff_not, Bool.not_eq_false'] at a
    exact a.imp (fun h => by omega) id
  rw [lstR_end b] at hE
  obtain rfl : acc = (pD s).1 := congrArg Prod.fst hE
  obtain rfl : q = (pD s).2 := congrArg Prod.snd hE
  clear hE hq b hl
  conv => whnf
  refine fzc 3 rfl ?_
  conv => whnf
  refine fzc 4 rfl ?_
  conv => whnf
  refine fzc 5 rfl ?_
  conv => whnf
  refine ⟨fun hx => ?_⟩
  clear hx
  refine weaken (st := ⟨[(0, .c (.str s)), (2, .c (.ptr 0 0)), (3, .c (.int .i64 0)), (4, .c (.ptr 1 0)), (5, .c (.ptr 2 0)), (108, .c (.ptr 1 0))],
    [(0, .cells 32 an), (1, .cells 72 [.str s, .int .i64 (pD s).2.1, .bool (.sym (pD s).2.2)]), (2, .cells 32 (ac ((qC s).1, (qI s).1, (qR s).1, (pN s).1, (pE s).1, (pD s).1, C0)))], 3⟩) ?_ (go0 ?_)
  · (conv => whnf); refine ⟨rfl, ?_, ?_, ?_⟩ <;> (repeat' apply And.intro) <;> first | exact trivial | rfl | exact wr_succ _ (by omega) | assumption | exact decide_eq_false (by assumption) | exact decide_eq_true (by assumption)
  conv => whnf
  refine callp0 [1] rfl rfl (rr_text s hs 1073741824 (by decide) (pD s).2 (inD' s)) rfl rfl rfl rfl rfl ?_
  conv => whnf
  rw [show rdT s 1073741824 (pD s).2 = pT s from rfl]
  conv => whnf
  refine ⟨fun z => ?_, fun z => ?_⟩
  · have z : (!decide ((pT s).1 = []) && !(pT s).2.2) = true := z
    rw [Bool.and_eq_true, Bool.not_eq_true', Bool.not_eq_true', decide_eq_false_iff_not] at z
    have hc : catOf (pT s).1 = (decCS (pT s).1, !decide (decCE (pT s).1 = 0)) := if_neg z.1
    have hl : (pT s).1.length ≤ 1000000 := by
      rw [pT_q (by omega)]
      have : ((qT s).1.length : Int) ≤ s.length := rdT_le s s.length _ (by omega)
      omega
    conv => whnf
    refine call1 (ref16_Decode (pT s).1 hl) rfl ?_
    conv => whnf
    have hX : rawR s = ((qC s).1, (qI s).1, (qR s).1, (pN s).1, (pE s).1, (pD s).1, decCS (pT s).1) := by unfold rawR; rw [hc]
    refine callg0 (fun _ => ref25_Good ((qC s).1, (qI s).1, (qR s).1, (pN s).1, (pE s).1, (pD s).1, decCS (pT s).1)) rfl ?_
    conv => whnf
    have hk := okR_eq s (b := (!decide (decCE (pT s).1 = 0))) (by unfold badR; rw [hc]; rw [z.2]; rfl) hX
    refine ⟨fun f => ?_, fun f => ?_⟩
    · have f : ((!decide (decCE (pT s).1 = 0)) || !decide ((pT s).2.1 = s.length) || !goodA ((qC s).1, (qI s).1, (qR s).1, (pN s).1, (pE s).1, (pD s).1, decCS (pT s).1)) = true := f
      have hk : okA s = false := by rw [← ok_same (by omega), hk, f]; rfl
      rw [show repA s = A0 from if_neg (by rw [hk]; decide), show repE s = 11 from if_neg (by rw [hk]; decide)]
      conv => whnf
      exact .inr ⟨rfl, rfl⟩
    · have f : ((!decide (decCE (pT s).1 = 0)) || !decide ((pT s).2.1 = s.length) || !goodA ((qC s).1, (qI s).1, (qR s).1, (pN s).1, (pE s).1, (pD s).1, decCS (pT s).1)) = false := f
      have hk : okR' s = true := by rw [hk, f]; rfl
      rw [show repA s = ((qC s).1, (qI s).1, (qR s).1, (pN s).1, (pE s).1, (pD s).1, decCS (pT s).1) by rw [← dec_same (by omega), if_pos hk, hX], show repE s = 0 from if_pos (by rw [← ok_same (by omega), hk])]
      conv => whnf
      exact .inl rfl
  · have z : (!decide ((pT s).1 = []) && !(pT s).2.2) = false := z
    have z : (pT s).1 = [] := by
      rw [Bool.and_eq_false_iff, Bool.not_eq_false', Bool.not_eq_false', decide_eq_true_eq] at z
      exact z.elim id rdT_bad
    have hc : catOf (pT s).1 = (C0, false) := if_pos z
    conv => whnf
    have hX : rawR s = ((qC s).1, (qI s).1, (qR s).1, (pN s).1, (pE s).1, (pD s).1, C0) := by unfold rawR; rw [hc]
    refine callg0 (fun _ => ref25_Good ((qC s).1, (qI s).1, (qR s).1, (pN s).1, (pE s).1, (pD s).1, C0)) rfl ?_
    conv => whnf
    have hk := okR_eq s (b := (pT s).2.2) (by unfold badR; rw [hc]; exact Bool.or_false _) hX
    refine ⟨fun f => ?_, fun f => ?_⟩
    · have f : ((pT s).2.2 || !decide ((pT s).2.1 = s.length) || !goodA ((qC s).1, (qI s).1, (qR s).1, (pN s).1, (pE s).1, (pD s).1, C0)) = true := f
      have hk : okA s = false := by rw [← ok_same (by omega), hk, f]; rfl
      rw [show repA s = A0 from if_neg (by rw [hk]; decide), show repE s = 11 from if_neg (by rw [hk]; decide)]
      conv => whnf
      exact .inr ⟨rfl, rfl⟩
    · have f : ((pT s).2.2 || !decide ((pT s).2.1 = s.length) || !goodA ((qC s).1, (qI s).1, (qR s).1, (pN s).1, (pE s).1, (pD s).1, C0)) = false := f
      have hk : okR' s = true := by rw [hk, f]; rfl
      rw [show repA s = ((qC s).1, (qI s).1, (qR s).1, (pN s).1, (pE s).1, (pD s).1, C0) by rw [← dec_same (by omega), if_pos hk, hX], show repE s = 0 from if_pos (by rw [← ok_same (by omega), hk])]
      conv => whnf
      exact .inl rfl
end Go.Proofs.YtnldokebmfojeaaGreat
/- The walk of the reference's Next at the length of a reply. Own work. -/
set_option linter.unusedVariables false
set_option maxRecDepth 100000
namespace Go.Proofs.YtnldokebmfojeaaGreat
open Go Go.RowKit OE

/-- a length and what is behind it -/
def finM (s : List UInt8) (n k : Nat) : List UInt8 × Int × Int :=
  if s.length < n + k then ([], 0, 0) else ((s.drop k).take n, ((k + n : Nat) : Int), 0)
theorem getN_zero (s : List UInt8) : Num.getN s 0 = Num.getL s 0 0 := by
  unfold Num.getN
  rw [if_neg (by omega)]
  rfl
theorem nx_some {s : List UInt8} {n k : Nat} (h : Num.getN s 0 = some (n, k)) (hn : n ≤ 16777215) : nextA s = finM s n k := by
  have h1 : nS s 0 = (n, k) := by unfold nS; rw [h]; rfl
  unfold nextA
  have h2 : ¬ ((some (n, k) : Option (Nat × Nat)).isSome = false ∧ lackA s = true) := fun h => by cases h.1
  have h3 : ¬ ((some (n, k) : Option (Nat × Nat)).isSome = false ∨ (16777216 : Int) ≤ ((n, k) : Nat × Nat).1) := by
    rintro (h | h)
    · cases h
    · dsimp only at h; omega
  rw [h1, h, if_neg h2, if_neg h3]
  rfl
theorem nx_bad {s : List UInt8} (h : ∀ n k, Num.getN s 0 = some (n, k) → 16777216 ≤ n) (hl : lackA s = false) : nextA s = ([], 0, 11) := by
  unfold nextA
  rw [if_neg (by rintro ⟨_, h⟩; rw [hl] at h; cases h), if_pos]
  cases hg : Num.getN s 0 with
  | none => exact .inl rfl
  | some p =>
    have := h p.1 p.2 hg
    have h1 : nS s 0 = p := by unfold nS; rw [hg]; rfl
    rw [h1]
    exact .inr (by omega)
theorem nx_lack {s : List UInt8} (h : Num.getN s 0 = none) (hl : lackA s = true) : nextA s = ([], 0, 0) := by
  unfold nextA
  rw [if_pos ⟨by rw [h]; rfl, hl⟩]
abbrev nxR (p : List UInt8 × Int × Int) : SV := .tup [(true, [.str p.1, .int .i64 p.2.1]), (false, [.int .i64 p.2.2])]
theorem pow_le4 {i : Nat} (h : i ≤ 4) : 128 ^ i ≤ 268435456 := Nat.pow_le_pow_right (n := 128) (by decide) h
theorem refans_Next (s : List UInt8) (hs : s.length ≤ 1000000) : FnD Tryz.prog 9 [.c (.str s), .c (.int .i64 16777215)] (· = nxR (nextA s)) := by
  refine fn0 Tryz.func9 rfl rfl rfl ?_
  conv => whnf
  refine loop0 (α := Nat × Nat) (fun p => p.1 ≤ 4 ∧ p.2 < 128 ^ p.1 ∧ p.1 ≤ s.length ∧ Num.getL (s.drop p.1) p.1 p.2 = Num.getN s 0 ∧ ∀ j (hj : j < s.length), j < p.1 → 128 ≤ s[j].toNat)
    (fun p => ⟨[(0, .c (.str s)), (1, .c (.int .i64 16777215)), (4, .c (.ptr 0 0)), (5, .c (.int .i64 0)), (6, .c (.int .i64 p.2)), (7, .c (.int .i64 ((128 ^ p.1 : Nat) : Int))), (8, .c (.int .i64 p.1))], [(0, .cells 41 [.str [], .int .i64 0])], 1⟩) (fun p => 5 - p.1) ⟨(0, 0), ⟨by dsimp only; omega, by decide, Nat.zero_le _, (getN_zero s).symm, fun _ _ h => by cases h⟩, ?_⟩ ?_
  · (conv => whnf); refine ⟨rfl, ?_, ?_, ?_⟩ <;> (repeat' apply And.intro) <;> first | exact trivial | rfl | exact wr_succ _ (by omega) | assumption | exact decide_eq_false (by assumption) | exact decide_eq_true (by assumption)
  rintro ⟨i, n⟩ ⟨hI1, hI2, hI3, hI5, hI4⟩
  dsimp only at hI1 hI2 hI3 hI5 hI4 ⊢
  have hpw := pow_le4 hI1
  have h128 : i ≤ 3 ∧ 128 ^ i ≤ 2097152 ∨ i = 4 ∧ 128 ^ i = 268435456 := by
    rcases Nat.lt_or_ge i 4 with h | h
    · exact .inl ⟨by omega, pow_le3 (by omega)⟩
    · have : i = 4 := by omega
      subst this
      exact .inr ⟨rfl, rfl⟩
  have hlow : i ≤ 2 → 128 ^ i ≤ 16384 := fun h => Nat.le_trans (Nat.pow_le_pow_right (n := 128) (by decide) h) (by decide)
  conv => whnf
  refine ⟨fun h4 => ?_, fun h4 => ?_⟩
  · have h4 : i = s.length := by rw [decide_eq_true_eq] at h4; omega
    have hnone : Num.getN s 0 = none := by rw [← hI5, List.drop_of_length_le (by omega)]; rfl
    conv => whnf
    refine ⟨fun h5 => ?_, fun h5 => ?_⟩
    · have h5 : 16777215 < 128 ^ i := by
        rw [Bool.and_eq_true, decide_eq_true_eq, decide_eq_true_eq] at h5; omega
      rw [nx_bad (s := s) (fun n k h => by rw [hnone] at h; cases h) (long_no (by omega))]
      conv => whnf
    · have h5 : i ≤ 3 := by
        rw [Bool.and_eq_false_iff, decide_eq_false_iff_not, decide_eq_false_iff_not] at h5; omega
      rw [nx_lack hnone (all_ge (i := i) (by omega) (fun j hj h => hI4 j hj h) (by omega))]
      try conv => whnf
  have h4 : i < s.length := by rw [decide_eq_false_iff_not] at h4; omega
  have hb : bt s (i : Int) = ((s[i]).toNat : Int) := bt_nat s i h4
  have hc := (s[i]).toNat_lt
  have hL : Num.getN s 0 = if i = 9 ∧ s[i].toNat ≠ 1 ∨ s[i].toNat = 0 ∧ 0 < i then none
      else if s[i].toNat < 128 then some (n + s[i].toNat % 128 * 128 ^ i, i + 1) else Num.getL (s.drop (i + 1)) (i + 1) (n + s[i].toNat % 128 * 128 ^ i) := by
    rw [← hI5, List.drop_eq_getElem_cons h4]
    rfl
  have hle : s[i].toNat % 128 * 128 ^ i ≤ 127 * 128 ^ i := Nat.mul_le_mul_right _ (by omega)
  conv => whnf
  refine ⟨by omega, ?_⟩
  conv => whnf
  rw [hb, wr64 ((s[i]).toNat : Int) (by omega) (by omega)]
  refine ⟨fun h5 => ?_, fun h5 => ?_⟩
  · have : nextA s = ([], 0, 11) := by
      rw [Bool.or_eq_true, Bool.and_eq_true, decide_eq_true_eq, decide_eq_true_eq, decide_eq_true_eq] at h5
      by_cases h6 : i = 4
      · refine nx_bad (fun N k hg => ?_) (long_no (by omega))
        rw [← hI5] at hg
        obtain ⟨m, e, _, h2, _⟩ := Num.getL_take hg
        have hp4 : 128 ^ i = 268435456 := by rw [h6]
        rw [hp4] at e
        rcases h2 with h2 | h2 <;> omega
      · have h7 : 0 < i ∧ s[i].toNat = 0 := by omega
        rw [if_pos (.inr ⟨h7.2, h7.1⟩)] at hL
        exact nx_bad (fun N k hg => by rw [hL] at hg; cases hg) (all_lt h4 (by omega))
    rw [this]
    conv => whnf
  have h5 : i ≤ 3 ∧ (0 < i → s[i].toNat ≠ 0) := by
    rw [Bool.or_eq_false_iff, Bool.and_eq_false_iff, decide_eq_false_iff_not, decide_eq_false_iff_not, decide_eq_false_iff_not] at h5
    omega
  rw [if_neg (by omega)] at hL
  conv => whnf
  have hM : IntKind.wrap .i64 ((n : Int) + IntKind.wrap .i64 (((s[i].toNat : Nat) : Int).tmod 128 * ((128 ^ i : Nat) : Int))) = ((n + s[i].toNat % 128 * 128 ^ i : Nat) : Int) := by
    have e : ((s[i].toNat : Nat) : Int).tmod 128 * ((128 ^ i : Nat) : Int) = ((s[i].toNat % 128 * 128 ^ i : Nat) : Int) := by
      rw [Int.tmod_eq_emod_of_nonneg (by omega), Int.natCast_mul]; rfl
    rw [e, wr64 ((s[i].toNat % 128 * 128 ^ i : Nat) : Int) (by omega) (by omega), wr64 _ (by omega) (by omega)]
    omega
  have e8 : IntKind.wrap .i64 ((i : Int) + 1) = ((i + 1 : Nat) : Int) := by rw [wr64 _ (by omega) (by omega)]; omega
  have e9 : IntKind.wrap .i64 (((128 ^ i : Nat) : Int) * 128) = ((128 ^ (i + 1) : Nat) : Int) := by
    rw [Nat.pow_succ, wr64 _ (by omega) (by omega)]; omega
  conv => whnf
  refine ⟨by decide, ?_⟩
  conv => whnf
  rw [hM]
  refine ⟨fun h6 => ?_, fun h6 => ?_⟩
  · have h6 : 16777215 < n + s[i].toNat % 128 * 128 ^ i := by rw [decide_eq_true_eq] at h6; omega
    have hi3 : ¬ i ≤ 2 := fun h => by have := hlow h; omega
    rw [nx_bad (s := s) (fun N k hg => by
      rw [hL] at hg
      split at hg
      · simp only [Option.some.injEq, Prod.mk.injEq] at hg
        omega
      · obtain ⟨m, e, _, _, _⟩ := Num.getL_take hg
        omega) (long_no (by omega))]
    conv => whnf
  have h6 : n + s[i].toNat % 128 * 128 ^ i ≤ 16777215 := by rw [decide_eq_false_iff_not] at h6; omega
  conv => whnf
  refine ⟨fun h7 => ?_, fun h7 => ?_⟩
  · have h7 : s[i].toNat < 128 := by rw [decide_eq_true_eq] at h7; omega
    rw [if_pos h7] at hL
    rw [nx_some hL h6]
    generalize n + s[i].toNat % 128 * 128 ^ i = M at h6
    unfold finM
    conv => whnf
    have e10 : IntKind.wrap .i64 ((s.length : Int) - IntKind.wrap .i64 ((i : Int) + 1)) = (s.length : Int) - ((i + 1 : Nat) : Int) := by rw [e8, wr64 _ (by omega) (by omega)]
    rw [e10]
    refine ⟨fun c => ?_, fun c => ?_⟩
    · have c : s.length < M + (i + 1) := by rw [decide_eq_true_eq] at c; omega
      rw [if_pos c]
      conv => whnf
    have c : ¬ s.length < M + (i + 1) := by rw [decide_eq_false_iff_not] at c; omega
    rw [if_neg c]
    conv => whnf
    rw [e8, show IntKind.wrap .i64 (((i + 1 : Nat) : Int) + (M : Int)) = ((i + 1 + M : Nat) : Int) by rw [wr64 _ (by omega) (by omega)]; omega]
    refine ⟨⟨⟨by omega, by omega⟩, by omega, by omega⟩, ?_⟩
    conv => whnf
    rw [Int.toNat_natCast, Int.toNat_natCast, List.drop_take, show i + 1 + M - (i + 1) = M by omega]
    try rw [show IntKind.wrap .i64 (((i + 1 : Nat) : Int) + (M : Int)) = ((i + 1 + M : Nat) : Int) by rw [wr64 _ (by omega) (by omega)]; omega]
  · have h7 : 128 ≤ s[i].toNat := by rw [decide_eq_false_iff_not] at h7; omega
    rw [if_neg (by omega)] at hL
    conv => whnf
    rw [e8, e9]
    refine ⟨(i + 1, n + s[i].toNat % 128 * 128 ^ i), ⟨⟨by dsimp only; omega, by dsimp only; rw [Nat.pow_succ]; omega, by dsimp only; omega, hL.symm, fun j hj hji => ?_⟩, by dsimp only; omega⟩, ?_⟩
    · dsimp only at hji
      rcases Nat.lt_or_ge j i with h | h
      · exact hI4 j hj h
      · have : j = i := by omega
        subst this
        exact h7
    (conv => whnf); refine ⟨rfl, ?_, ?_, ?_⟩ <;> (repeat' apply And.intro) <;> first | exact trivial | rfl | exact wr_succ _ (by omega) | assumption | exact decide_eq_false (by assumption) | exact decide_eq_true (by assumption)
end Go.Proofs.YtnldokebmfojeaaGreat
set_option linter.unusedVariables false
set_option maxRecDepth 100000
namespace Go.Proofs.YtnldokebmfojeaaGreat
open Go Go.RowKit OE

theorem row_AnswerDecodes (s : List UInt8) (hs : s.length ≤ 140737488351232) :
    FnD Tryz.prog 3 [.c (.str s)] (· = .c (.bool (.sym true))) := by
  refine fn0 Tryz.func3 rfl rfl rfl ?_
  conv => whnf
  refine ⟨fun a => ?_, fun a => ?_⟩
  · conv => whnf
    refine call1 (ans_wakes) rfl ?_
    conv => whnf
  have hl : s.length ≤ 1000000 := by rw [decide_eq_false_iff_not] at a; omega
  conv => whnf
  refine call1 (ans_Decode s hl) rfl ?_
  conv => whnf
  refine call1 (ref25_Decode s hl) rfl ?_
  conv => whnf
  refine call1 (ans_Next s hl) rfl ?_
  conv => whnf
  refine call1 (refans_Next s hl) rfl ?_
  conv => whnf
  refine call1 (keep_Reply (repA s) (repA s)) rfl ?_
  conv => whnf
  refine callg0 (fun _ => ans_wakes) rfl ?_
  conv => whnf
  rw [eqA_same]
  simp
end Go.Proofs.YtnldokebmfojeaaGreat
