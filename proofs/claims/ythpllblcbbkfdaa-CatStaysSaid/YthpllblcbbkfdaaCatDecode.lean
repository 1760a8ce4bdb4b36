/- The catalog of bytes; the walk of cat.Decode. Own work. -/
import Derived.Test.YthpllblcbbkfdaaCatReader
import Derived.Test.YthpllblcbbkfdaaCatChange
set_option linter.unusedVariables false
set_option maxRecDepth 100000
namespace Go.Proofs.Ythpllblcbbkfdaa
open Go Go.RowKit OE

/-! what is still to be read, as a continuation -/
def numK (s : List UInt8) (most a : Nat) (K : Nat → Nat → Option CD.T) : Option CD.T := match Num.getN s a with | none => none | some p => if p.1 ≤ most then K p.1 (a + p.2) else none
def namK (s : List UInt8) : Nat → Nat → List SD.T → (List SD.T → Nat → Option CD.T) → Option CD.T
  | 0, a, l, K => K l a
  | n + 1, a, l, K => match Num.getT s a 16 with | none => none | some p => namK s n (a + p.2) (l ++ [p.1]) K
def rulK (s : List UInt8) : Nat → Nat → List RD.T → (List RD.T → Nat → Option CD.T) → Option CD.T
  | 0, a, l, K => K l a
  | n + 1, a, l, K => match decS s a with | none => none | some p => rulK s n (a + p.2) (l ++ [p.1]) K
def ixK (s : List UInt8) : Nat → Nat → List ID.T → (List ID.T → Nat → Option CD.T) → Option CD.T
  | 0, a, l, K => K l a
  | n + 1, a, l, K => match Num.getT s a 16 with
    | none => none
    | some p => match Num.getT s (a + p.2 : Nat) 16 with
      | none => none
      | some q => ixK s n (a + p.2 + q.2) (l ++ [(p.1, q.1)]) K
def finK (s : List UInt8) (l1 l2 : List SD.T) (rs : List RD.T) (is : List ID.T) (nx a : Nat) : Option CD.T :=
  if a = s.length ∧ goodC (l1, l2, rs, is, ((nx : Nat) : Int)) = true then some (l1, l2, rs, is, ((nx : Nat) : Int)) else none
def k9 (s l1 l2 rs is) (a : Nat) := numK s 1000000 a fun nx a => finK s l1 l2 rs is nx a
def k8 (s l1 l2 rs) (n a : Nat) (l : List ID.T) := ixK s n a l fun is a => k9 s l1 l2 rs is a
def k7 (s l1 l2 rs) (a : Nat) := numK s 16 a fun n a => k8 s l1 l2 rs n a []
def k6 (s l1 l2) (n a : Nat) (l : List RD.T) := rulK s n a l fun rs a => k7 s l1 l2 rs a
def k5 (s l1 l2) (a : Nat) := numK s 16 a fun n a => k6 s l1 l2 n a []
def k4 (s l1) (n a : Nat) (l : List SD.T) := namK s n a l fun l2 a => k5 s l1 l2 a
def k3 (s l1) (a : Nat) := numK s 16 a fun n a => k4 s l1 n a []
def k2 (s) (n a : Nat) (l : List SD.T) := namK s n a l fun l1 a => k3 s l1 a
def decO (s : List UInt8) : Option CD.T := numK s 16 0 fun n a => k2 s n a []
def decCS (s : List UInt8) : CD.T := (decO s).getD C0
def decCE (s : List UInt8) : Int := if (decO s).isSome then 0 else 11

/-- what is known while it is read -/
structure Inv (D X : Option CD.T) (len a : Nat) (bad : Bool) : Prop where
  le : a ≤ len
  ok : bad = false → X = D
  no : bad = true → D = none
theorem numA_le (s : List UInt8) (most a : Nat) (bad : Bool) : (numA s most a bad).1 ≤ most := by
  unfold numA
  split
  · split
    · assumption
    · exact Nat.zero_le _
  · exact Nat.zero_le _
theorem num_inv {s : List UInt8} {D : Option CD.T} {most a : Nat} {bad : Bool} {K : Nat → Nat → Option CD.T} (h : Inv D (numK s most a K) s.length a bad) :
    Inv D (K (numA s most a bad).1 (numA s most a bad).2.1) s.length (numA s most a bad).2.1 (numA s most a bad).2.2 := by
  obtain ⟨h1, h2, h3⟩ := h
  unfold numA
  cases bad with
  | true => exact ⟨h1, fun e => (by cases e), h3⟩
  | false =>
    have h2 := h2 rfl
    unfold numK at h2
    cases hg : Num.getN s a with
    | none => rw [hg] at h2; exact ⟨h1, fun e => (by cases e), fun _ => h2.symm⟩
    | some p =>
      rw [hg] at h2
      dsimp only at h2 ⊢
      have hb := Num.getN_bd (m := p.1) (k := p.2) hg
      split at h2
      · rename_i hle
        rw [if_pos hle]
        exact ⟨by dsimp only; omega, fun _ => h2, fun e => (by cases e)⟩
      · rename_i hle
        rw [if_neg hle]
        exact ⟨h1, fun e => (by cases e), fun _ => h2.symm⟩
theorem nam_inv {s : List UInt8} {D : Option CD.T} {n a : Nat} {bad : Bool} {l : List SD.T} {K : List SD.T → Nat → Option CD.T} (h : Inv D (namK s (n + 1) a l K) s.length a bad) :
    Inv D (namK s n (txA s a bad).2.1 (l ++ [(txA s a bad).1]) K) s.length (txA s a bad).2.1 (txA s a bad).2.2 := by
  obtain ⟨h1, h2, h3⟩ := h
  unfold txA
  cases bad with
  | true => exact ⟨h1, fun e => (by cases e), h3⟩
  | false =>
    have h2 := h2 rfl
    unfold namK at h2
    cases hg : Num.getT s a 16 with
    | none => rw [hg] at h2; exact ⟨h1, fun e => (by cases e), fun _ => h2.symm⟩
    | some p =>
      rw [hg] at h2
      have hb := gt_bd (t := p.1) (i := p.2) hg
      exact ⟨by dsimp only; omega, fun _ => h2, fun e => (by cases e)⟩
theorem wr_nn (a k : Nat) (h : a + k ≤ 1000000) : IntKind.wrap .i64 ((a : Int) + (k : Int)) = ((a + k : Nat) : Int) := by
  rw [wr64 _ (by omega) (by omega)]; omega
theorem txA_le {s : List UInt8} (n a : Nat) (bad : Bool) (h : a ≤ n) (hn : n = s.length := by rfl) : (txA s a bad).2.1 ≤ n := by
  unfold txA
  split
  · rename_i p hg
    have hb := gt_bd (t := p.1) (i := p.2) hg
    dsimp only; omega
  · exact h
theorem decS_bd {s : List UInt8} {a : Nat} {r : RD.T} {n : Nat} (h : decS s a = some (r, n)) : a + n ≤ s.length := by
  unfold decS at h
  split at h
  · cases h
  rename_i p hp
  split at h
  · cases h
    unfold decP at hp
    split at hp
    · cases hp
    split at hp
    · cases hp
    split at hp
    · cases hp
    split at hp
    · cases hp
    split at hp
    · cases hp
    split at hp
    · cases hp
    split at hp
    · cases hp
    split at hp
    · cases hp
    rename_i h8
    cases hp
    have := gt_bd h8
    omega
  · cases h
theorem lit_ok (n : Int) (h0 : 0 ≤ n) (h1 : n ≤ 1000000) : (Lit.int .i64 n).wf = true := by
  have h2 : -9223372036854775808 ≤ n := by omega
  have h3 : n ≤ 9223372036854775807 := by omega
  simpa [Lit.wf, IntKind.min, IntKind.max, IntKind.bits, IntKind.signed] using ⟨h2, h3⟩
theorem decS_wf (s : List UInt8) (a : Nat) : Wf RD ((decS s a).getD (R0, 0)).1 := by
  cases h : decS s a with
  | none => exact ⟨by decide, by decide, by decide, by decide, by decide, by decide, by decide, by decide⟩
  | some p =>
    have hok : okS p.1 = true := by
      unfold decS at h
      split at h
      · cases h
      · split at h
        · rename_i h1; cases h; exact h1
        · cases h
    obtain ⟨i0, i1, k0, k1, n0, n1, s0, s1, t0, t1, t2, t3⟩ := okR hok
    exact ⟨lit_ok _ i0 i1, lit_ok _ (Int.le_trans (by decide) k0) (Int.le_trans k1 (by decide)), Nat.le_trans t0 (by decide), Nat.le_trans t1 (by decide), Nat.le_trans t2 (by decide), Nat.le_trans t3 (by decide), lit_ok _ n0 (Int.le_trans n1 (by decide)), lit_ok _ s0 (Int.le_trans s1 (by decide))⟩
theorem rul_inv {s : List UInt8} {D : Option CD.T} {n a : Nat} {bad : Bool} {l : List RD.T} {K : List RD.T → Nat → Option CD.T} (h : Inv D (rulK s (n + 1) a l K) s.length a bad) :
    Inv D (rulK s n (a + ((decS s a).getD (R0, 0)).2) (l ++ [((decS s a).getD (R0, 0)).1]) K) s.length (a + ((decS s a).getD (R0, 0)).2) (bad || !(decS s a).isSome) := by
  obtain ⟨h1, h2, h3⟩ := h
  unfold rulK at h2
  cases hg : decS s a with
  | none =>
    rw [hg] at h2
    refine ⟨h1, fun e => by simp at e, fun _ => ?_⟩
    cases bad with
    | true => exact h3 rfl
    | false => exact (h2 rfl).symm
  | some p =>
    rw [hg] at h2
    have hb := decS_bd (r := p.1) (n := p.2) hg
    refine ⟨hb, fun e => ?_, fun e => ?_⟩
    · cases bad with
      | true => simp at e
      | false => exact h2 rfl
    · cases bad with
      | true => exact h3 rfl
      | false => simp at e
theorem ix_inv {s : List UInt8} {D : Option CD.T} {n a : Nat} {bad : Bool} {l : List ID.T} {K : List ID.T → Nat → Option CD.T} (h : Inv D (ixK s (n + 1) a l K) s.length a bad) :
    Inv D (ixK s n (txA s (txA s a bad).2.1 (txA s a bad).2.2).2.1 (l ++ [((txA s a bad).1, (txA s (txA s a bad).2.1 (txA s a bad).2.2).1)]) K) s.length (txA s (txA s a bad).2.1 (txA s a bad).2.2).2.1 (txA s (txA s a bad).2.1 (txA s a bad).2.2).2.2 := by
  obtain ⟨h1, h2, h3⟩ := h
  have hbad : ∀ a, txA s a true = ([], a, true) := fun a => rfl
  cases bad with
  | true => rw [hbad, hbad]; exact ⟨h1, fun e => (by cases e), h3⟩
  | false =>
    have h2 := h2 rfl
    unfold ixK at h2
    cases hg : Num.getT s a 16 with
    | none =>
      rw [hg] at h2
      rw [show txA s a false = ([], a, true) by unfold txA; rw [hg], hbad]
      exact ⟨h1, fun e => (by cases e), fun _ => h2.symm⟩
    | some p =>
      rw [hg] at h2
      dsimp only at h2
      have hb := gt_bd (t := p.1) (i := p.2) hg
      rw [show txA s a false = (p.1, a + p.2, false) by unfold txA; rw [hg]]
      dsimp only
      cases hg2 : Num.getT s (a + p.2 : Nat) 16 with
      | none =>
        rw [hg2] at h2
        rw [show txA s (a + p.2) false = ([], a + p.2, true) by unfold txA; rw [hg2]]
        exact ⟨by dsimp only; omega, fun e => (by cases e), fun _ => h2.symm⟩
      | some q =>
        rw [hg2] at h2
        dsimp only at h2
        have hb2 := gt_bd (t := q.1) (i := q.2) hg2
        rw [show txA s (a + p.2) false = (q.1, a + p.2 + q.2, false) by unfold txA; rw [hg2]]
        exact ⟨by dsimp only; omega, fun _ => h2, fun e => (by cases e)⟩

abbrev hpD (s : List UInt8) (a : Nat) (bad : Bool) (l1 l2 : List SD.T) (rs : List RD.T) (is : List ID.T) : List (Nat × Ob) :=
  [(0, .cells 26 cn), (1, .cells 104 (rdC s a bad)), (2, .cells 26 [.row 4, .row 5, .row 6, .row 7, .int .i64 0]), (3, .cells 75 [.ptr 2 0, .ptr 2 1]),
   (4, .row 9 SD l1), (5, .row 9 SD l2), (6, .row 38 RD rs), (7, .row 40 ID is)]
abbrev hpE (s : List UInt8) (a : Nat) (bad : Bool) (l1 l2 : List SD.T) (rs : List RD.T) (is : List ID.T) : List (Nat × Ob) :=
  [(0, .cells 26 cn), (1, .cells 104 (rdC s a bad)), (2, .cells 26 [.row 4, .row 5, .row 6, .row 7, .int .i64 0]),
   (4, .row 9 SD l1), (5, .row 9 SD l2), (6, .row 38 RD rs), (7, .row 40 ID is)]
theorem cat_Decode (s : List UInt8) (hs : s.length ≤ 1000000) : FnD Try.prog 39 [.c (.str s)] (· = .tup [(true, cc (decCS s)), (false, [.int .i64 (decCE s)])]) := by
  refine FnD.cat ?_
  refine fn0 Try.func39 rfl rfl rfl ?_
  conv => whnf
  refine nilrl0 2 0 9 SD rfl rfl ?_
  conv => whnf
  refine nilrl0 2 1 9 SD rfl rfl ?_
  conv => whnf
  refine nilrl0 2 2 38 RD rfl rfl ?_
  conv => whnf
  refine nilrl0 2 3 40 ID rfl rfl ?_
  conv => whnf
  refine unroll0 3 ?_
  conv => whnf
  refine tk rfl ?_
  conv => whnf
  refine callh0 1 rfl ((cat_number0 s hs)) rfl rfl rfl rfl ?_
  conv => whnf
  have h0 : Inv (decO s) (k2 s (numA s 16 0 false).1 (numA s 16 0 false).2.1 []) s.length (numA s 16 0 false).2.1 (numA s 16 0 false).2.2 := num_inv ⟨Nat.zero_le _, fun _ => rfl, fun e => (by cases e)⟩
  have v0 := numA_le s 16 0 false
  generalize numA s 16 0 false = r at h0 v0
  obtain ⟨n0, a0, b0⟩ := r
  dsimp only at h0 v0 ⊢
  refine loop0 (α := Nat × Nat × Bool × List SD.T) (fun p => p.1 ≤ n0 ∧ p.2.2.2.length = p.1 ∧ Inv (decO s) (k2 s (n0 - p.1) p.2.1 p.2.2.2) s.length p.2.1 p.2.2.1)
    (fun p => ⟨[(0, .c (.str s)), (2, .c (.ptr 0 0)), (4, .c (.ptr 1 0)), (5, .c (.ptr 2 0)), (7, .c (.ptr 2 0)), (17, .c (.csl 3 2)), (18, .c (.int .i64 2)), (19, .c (.int .i64 0)), (24, .c (.int .i64 n0)), (25, .c (.int .i64 p.1))], hpD s p.2.1 p.2.2.1 p.2.2.2 [] [] [], 8⟩) (fun p => n0 - p.1) ⟨(0, a0, b0, []), ⟨Nat.zero_le _, rfl, h0⟩, ?_⟩ ?_
  · (conv => whnf); refine ⟨rfl, ?_, ?_, ?_⟩ <;> (repeat' apply And.intro) <;> first | exact trivial | rfl | exact wr_succ _ (by omega) | assumption | exact decide_eq_false (by assumption) | exact decide_eq_true (by assumption)
  clear h0
  rintro ⟨i, e0, c0, l0⟩ ⟨hI1, hn0, hv0⟩
  dsimp only at hI1 hn0 hv0 ⊢
  have ha0 := hv0.le
  conv => whnf
  refine ⟨fun h2 => ?_, fun h2 => ?_⟩
  · have h2 : i < n0 := by simp at h2; omega
    rw [show n0 - i = (n0 - (i + 1)) + 1 by omega] at hv0
    have hI4 := nam_inv (K := (k3 s)) hv0
    conv => whnf
    refine any0 ?_
    conv => whnf
    refine callrh0 1 rfl ((cat_name s e0 c0 hs (by omega))) rfl rfl rfl rfl ?_
    conv => whnf
    refine ⟨by show (l0.length + 1) * 16 ≤ 140737488355328; omega, ?_⟩
    conv => whnf
    refine ⟨.inl (by kernel_rfl), after0 ?_⟩
    conv => whnf
    refine ⟨(i + 1, (txA s e0 c0).2.1, (txA s e0 c0).2.2, l0 ++ [(txA s e0 c0).1]), ⟨⟨h2, by dsimp only; rw [List.length_append, hn0]; rfl, hI4⟩, by dsimp only; omega⟩, ?_⟩
    (conv => whnf); refine ⟨rfl, ?_, ?_, ?_⟩ <;> (repeat' apply And.intro) <;> first | exact trivial | rfl | exact wr_succ _ (by omega) | assumption | exact decide_eq_false (by assumption) | exact decide_eq_true (by assumption)
  rw [show n0 - i = 0 by simp at h2; omega] at hv0
  clear h2 hI1
  conv => whnf
  refine tk rfl ?_
  conv => whnf
  refine callh0 1 rfl ((cat_number s 16 e0 c0 hs (by omega) (by omega))) rfl rfl rfl rfl ?_
  conv => whnf
  have h1 : Inv (decO s) (k4 s l0 (numA s 16 e0 c0).1 (numA s 16 e0 c0).2.1 []) s.length (numA s 16 e0 c0).2.1 (numA s 16 e0 c0).2.2 := num_inv (K := fun n a => k4 s l0 n a []) hv0
  have v1 := numA_le s 16 e0 c0
  generalize numA s 16 e0 c0 = r at h1 v1
  obtain ⟨n1, a1, b1⟩ := r
  dsimp only at h1 v1 ⊢
  refine loop0 (α := Nat × Nat × Bool × List SD.T) (fun p => p.1 ≤ n1 ∧ p.2.2.2.length = p.1 ∧ Inv (decO s) (k4 s l0 (n1 - p.1) p.2.1 p.2.2.2) s.length p.2.1 p.2.2.1)
    (fun p => ⟨[(0, .c (.str s)), (2, .c (.ptr 0 0)), (4, .c (.ptr 1 0)), (5, .c (.ptr 2 0)), (7, .c (.ptr 2 1)), (17, .c (.csl 3 2)), (18, .c (.int .i64 2)), (19, .c (.int .i64 1)), (24, .c (.int .i64 n1)), (25, .c (.int .i64 p.1))], hpD s p.2.1 p.2.2.1 l0 p.2.2.2 [] [], 8⟩) (fun p => n1 - p.1) ⟨(0, a1, b1, []), ⟨Nat.zero_le _, rfl, h1⟩, ?_⟩ ?_
  · (conv => whnf); refine ⟨rfl, ?_, ?_, ?_⟩ <;> (repeat' apply And.intro) <;> first | exact trivial | rfl | exact wr_succ _ (by omega) | assumption | exact decide_eq_false (by assumption) | exact decide_eq_true (by assumption)
  clear h1
  rintro ⟨i, e1, c1, l1⟩ ⟨hI1, hn1, hv1⟩
  dsimp only at hI1 hn1 hv1 ⊢
  have ha1 := hv1.le
  conv => whnf
  refine ⟨fun h2 => ?_, fun h2 => ?_⟩
  · have h2 : i < n1 := by simp at h2; omega
    rw [show n1 - i = (n1 - (i + 1)) + 1 by omega] at hv1
    have hI4 := nam_inv (K := (k5 s l0)) hv1
    conv => whnf
    refine any0 ?_
    conv => whnf
    refine callrh0 1 rfl ((cat_name s e1 c1 hs (by omega))) rfl rfl rfl rfl ?_
    conv => whnf
    refine ⟨by show (l1.length + 1) * 16 ≤ 140737488355328; omega, ?_⟩
    conv => whnf
    refine ⟨.inl (by kernel_rfl), after0 ?_⟩
    conv => whnf
    refine ⟨(i + 1, (txA s e1 c1).2.1, (txA s e1 c1).2.2, l1 ++ [(txA s e1 c1).1]), ⟨⟨h2, by dsimp only; rw [List.length_append, hn1]; rfl, hI4⟩, by dsimp only; omega⟩, ?_⟩
    (conv => whnf); refine ⟨rfl, ?_, ?_, ?_⟩ <;> (repeat' apply And.intro) <;> first | exact trivial | rfl | exact wr_succ _ (by omega) | assumption | exact decide_eq_false (by assumption) | exact decide_eq_true (by assumption)
  rw [show n1 - i = 0 by simp at h2; omega] at hv1
  clear h2 hI1
  conv => whnf
  refine fk rfl ?_
  conv => whnf
  refine callh0 1 rfl ((cat_number s 16 e1 c1 hs (by omega) (by omega))) rfl rfl rfl rfl ?_
  conv => whnf
  have h2 : Inv (decO s) (k6 s l0 l1 (numA s 16 e1 c1).1 (numA s 16 e1 c1).2.1 []) s.length (numA s 16 e1 c1).2.1 (numA s 16 e1 c1).2.2 := num_inv (K := fun n a => k6 s l0 l1 n a []) hv1
  have v2 := numA_le s 16 e1 c1
  generalize numA s 16 e1 c1 = r at h2 v2
  obtain ⟨n2, a2, b2⟩ := r
  dsimp only at h2 v2 ⊢
  refine loop0 (α := Nat × Nat × Bool × List RD.T) (fun p => p.1 ≤ n2 ∧ p.2.2.2.length = p.1 ∧ Inv (decO s) (k6 s l0 l1 (n2 - p.1) p.2.1 p.2.2.2) s.length p.2.1 p.2.2.1 ∧ ∀ r ∈ p.2.2.2, Wf RD r)
    (fun p => ⟨[(0, .c (.str s)), (2, .c (.ptr 0 0)), (4, .c (.ptr 1 0)), (5, .c (.ptr 2 0)), (39, .c (.int .i64 n2)), (40, .c (.int .i64 p.1))], hpE s p.2.1 p.2.2.1 l0 l1 p.2.2.2 [], 8⟩) (fun p => n2 - p.1) ⟨(0, a2, b2, []), ⟨Nat.zero_le _, rfl, h2, fun r hr => by cases hr⟩, ?_⟩ ?_
  · (conv => whnf); refine ⟨rfl, ?_, ?_, ?_⟩ <;> (repeat' apply And.intro) <;> first | exact trivial | rfl | exact wr_succ _ (by omega) | assumption | exact decide_eq_false (by assumption) | exact decide_eq_true (by assumption)
  clear h2
  rintro ⟨i, e2, c2, l2⟩ ⟨hI1, hn2, hv2, hw2⟩
  dsimp only at hI1 hn2 hv2 hw2 ⊢
  have ha2 := hv2.le
  conv => whnf
  refine ⟨fun h2 => ?_, fun h2 => ?_⟩
  · have h2 : i < n2 := by simp at h2; omega
    rw [show n2 - i = (n2 - (i + 1)) + 1 by omega] at hv2
    conv => whnf
    refine call1 (rule_Decode s e2 (by omega)) rfl ?_
    conv => whnf
    have hv3 := rul_inv (K := k7 s l0 l1) hv2
    have hle := hv3.le
    rw [wr_nn e2 _ (by omega)]
    refine ⟨by show (l2.length + 1) * 96 ≤ 140737488355328; omega, ?_⟩
    conv => whnf
    refine ⟨(i + 1, e2 + ((decS s e2).getD (R0, 0)).2, (c2 || !(decS s e2).isSome), l2 ++ [((decS s e2).getD (R0, 0)).1]), ⟨⟨h2, by dsimp only; rw [List.length_append, hn2]; rfl, hv3, fun r hr => by
      rcases List.mem_append.1 hr with hr | hr
      · exact hw2 r hr
      · rw [List.mem_singleton.1 hr]; exact decS_wf s e2⟩, by dsimp only; omega⟩, ?_⟩
    (conv => whnf); refine ⟨rfl, ?_, ?_, ?_⟩ <;> (repeat' apply And.intro) <;> first | exact trivial | rfl | exact wr_succ _ (by omega) | assumption | exact decide_eq_false (by assumption) | exact decide_eq_true (by assumption)
  rw [show n2 - i = 0 by simp at h2; omega] at hv2
  have hq2 : l2.length ≤ 16 := by omega
  clear h2 hI1
  conv => whnf
  refine callh0 1 rfl ((cat_number s 16 e2 c2 hs (by omega) (by omega))) rfl rfl rfl rfl ?_
  conv => whnf
  have h3 : Inv (decO s) (k8 s l0 l1 l2 (numA s 16 e2 c2).1 (numA s 16 e2 c2).2.1 []) s.length (numA s 16 e2 c2).2.1 (numA s 16 e2 c2).2.2 := num_inv (K := fun n a => k8 s l0 l1 l2 n a []) hv2
  have v3 := numA_le s 16 e2 c2
  generalize numA s 16 e2 c2 = r at h3 v3
  obtain ⟨n3, a3, b3⟩ := r
  dsimp only at h3 v3 ⊢
  refine loop0 (α := Nat × Nat × Bool × List ID.T) (fun p => p.1 ≤ n3 ∧ p.2.2.2.length = p.1 ∧ Inv (decO s) (k8 s l0 l1 l2 (n3 - p.1) p.2.1 p.2.2.2) s.length p.2.1 p.2.2.1)
    (fun p => ⟨[(0, .c (.str s)), (2, .c (.ptr 0 0)), (4, .c (.ptr 1 0)), (5, .c (.ptr 2 0)), (79, .c (.int .i64 n3)), (80, .c (.int .i64 p.1))], hpE s p.2.1 p.2.2.1 l0 l1 l2 p.2.2.2, 8⟩) (fun p => n3 - p.1) ⟨(0, a3, b3, []), ⟨Nat.zero_le _, rfl, h3⟩, ?_⟩ ?_
  · (conv => whnf); refine ⟨rfl, ?_, ?_, ?_⟩ <;> (repeat' apply And.intro) <;> first | exact trivial | rfl | exact wr_succ _ (by omega) | assumption | exact decide_eq_false (by assumption) | exact decide_eq_true (by assumption)
  clear h3
  rintro ⟨i, e3, c3, l3⟩ ⟨hI1, hn3, hv3⟩
  dsimp only at hI1 hn3 hv3 ⊢
  have ha3 := hv3.le
  conv => whnf
  refine ⟨fun h2 => ?_, fun h2 => ?_⟩
  · have h2 : i < n3 := by simp at h2; omega
    rw [show n3 - i = (n3 - (i + 1)) + 1 by omega] at hv3
    have hv4 := ix_inv (K := k9 s l0 l1 l2) hv3
    have hx := txA_le s.length e3 c3 ha3
    conv => whnf
    refine callh0 1 rfl ((cat_name s e3 c3 hs (by omega))) rfl rfl rfl rfl ?_
    conv => whnf
    refine any0 ?_
    conv => whnf
    refine callrh0 1 rfl ((cat_name s (txA s e3 c3).2.1 (txA s e3 c3).2.2 hs (by omega))) rfl rfl rfl rfl ?_
    conv => whnf
    refine ⟨by show (l3.length + 1) * 32 ≤ 140737488355328; omega, ?_⟩
    conv => whnf
    refine ⟨.inl (by kernel_rfl), after0 ?_⟩
    conv => whnf
    refine ⟨(i + 1, _, _, _), ⟨⟨h2, ?_, hv4⟩, by dsimp only; omega⟩, ?_⟩
    · dsimp only; rw [List.length_append, hn3]; rfl
    (conv => whnf); refine ⟨rfl, ?_, ?_, ?_⟩ <;> (repeat' apply And.intro) <;> first | exact trivial | rfl | exact wr_succ _ (by omega) | assumption | exact decide_eq_false (by assumption) | exact decide_eq_true (by assumption)
  rw [show n3 - i = 0 by simp at h2; omega] at hv3
  clear h2 hI1
  conv => whnf
  refine fzc 4 rfl ?_
  conv => whnf
  refine fzc 5 rfl ?_
  conv => whnf
  refine fzc 6 rfl ?_
  conv => whnf
  refine fzc 7 rfl ?_
  conv => whnf
  refine callh0 1 rfl ((cat_number s 1000000 e3 c3 hs (by omega) (by omega))) rfl rfl rfl rfl ?_
  conv => whnf
  have h4 : Inv (decO s) (finK s l0 l1 l2 l3 (numA s 1000000 e3 c3).1 (numA s 1000000 e3 c3).2.1) s.length (numA s 1000000 e3 c3).2.1 (numA s 1000000 e3 c3).2.2 := num_inv (K := fun nx a => finK s l0 l1 l2 l3 nx a) hv3
  have v4 := numA_le s 1000000 e3 c3
  generalize numA s 1000000 e3 c3 = r at h4 v4
  obtain ⟨nx, a4, b4⟩ := r
  dsimp only at h4 v4 ⊢
  conv => whnf
  refine callg0 (fun _ => cat_Good (l0, l1, l2, l3, ((nx : Nat) : Int)) hw2 (by show l2.length ≤ 1000; omega)) rfl ?_
  conv => whnf
  refine ⟨fun h5 => ?_, fun h5 => ?_⟩
  · have hD : decO s = none := by
      cases b4 with
      | true => exact h4.no rfl
      | false =>
        rw [← h4.ok rfl, finK, if_neg]
        rintro ⟨g1, g2⟩
        rw [g2, g1] at h5
        simp at h5
    rw [show decCS s = C0 by rw [decCS, hD]; rfl, show decCE s = 11 by rw [decCE, hD]; rfl]
    conv => whnf
    exact .inr ⟨rfl, rfl⟩
  · simp only [Bool.or_eq_false_iff, Bool.not_eq_false', decide_eq_true_eq] at h5
    obtain ⟨⟨g1, g2⟩, g3⟩ := h5
    have hD : decO s = some (l0, l1, l2, l3, ((nx : Nat) : Int)) := by
      rw [← h4.ok g1, finK, if_pos ⟨by omega, g3⟩]
    rw [show decCS s = (l0, l1, l2, l3, ((nx : Nat) : Int)) by rw [decCS, hD]; rfl, show decCE s = 0 by rw [decCE, hD]; rfl]
    conv => whnf
    exact .inl rfl
end Go.Proofs.Ythpllblcbbkfdaa
