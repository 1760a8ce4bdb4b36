/- The bytes of a catalog; the walks of cat.Encode and of the reference's. Own work. -/
import Derived.Test.YthpllblcbbkfdaaCatGood
import Derived.Test.YthpllblcbbkfdaaRuleEncode
set_option linter.unusedVariables false
set_option maxRecDepth 100000
namespace Go.Proofs.Ythpllblcbbkfdaa
open Go Go.RowKit OE

def flB {α : Type} (f : α → List UInt8) (l : List α) : List UInt8 := (l.map f).flatten
theorem flB_step {α : Type} (f : α → List UInt8) {l : List α} {i : Nat} (h : i < l.length) : flB f (l.take (i + 1)) = flB f (l.take i) ++ f l[i] := by
  unfold flB; rw [take_step h, List.map_append, List.flatten_append]; simp only [List.map_cons, List.map_nil, List.flatten_cons, List.flatten_nil, List.append_nil]
theorem flB_len {α : Type} (f : α → List UInt8) (B : Nat) : ∀ {l : List α}, (∀ x ∈ l, (f x).length ≤ B) → (flB f l).length ≤ B * l.length
  | [], _ => by simp [flB]
  | x :: l, h => by
    have h1 := h x (by simp)
    have h2 := flB_len f B (l := l) (fun y hy => h y (by simp [hy]))
    unfold flB at h2 ⊢
    rw [List.map_cons, List.flatten_cons, List.length_append, List.length_cons, Nat.mul_add]
    omega
abbrev txtB (l : List SD.T) : List UInt8 := flB (α := List UInt8) Num.putT l
def ixB (i : ID.T) : List UInt8 := Num.putT i.1 ++ Num.putT i.2
/-- a good catalog's bytes -/
def catB' (c : CD.T) : List UInt8 := Num.putN c.1.length ++ txtB c.1 ++ (Num.putN c.2.1.length ++ txtB c.2.1) ++ Num.putN c.2.2.1.length ++ flB encS c.2.2.1 ++ Num.putN c.2.2.2.1.length ++ flB ixB c.2.2.2.1 ++ Num.putN (Int.toNat c.2.2.2.2)
def encCS (c : CD.T) : List UInt8 := if goodC c = true then catB' c else []
def errCS (c : CD.T) : Int := if goodC c = true then 0 else 11

theorem encS_len (r : RD.T) : (encS r).length ≤ 144 := by
  unfold encS
  split
  · rename_i h
    obtain ⟨i0, i1, k0, k1, n0, n1, s0, s1, t0, t1, t2, t3⟩ := okR h
    have p1 := putN_b r.1 i1
    have p2 := putN_b r.2.1 (Int.le_trans k1 (by decide))
    have p3 := putN_b r.2.2.2.2.2.2.2 (Int.le_trans s1 (by decide))
    have p4 := putN_b r.2.2.2.2.2.2.1 (Int.le_trans n1 (by decide))
    have q1 := putT_b t0
    have q2 := putT_b t1
    have q3 := putT_b t2
    have q4 := putT_b t3
    unfold bytS
    simp only [List.length_append]
    omega
  · simp
theorem goodL_mem {c : CD.T} : ∀ {l d : List RD.T} {x : Int}, goodL c d x l = true → ∀ r ∈ l, x < r.1 ∧ goodR c r = true
  | [], _, _, _, r, hr => by cases hr
  | a :: l, d, x, h, r, hr => by
    simp only [goodL, Bool.and_eq_true, decide_eq_true_eq] at h
    rcases List.mem_cons.1 hr with rfl | hr
    · exact ⟨h.1, h.2.1⟩
    · have := goodL_mem h.2.2.2 r hr
      exact ⟨Int.lt_trans h.1 this.1, this.2⟩
theorem idxL_mem {c : CD.T} : ∀ {l : List ID.T} {p : Option ID.T}, idxL c p l = true → ∀ x ∈ l, hasT c.1 x.1 = true ∧ nameS x.2 = true
  | [], _, _, x, hx => by cases hx
  | a :: l, p, h, x, hx => by
    simp only [idxL, Bool.and_eq_true, Bool.not_eq_true', Bool.or_eq_false_iff, Bool.not_eq_false'] at h
    rcases List.mem_cons.1 hx with rfl | hx
    · exact h.1.1
    · exact idxL_mem h.2 x hx
theorem tyS_mem {l : List SD.T} (h : tyS l = true) : l.length ≤ 16 ∧ ∀ s ∈ l, nameS s = true := by
  simp only [tyS, Bool.and_eq_true, Bool.not_eq_true', decide_eq_false_iff_not, List.all_eq_true] at h
  exact ⟨by omega, h.2.2⟩
structure GoodC (c : CD.T) : Prop where
  n1 : c.1.length ≤ 16
  n2 : c.2.1.length ≤ 16
  n3 : c.2.2.1.length ≤ 16
  n4 : c.2.2.2.1.length ≤ 16
  t1 : ∀ s ∈ c.1, nameS s = true
  t2 : ∀ s ∈ c.2.1, nameS s = true
  x0 : (1 : Int) ≤ c.2.2.2.2
  x1 : (show Int from c.2.2.2.2) ≤ 1000000
  r : ∀ r ∈ c.2.2.1, (0 : Int) < r.1 ∧ goodR c r = true
  i : ∀ x ∈ c.2.2.2.1, hasT c.1 x.1 = true ∧ nameS x.2 = true
theorem goodC_out {c : CD.T} (h : goodC c = true) : GoodC c := by
  simp only [goodC, rulesS, typesS, idxS, Bool.and_eq_true, decide_eq_true_eq] at h
  obtain ⟨⟨h1, h2⟩, h3, h4, h5, h6, h7, h8, h9⟩ := h
  have a1 := tyS_mem h1
  have a2 := tyS_mem h2
  exact ⟨a1.1, a2.1, h9, h5, a1.2, a2.2, h3, h4, goodL_mem h7, idxL_mem h6⟩
theorem hasT_mem {l : List SD.T} {v : List UInt8} (h : hasT l v = true) : v ∈ l := by
  simp only [hasT, List.any_eq_true, decide_eq_true_eq] at h
  obtain ⟨x, h1, h2⟩ := h
  rw [h2]; exact h1
theorem GoodC.il {c : CD.T} (h : GoodC c) {x : ID.T} (hx : x ∈ c.2.2.2.1) : x.1.length ≤ 16 ∧ x.2.length ≤ 16 :=
  ⟨nameS_len (h.t1 _ (hasT_mem (h.i x hx).1)), nameS_len (h.i x hx).2⟩
theorem txtB_len {l : List SD.T} (h : ∀ s ∈ l, nameS s = true) : (txtB l).length ≤ 26 * l.length := flB_len _ 26 fun s hs => putT_b (nameS_len (h s hs))

theorem gt0 {d : D} (a b : d.T) : gt [a, b] (0 : Int) = a := rfl
theorem gt1 {d : D} (a b : d.T) : gt [a, b] (IntKind.wrap .i64 (0 + 1)) = b := rfl
theorem txtB_step {l : List SD.T} {i : Nat} (h : i < l.length) : txtB (l.take (i + 1)) = txtB (l.take i) ++ Num.putT l[i] := flB_step (α := List UInt8) Num.putT h
theorem cat_Encode (c : CD.T) (hw : Wf CD c) (g3 : c.2.2.1.length ≤ 1000) : FnD Try.prog 37 [.agg (cc c)] (· = .tup [(false, [.str (encCS c)]), (false, [.int .i64 (errCS c)])]) := by
  refine fn0 Try.func37 rfl rfl rfl ?_
  conv => whnf
  refine call1 (cat_Good c hw.2.2.1.2 g3) rfl ?_
  conv => whnf
  refine ⟨fun h1 => ?_, fun h1 => ?_⟩
  · have h1 := not_t h1
    conv => whnf
    simp [encCS, errCS, h1]
  have h1 := not_f h1
  rw [encCS, errCS, if_pos h1, if_pos h1]
  have hg := goodC_out h1
  conv => whnf
  intro _
  conv => whnf
  refine unroll0 3 ?_
  conv => whnf
  refine tk rfl ?_
  conv => whnf
  intro _
  conv => whnf
  refine ⟨show (0 : Int) ≤ 0 ∧ (0 : Int) < 2 from by decide, ?_⟩
  conv => whnf
  refine ⟨show (0 : Int) ≤ 0 ∧ (0 : Int) < 2 from by decide, ?_⟩
  conv => whnf
  intro _
  conv => whnf
  rw [gt0]
  refine call1 (num_PutI ((c.1).length : Int) (Int.natCast_nonneg _) (by have := hg.n1; omega)) rfl ?_
  conv => whnf
  have pn0 := putN_b ((c.1).length : Int) (by have := hg.n1; omega)
  refine ⟨by exact Nat.le_trans (Nat.add_le_add (Nat.le_refl 0) pn0) (by decide), ?_⟩
  conv => whnf
  intro _
  conv => whnf
  refine loop0 (α := Nat × List UInt8) (fun p => p.1 ≤ (c.1).length ∧ p.2 = [] ++ Num.putN (c.1).length ++ txtB ((c.1).take p.1))
    (fun p => ⟨[(1, .c (.ptr 0 0)), (4, .c (.str p.2)), (22, .c (.row 1)), (23, .c (.int .i64 2)), (24, .c (.int .i64 0)), (34, .c (.dat SD c.1)), (35, .c (.int .i64 (c.1).length)), (36, .c (.int .i64 p.1))], [(0, .cells 26 (cc c)), (1, .row 22 (.list SD) [c.1, c.2.1])], 2⟩) (fun p => (c.1).length - p.1) ⟨(0, [] ++ Num.putN ((c.1).length : Int).toNat), ⟨Nat.zero_le _, (List.append_nil _).symm⟩, ?_⟩ ?_
  · (conv => whnf); refine ⟨rfl, ?_, ?_, ?_⟩ <;> (repeat' apply And.intro) <;> first | exact trivial | rfl | exact wr_succ _ (by omega) | assumption | exact decide_eq_false (by assumption) | exact decide_eq_true (by assumption)
  rintro ⟨i, s0⟩ ⟨hI1, hJ0⟩
  dsimp only at hI1 hJ0 ⊢
  have hsl0 : (s0).length ≤ 450 := by
    have h5 := txtB_len (l := (c.1).take i) fun s hs => hg.t1 s (List.mem_of_mem_take hs)
    have h6 := hg.n1
    rw [List.length_take] at h5
    rw [Int.toNat_natCast] at pn0
    rw [hJ0]; simp only [List.length_append, List.length_nil]; omega
  conv => whnf
  refine ⟨fun h2 => ?_, fun h2 => ?_⟩
  · have h2 : i < (c.1).length := by simp at h2; omega
    have h3 := nameS_len (hg.t1 _ (List.getElem_mem h2))
    have h4 := putT_b h3
    conv => whnf
    try (intro _; conv => whnf)
    refine ⟨by omega, ?_⟩
    rw [gt_nat (d := SD) (c.1) i h2]
    conv => whnf
    refine call1 (num_PutText _ (by omega)) rfl ?_
    conv => whnf
    refine ⟨by omega, ?_⟩
    conv => whnf
    refine ⟨(i + 1, s0 ++ Num.putT (c.1)[i]), ⟨⟨h2, ?_⟩, by dsimp only; omega⟩, ?_⟩
    · dsimp only
      rw [txtB_step h2, hJ0]; simp only [List.append_assoc]
    · (conv => whnf); refine ⟨rfl, ?_, ?_, ?_⟩ <;> (repeat' apply And.intro) <;> first | exact trivial | rfl | exact wr_succ _ (by omega) | assumption | exact decide_eq_false (by assumption) | exact decide_eq_true (by assumption)
  rw [List.take_of_length_le (by simp at h2; omega)] at hJ0
  clear h2
  conv => whnf
  refine tk rfl ?_
  conv => whnf
  intro _
  conv => whnf
  refine ⟨show (0 : Int) ≤ 1 ∧ (1 : Int) < 2 from by decide, ?_⟩
  conv => whnf
  refine ⟨show (0 : Int) ≤ 1 ∧ (1 : Int) < 2 from by decide, ?_⟩
  conv => whnf
  intro _
  conv => whnf
  rw [gt1]
  refine call1 (num_PutI ((c.2.1).length : Int) (Int.natCast_nonneg _) (by have := hg.n2; omega)) rfl ?_
  conv => whnf
  have pn1 := putN_b ((c.2.1).length : Int) (by have := hg.n2; omega)
  refine ⟨by omega, ?_⟩
  conv => whnf
  intro _
  conv => whnf
  refine loop0 (α := Nat × List UInt8) (fun p => p.1 ≤ (c.2.1).length ∧ p.2 = s0 ++ Num.putN (c.2.1).length ++ txtB ((c.2.1).take p.1))
    (fun p => ⟨[(1, .c (.ptr 0 0)), (4, .c (.str p.2)), (22, .c (.row 1)), (23, .c (.int .i64 2)), (24, .c (.int .i64 1)), (34, .c (.dat SD c.2.1)), (35, .c (.int .i64 (c.2.1).length)), (36, .c (.int .i64 p.1))], [(0, .cells 26 (cc c)), (1, .row 22 (.list SD) [c.1, c.2.1])], 2⟩) (fun p => (c.2.1).length - p.1) ⟨(0, s0 ++ Num.putN ((c.2.1).length : Int).toNat), ⟨Nat.zero_le _, (List.append_nil _).symm⟩, ?_⟩ ?_
  · (conv => whnf); refine ⟨rfl, ?_, ?_, ?_⟩ <;> (repeat' apply And.intro) <;> first | exact trivial | rfl | exact wr_succ _ (by omega) | assumption | exact decide_eq_false (by assumption) | exact decide_eq_true (by assumption)
  rintro ⟨i, s1⟩ ⟨hI1, hJ1⟩
  dsimp only at hI1 hJ1 ⊢
  have hsl1 : (s1).length ≤ 900 := by
    have h5 := txtB_len (l := (c.2.1).take i) fun s hs => hg.t2 s (List.mem_of_mem_take hs)
    have h6 := hg.n2
    rw [List.length_take] at h5
    rw [Int.toNat_natCast] at pn1
    rw [hJ1]; simp only [List.length_append]; omega
  conv => whnf
  refine ⟨fun h2 => ?_, fun h2 => ?_⟩
  · have h2 : i < (c.2.1).length := by simp at h2; omega
    have h3 := nameS_len (hg.t2 _ (List.getElem_mem h2))
    have h4 := putT_b h3
    conv => whnf
    try (intro _; conv => whnf)
    refine ⟨by omega, ?_⟩
    rw [gt_nat (d := SD) (c.2.1) i h2]
    conv => whnf
    refine call1 (num_PutText _ (by omega)) rfl ?_
    conv => whnf
    refine ⟨by omega, ?_⟩
    conv => whnf
    refine ⟨(i + 1, s1 ++ Num.putT (c.2.1)[i]), ⟨⟨h2, ?_⟩, by dsimp only; omega⟩, ?_⟩
    · dsimp only
      rw [txtB_step h2, hJ1]; simp only [List.append_assoc]
    · (conv => whnf); refine ⟨rfl, ?_, ?_, ?_⟩ <;> (repeat' apply And.intro) <;> first | exact trivial | rfl | exact wr_succ _ (by omega) | assumption | exact decide_eq_false (by assumption) | exact decide_eq_true (by assumption)
  rw [List.take_of_length_le (by simp at h2; omega)] at hJ1
  clear h2
  conv => whnf
  refine fk rfl ?_
  conv => whnf
  intro _
  conv => whnf
  refine call1 (num_PutI ((c.2.2.1).length : Int) (Int.natCast_nonneg _) (by have := hg.n3; omega)) rfl ?_
  conv => whnf
  have pn2 := putN_b ((c.2.2.1).length : Int) (by have := hg.n3; omega)
  refine ⟨by omega, ?_⟩
  conv => whnf
  intro _
  conv => whnf
  refine loop0 (α := Nat × List UInt8) (fun p => p.1 ≤ (c.2.2.1).length ∧ p.2 = s1 ++ Num.putN (c.2.2.1).length ++ flB encS ((c.2.2.1).take p.1))
    (fun p => ⟨[(1, .c (.ptr 0 0)), (4, .c (.str p.2)), (54, .c (.dat RD c.2.2.1)), (55, .c (.int .i64 (c.2.2.1).length)), (56, .c (.int .i64 p.1))], [(0, .cells 26 (cc c))], 1⟩) (fun p => (c.2.2.1).length - p.1) ⟨(0, s1 ++ Num.putN ((c.2.2.1).length : Int).toNat), ⟨Nat.zero_le _, (List.append_nil _).symm⟩, ?_⟩ ?_
  · (conv => whnf); refine ⟨rfl, ?_, ?_, ?_⟩ <;> (repeat' apply And.intro) <;> first | exact trivial | rfl | exact wr_succ _ (by omega) | assumption | exact decide_eq_false (by assumption) | exact decide_eq_true (by assumption)
  rintro ⟨i2, s2⟩ ⟨hL1, hL2⟩
  dsimp only at hL1 hL2 ⊢
  have hs2 : (s2).length ≤ 4000 := by
    have h5 := flB_len encS 144 (l := (c.2.2.1).take i2) fun s hs => encS_len s
    have h6 := hg.n3
    rw [List.length_take] at h5
    rw [Int.toNat_natCast] at pn2
    rw [hL2]; simp only [List.length_append]; omega
  conv => whnf
  refine ⟨fun h2 => ?_, fun h2 => ?_⟩
  · have h2 : i2 < (c.2.2.1).length := by simp at h2; omega
    have h4 := encS_len c.2.2.1[i2]
    conv => whnf
    try (intro _; conv => whnf)
    refine ⟨by omega, ?_⟩
    rw [gt_nat (d := RD) c.2.2.1 i2 h2]
    conv => whnf
    refine call1 (rule_Encode c.2.2.1[i2]) rfl ?_
    conv => whnf
    refine ⟨by omega, ?_⟩
    conv => whnf
    refine ⟨(i2 + 1, s2 ++ encS (c.2.2.1)[i2]), ⟨⟨h2, ?_⟩, by dsimp only; omega⟩, ?_⟩
    · dsimp only
      rw [flB_step _ h2, hL2]; simp only [List.append_assoc]
    · (conv => whnf); refine ⟨rfl, ?_, ?_, ?_⟩ <;> (repeat' apply And.intro) <;> first | exact trivial | rfl | exact wr_succ _ (by omega) | assumption | exact decide_eq_false (by assumption) | exact decide_eq_true (by assumption)
  rw [List.take_of_length_le (by simp at h2; omega)] at hL2
  clear h2
  conv => whnf
  intro _
  conv => whnf
  refine call1 (num_PutI ((c.2.2.2.1).length : Int) (Int.natCast_nonneg _) (by have := hg.n4; omega)) rfl ?_
  conv => whnf
  have pn3 := putN_b ((c.2.2.2.1).length : Int) (by have := hg.n4; omega)
  refine ⟨by omega, ?_⟩
  conv => whnf
  intro _
  conv => whnf
  refine loop0 (α := Nat × List UInt8) (fun p => p.1 ≤ (c.2.2.2.1).length ∧ p.2 = s2 ++ Num.putN (c.2.2.2.1).length ++ flB ixB ((c.2.2.2.1).take p.1))
    (fun p => ⟨[(1, .c (.ptr 0 0)), (4, .c (.str p.2)), (77, .c (.dat ID c.2.2.2.1)), (78, .c (.int .i64 (c.2.2.2.1).length)), (79, .c (.int .i64 p.1))], [(0, .cells 26 (cc c))], 1⟩) (fun p => (c.2.2.2.1).length - p.1) ⟨(0, s2 ++ Num.putN ((c.2.2.2.1).length : Int).toNat), ⟨Nat.zero_le _, (List.append_nil _).symm⟩, ?_⟩ ?_
  · (conv => whnf); refine ⟨rfl, ?_, ?_, ?_⟩ <;> (repeat' apply And.intro) <;> first | exact trivial | rfl | exact wr_succ _ (by omega) | assumption | exact decide_eq_false (by assumption) | exact decide_eq_true (by assumption)
  rintro ⟨i3, s3⟩ ⟨hM1, hM2⟩
  dsimp only at hM1 hM2 ⊢
  have hs3 : (s3).length ≤ 6000 := by
    have h5 := flB_len ixB 52 (l := (c.2.2.2.1).take i3) fun x hx => by
      have := hg.il (List.mem_of_mem_take hx)
      have q1 := putT_b this.1
      have q2 := putT_b this.2
      unfold ixB; rw [List.length_append]; omega
    have h6 := hg.n4
    rw [List.length_take] at h5
    rw [Int.toNat_natCast] at pn3
    rw [hM2]; simp only [List.length_append]; omega
  conv => whnf
  refine ⟨fun h2 => ?_, fun h2 => ?_⟩
  · have h2 : i3 < (c.2.2.2.1).length := by simp at h2; omega
    have h4 := hg.il (List.getElem_mem h2)
    have q1 := putT_b h4.1
    have q2 := putT_b h4.2
    conv => whnf
    try (intro _; conv => whnf)
    refine ⟨by omega, ?_⟩
    rw [gt_nat (d := ID) c.2.2.2.1 i3 h2]
    conv => whnf
    refine any0 ?_
    conv => whnf
    refine callr0 (num_PutText c.2.2.2.1[i3].1 (by omega)) rfl ?_
    conv => whnf
    refine callr0 (num_PutText c.2.2.2.1[i3].2 (by omega)) rfl ?_
    conv => whnf
    refine ⟨by omega, ?_⟩
    conv => whnf
    refine ⟨by rw [List.length_append]; omega, ?_⟩
    conv => whnf
    refine ⟨.inl (by kernel_rfl), after0 ?_⟩
    conv => whnf
    refine ⟨(i3 + 1, s3 ++ ixB c.2.2.2.1[i3]), ⟨⟨h2, ?_⟩, by dsimp only; omega⟩, ?_⟩
    · dsimp only
      rw [flB_step _ h2, hM2]; simp only [List.append_assoc]
    · (conv => whnf); refine ⟨rfl, ?_, ?_, ?_⟩ <;> (repeat' apply And.intro) <;> first | exact trivial | rfl | exact wr_succ _ (by omega) | assumption | exact decide_eq_false (by assumption) | exact decide_eq_true (by assumption)
  rw [List.take_of_length_le (by simp at h2; omega)] at hM2
  clear h2
  conv => whnf
  refine call1 (num_PutI (show Int from c.2.2.2.2) (Int.le_trans (by decide) hg.x0) hg.x1) rfl ?_
  conv => whnf
  have pn4 := putN_b (show Int from c.2.2.2.2) hg.x1
  refine ⟨by omega, ?_⟩
  conv => whnf
  rw [hM2, hL2, hJ1, hJ0]
  unfold catB'
  simp only [List.append_assoc, List.nil_append]
end Go.Proofs.Ythpllblcbbkfdaa
