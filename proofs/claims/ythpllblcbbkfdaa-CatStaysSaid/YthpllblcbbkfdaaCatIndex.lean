/- What is changed of a catalog's indexes; the walks of slices.BinarySearchFunc, Index, Insert; cat.AddIndex, DropIndex. Own work. -/
import Derived.Test.YthpllblcbbkfdaaCatEnable
import Derived.Test.YthpllblcbbkfdaaListIns
set_option linter.unusedVariables false
set_option maxRecDepth 100000
namespace Go.Proofs.Ythpllblcbbkfdaa
open Go Go.RowKit OE


/-! where an index stands, or would stand -/
def posI (l : List ID.T) (x : ID.T) : Nat := l.findIdx fun y => !ltIx y x
def atI (l : List ID.T) (x : ID.T) : Nat := l.findIdx fun y => decide (y = x)
def addIS (c : CD.T) (x : ID.T) : CD.T × Int :=
  if goodC c = false then (C0, 11)
  else if nameS x.2 = false then (C0, 1)
  else if hasT c.1 x.1 = false then (C0, 140)
  else if x ∈ c.2.2.2.1 then (C0, 61)
  else if c.2.2.2.1.length = 16 then (C0, 3)
  else ((c.1, c.2.1, c.2.2.1, c.2.2.2.1.take (posI c.2.2.2.1 x) ++ [x] ++ c.2.2.2.1.drop (posI c.2.2.2.1 x), c.2.2.2.2), 0)
def dropIS (c : CD.T) (x : ID.T) : CD.T × Int :=
  if goodC c = false then (C0, 11)
  else if atI c.2.2.2.1 x < c.2.2.2.1.length then ((c.1, c.2.1, c.2.2.1, c.2.2.2.1.take (atI c.2.2.2.1 x) ++ c.2.2.2.1.drop (atI c.2.2.2.1 x + 1), c.2.2.2.2), 0)
  else (C0, 60)

theorem at_step {l : List ID.T} {x : ID.T} {j : Nat} (h : j < l.length) : atI (l.drop j) x = if ID.eqb x l[j] = true then 0 else atI (l.drop (j + 1)) x + 1 := by
  unfold atI
  rw [List.drop_eq_getElem_cons h, List.findIdx_cons]
  by_cases e : l[j] = x
  · rw [if_pos ((D.eqb_iff ID _ _).2 e.symm), decide_eq_true e]; rfl
  · rw [if_neg (fun h => e ((D.eqb_iff ID _ _).1 h).symm), decide_eq_false e]; rfl
def atS (l : List ID.T) (x : ID.T) : Int := if atI l x < l.length then (atI l x : Int) else -1
theorem slices_IndexI (l : List ID.T) (x : ID.T) : FnD Try.prog 128 [.c (.dat ID l), .agg (ic x)] (· = .c (.int .i64 (atS l x))) := by
  refine fn0 Try.func128 rfl rfl rfl ?_
  conv => whnf
  intro _
  conv => whnf
  refine loop0 (α := Nat) (fun j => j ≤ l.length ∧ atI l x = j + atI (l.drop j) x)
    (fun j => ⟨[(0, .c (.dat ID l)), (3, .c (.ptr 0 0)), (7, .c (.int .i64 l.length)), (8, .c (.int .i64 j))], [(0, .cells 40 (ic x))], 1⟩) (fun j => l.length - j) ⟨0, ⟨by omega, by simp⟩, ?_⟩ ?_
  · (conv => whnf); refine ⟨rfl, ?_, ?_, ?_⟩ <;> (repeat' apply And.intro) <;> first | exact trivial | rfl | exact wr_succ _ (by omega) | assumption | exact decide_eq_false (by assumption) | exact decide_eq_true (by assumption)
  rintro j ⟨hJ1, hJ2⟩
  conv => whnf
  refine ⟨fun h4 => ?_, fun h4 => ?_⟩
  · have h4 : j < l.length := by simp at h4; omega
    rw [at_step h4] at hJ2
    conv => whnf
    refine any0 ?_
    conv => whnf
    try (intro _; conv => whnf)
    refine ⟨by omega, ?_⟩
    rw [gt_nat (d := ID) l j h4]
    conv => whnf
    refine eqr0 ID (p := x) (q := l[j]) 100 rfl (by kernel_rfl) rfl (by kernel_rfl) rfl rfl rfl ?_
    conv => whnf
    refine ⟨.inl (by kernel_rfl), after0 ?_⟩
    conv => whnf
    refine ⟨fun h5 => ?_, fun h5 => ?_⟩
    · rw [if_pos h5] at hJ2
      conv => whnf
      rw [atS, if_pos (by omega), show atI l x = j by omega]
    · rw [if_neg (by rw [Bool.not_eq_true]; exact h5)] at hJ2
      conv => whnf
      refine ⟨j + 1, ⟨⟨by omega, by omega⟩, by omega⟩, ?_⟩
      (conv => whnf); refine ⟨rfl, ?_, ?_, ?_⟩ <;> (repeat' apply And.intro) <;> first | exact trivial | rfl | exact wr_succ _ (by omega) | assumption | exact decide_eq_false (by assumption) | exact decide_eq_true (by assumption)
  · conv => whnf
    rw [atS, if_neg (by simp at h4; omega)]

/-- in order -/
def SortI (l : List ID.T) : Prop := ∀ i j (hi : i < l.length) (hj : j < l.length), i < j → ltIx l[i] l[j] = true
theorem posI_eq {l : List ID.T} {x : ID.T} {k : Nat} (hk : k ≤ l.length) (h1 : ∀ i (hi : i < l.length), i < k → ltIx l[i] x = true) (h2 : ∀ (hi : k < l.length), ltIx l[k] x = false) : posI l x = k := by
  unfold posI
  rcases Nat.lt_or_ge k l.length with h | h
  · rw [List.findIdx_eq h]
    exact ⟨by rw [h2 h]; rfl, fun j hj => by rw [h1 j (by omega) hj]; rfl⟩
  · have : k = l.length := by omega
    subst this
    rw [List.findIdx_eq_length]
    intro y hy
    obtain ⟨i, hi, rfl⟩ := List.getElem_of_mem hy
    rw [h1 i hi hi]; rfl
def binS (l : List ID.T) (x : ID.T) : Bool := decide (x ∈ l)
theorem mid_eq (a b : Nat) (h : a + b ≤ 4000) : IntKind.wrap .i64 (IntKind.wrap .u64 (IntKind.wrap .i64 ((a : Int) + (b : Int))) / 2 ^ min (Int.toNat 1) IntKind.u64.bits) = (((a + b) / 2 : Nat) : Int) := by
  rw [show min (Int.toNat 1) IntKind.u64.bits = 1 from rfl, wr64 ((a : Int) + b) (by omega) (by omega), wru64 _ (by omega) (by omega), wr64 _ (by omega) (by omega)]
  omega
theorem slices_Binary (l : List ID.T) (x : ID.T) (hs : SortI l) (hl : l.length ≤ 1000) : FnD Try.prog 126 [.c (.dat ID l), .agg (ic x), .c (.fn 68 [])] (· = .tup [(false, [.int .i64 (posI l x)]), (false, [.bool (.sym (binS l x))])]) := by
  refine fn0 Try.func126 rfl rfl rfl ?_
  conv => whnf
  intro _
  conv => whnf
  refine loop0 (α := Nat × Nat) (fun p => p.1 ≤ p.2 ∧ p.2 ≤ l.length ∧ (∀ i (hi : i < l.length), i < p.1 → ltIx l[i] x = true) ∧ (∀ i (hi : i < l.length), p.2 ≤ i → ltIx l[i] x = false))
    (fun p => ⟨[(0, .c (.dat ID l)), (2, .c (.fn 68 [])), (4, .c (.ptr 0 0)), (8, .c (.int .i64 l.length)), (9, .c (.int .i64 p.1)), (10, .c (.int .i64 p.2))], [(0, .cells 40 (ic x))], 1⟩) (fun p => p.2 - p.1) ⟨(0, l.length), ⟨Nat.zero_le _, Nat.le_refl _, fun i hi h => by omega, fun i hi h => by omega⟩, ?_⟩ ?_
  · (conv => whnf); refine ⟨rfl, ?_, ?_, ?_⟩ <;> (repeat' apply And.intro) <;> first | exact trivial | rfl | exact wr_succ _ (by omega) | assumption | exact decide_eq_false (by assumption) | exact decide_eq_true (by assumption)
  rintro ⟨lo, hi⟩ ⟨hI1, hI2, hI3, hI4⟩
  dsimp only at hI1 hI2 hI3 hI4 ⊢
  conv => whnf
  refine ⟨fun h2 => ?_, fun h2 => ?_⟩
  · have h2 : lo < hi := by simp at h2; omega
    conv => whnf
    refine ⟨by decide, ?_⟩
    conv => whnf
    refine any0 ?_
    conv => whnf
    rw [mid_eq lo hi (by omega)]
    have hm : (lo + hi) / 2 < l.length := by omega
    refine ⟨by omega, ?_⟩
    rw [gt_nat (d := ID) l ((lo + hi) / 2) hm]
    conv => whnf
    refine callr0 (cat_ahead l[(lo + hi) / 2] x) rfl ?_
    conv => whnf
    refine ⟨.inl (by kernel_rfl), after0 ?_⟩
    conv => whnf
    rw [cmpIx_lt]
    generalize hmm : (lo + hi) / 2 = m at hm
    refine ⟨fun h3 => ?_, fun h3 => ?_⟩
    · conv => whnf
      refine ⟨(m + 1, hi), ⟨⟨by dsimp only; omega, hI2, fun i hi1 hi2 => ?_, hI4⟩, by dsimp only; omega⟩, ?_⟩
      · rcases Nat.lt_or_ge i m with h | h
        · exact ltIx_trans (hs i m hi1 hm h) h3
        · have : i = m := by dsimp only at hi2; omega
          subst this; exact h3
      · (conv => whnf); refine ⟨rfl, ?_, ?_, ?_⟩ <;> (repeat' apply And.intro) <;> first | exact trivial | rfl | exact wr_succ _ (by omega) | assumption | exact decide_eq_false (by assumption) | exact decide_eq_true (by assumption)
    · conv => whnf
      refine ⟨(lo, m), ⟨⟨by dsimp only; omega, by dsimp only; omega, hI3, fun i hi1 hi2 => ?_⟩, by dsimp only; omega⟩, ?_⟩
      · rcases Nat.lt_or_ge m i with h | h
        · cases hc : ltIx l[i] x with
          | false => rfl
          | true => exact (ltIx_trans (hs m i hm hi1 h) hc).symm.trans h3
        · have : i = m := by dsimp only at hi2; omega
          subst this; exact h3
      · (conv => whnf); refine ⟨rfl, ?_, ?_, ?_⟩ <;> (repeat' apply And.intro) <;> first | exact trivial | rfl | exact wr_succ _ (by omega) | assumption | exact decide_eq_false (by assumption) | exact decide_eq_true (by assumption)
  · have h2 : lo = hi := by simp at h2; omega
    subst h2
    have hP := posI_eq hI2 hI3 fun h => hI4 lo h (Nat.le_refl _)
    conv => whnf
    refine any0 ?_
    conv => whnf
    refine ⟨fun h => by simp at h; omega, ?_⟩
    conv => whnf
    refine callrg0 (fun _ => cat_ahead _ x) rfl ?_
    conv => whnf
    refine ⟨.inl (by kernel_rfl), after0 ?_⟩
    conv => whnf
    rw [hP]
    have hb : binS l x = (decide ((lo : Int) < (l.length : Int)) && decide (cmpIx (gt (d := ID) l lo) x = 0)) := by
      unfold binS
      rw [Bool.eq_iff_iff, decide_eq_true_eq, Bool.and_eq_true, decide_eq_true_eq, decide_eq_true_eq]
      constructor
      · intro hx
        obtain ⟨i, hi, rfl⟩ := List.getElem_of_mem hx
        have h1 : i = lo := by
          rcases Nat.lt_trichotomy i lo with h | h | h
          · have := hI3 i hi h; rw [ltIx_irr] at this; cases this
          · exact h
          · have := hI4 lo (by omega) (Nat.le_refl _); rw [hs lo i (by omega) hi h] at this; cases this
        subst h1
        exact ⟨by omega, by rw [gt_nat (d := ID) l i hi]; exact (cmpIx_zero _ _).2 rfl⟩
      · rintro ⟨h1, h2⟩
        rw [gt_nat (d := ID) l lo (by omega)] at h2
        rw [← (cmpIx_zero _ _).1 h2]
        exact List.getElem_mem _
    rw [hb]

theorem slices_InsertI (X : List ID.T) (x : ID.T) (j : Nat) (hJ1 : j ≤ X.length) (hl : X.length ≤ 1000) : FnM2 Try.prog 127 [.c (.row 0), .c (.int .i64 j), .c (.row 1)] 40 ID X 40 ID [x] (.c (.dat ID (X.take j ++ [x] ++ X.drop j))) := by
  refine fnM2 noI Try.func127 rfl rfl rfl ?_
  conv => whnf
  refine opnx 0 rfl (fun e => ?_) (fun c hc1 hc2 => ?_)
  · subst e
    have hj : j = 0 := by simp at hJ1; omega
    subst hj
    conv => whnf
    refine ⟨by decide, ?_⟩
    conv => whnf
    intro _
    conv => whnf
    refine fk rfl ?_
    conv => whnf
    refine tk rfl ?_
    conv => whnf
    refine ⟨by show 1 * 32 ≤ 140737488355328; omega, ?_⟩
    conv => whnf
    rfl
  by_cases h5 : j < X.length
  · conv => whnf
    refine ⟨by omega, ?_⟩
    conv => whnf
    intro _
    conv => whnf
    refine fk rfl ?_
    conv => whnf
    intro _
    conv => whnf
    refine fk (by simp; omega) ?_
    conv => whnf
    intro _
    conv => whnf
    have e1 : IntKind.wrap .i64 ((X.length : Int) + (([x] : List (ID).T).length : Nat)) = ((X.length + 1 : Nat) : Int) := by
      show IntKind.wrap .i64 ((X.length : Int) + 1) = _
      rw [wr64 _ (by omega) (by omega)]; omega
    have e2 : IntKind.wrap .i64 ((j : Int) + (([x] : List (ID).T).length : Nat)) = ((j + 1 : Nat) : Int) := by
      show IntKind.wrap .i64 ((j : Int) + 1) = _
      rw [wr64 _ (by omega) (by omega)]; omega
    refine ⟨fun h7 => ?_, fun h7 => ?_⟩
    · rw [e1] at h7
      simp at h7
      conv => whnf
      refine ⟨by omega, ?_⟩
      conv => whnf
      rw [e1]
      have e3 : IntKind.wrap .i64 (((X.length + 1 : Nat) : Int) - j) = ((X.length + 1 - j : Nat) : Int) := by rw [wr64 _ (by omega) (by omega)]; omega
      refine ⟨?_, ?_⟩
      · rw [e3]
        show 0 < _ ∧ ((c - 0 : Nat) : Int) < (((j : Int).toNat - 0 : Nat) : Int) + _ ∧ 0 + 0 + ((j : Int).toNat - 0) ≤ X.length ∧ ((((j : Int).toNat - 0 : Nat) : Int) + _) * ((32 : Nat) : Int) ≤ 140737488355328
        omega
      conv => whnf
      rw [e3]
      generalize hY : (List.take ((j : Int).toNat - 0) (List.drop (0 + 0) X) ++ List.replicate (((X.length + 1 - j : Nat) : Int)).toNat (([], []) : (ID).T)) = Y
      have hYl : Y.length = X.length + 1 := by
        rw [← hY]; simp only [List.length_append, List.length_take, List.length_drop, List.length_replicate]; omega
      refine opns 2 rfl (by rw [hYl]; omega) fun c' hc3 hc4 => ?_
      conv => whnf
      refine ⟨by rw [hYl]; omega, ?_⟩
      conv => whnf
      refine ⟨⟨trivial, ?_, ?_⟩, ?_⟩
      · rw [hYl]; show 0 + (j : Int).toNat ≤ _; omega
      · rw [hYl]; show 0 + (j : Int).toNat + min 1 _ ≤ _; omega
      conv => whnf
      refine any0 ?_
      conv => whnf
      rw [e2]
      refine ⟨by omega, ?_⟩
      conv => whnf
      refine ⟨by omega, ?_⟩
      conv => whnf
      refine ⟨⟨?_, ?_, ?_⟩, ?_⟩
      · show 0 + j + min (X.length - j) (Y.length - (j + 1)) ≤ X.length
        rw [hYl]; omega
      · show 0 + (j + 1) ≤ List.length (List.take (0 + j) Y ++ List.take (Y.length - j) [(x : (ID).T)] ++ List.drop (0 + j + min 1 (Y.length - j)) Y)
        simp only [List.length_append, List.length_take, List.length_drop, List.length_singleton]
        rw [hYl]; omega
      · show 0 + (j + 1) + min (X.length - j) (Y.length - (j + 1)) ≤ c'
        rw [hYl] at hc3 ⊢; omega
      conv => whnf
      refine ⟨.inl (by kernel_rfl), after0 ?_⟩
      conv => whnf
      have hR1 : 0 + Y.length ≤ List.length (List.take (0 + (j + 1)) (List.take (0 + j) Y ++ List.take (Y.length - j) [(x : (ID).T)] ++ List.drop (0 + j + min 1 (Y.length - j)) Y) ++ List.take (min (X.length - j) (Y.length - (j + 1))) (List.drop (0 + j) X) ++ List.drop (0 + (j + 1) + min (X.length - j) (Y.length - (j + 1))) (List.take (0 + j) Y ++ List.take (Y.length - j) [(x : (ID).T)] ++ List.drop (0 + j + min 1 (Y.length - j)) Y)) := by
        simp only [List.length_append, List.length_take, List.length_drop, List.length_singleton]
        rw [hYl]; omega
      have hR2 := growL X Y x _ j h5 hY
      refine ⟨rfl, hR1, ?_⟩
      exact congrArg (fun l => SV.c (.dat ID l)) hR2
    · rw [e1] at h7
      simp at h7
      conv => whnf
      rw [e1]
      refine ⟨by omega, ?_⟩
      conv => whnf
      rw [e2]
      refine ⟨by show 0 ≤ _ ∧ _ ≤ ((X.length + 1 - 0 : Nat) : Int); omega, ?_⟩
      conv => whnf
      refine ovl0 (tS := 24) (tR := 4) (e := 40) Try.func135 rfl rfl (by kernel_rfl) (by kernel_rfl) rfl rfl rfl rfl rfl rfl (by simp) (by omega) ?_
      conv => whnf
      refine any0 ?_
      conv => whnf
      rw [e2]
      refine ⟨by show 0 ≤ _ ∧ _ ≤ ((X.length + 1 - 0 : Nat) : Int); omega, ?_⟩
      conv => whnf
      refine ⟨by show 0 ≤ _ ∧ _ ≤ ((X.length + 1 - 0 : Nat) : Int); omega, ?_⟩
      conv => whnf
      refine ⟨⟨?_, ?_, ?_⟩, ?_⟩
      · show 0 + 0 + j + min (X.length + 1 - 0 - j) (X.length + 1 - 0 - (j + 1)) ≤ X.length
        omega
      · show 0 + 0 + (j + 1) ≤ X.length
        omega
      · show 0 + 0 + (j + 1) + min (X.length + 1 - 0 - j) (X.length + 1 - 0 - (j + 1)) ≤ c
        omega
      conv => whnf
      refine ⟨.inl (by kernel_rfl), after0 ?_⟩
      conv => whnf
      refine ⟨by show 0 ≤ _ ∧ _ ≤ ((X.length + 1 - 0 : Nat) : Int); omega, ?_⟩
      conv => whnf
      refine ⟨⟨trivial, ?_, ?_⟩, ?_⟩
      · show 0 + 0 + j ≤ List.length (List.take (0 + 0 + (j + 1)) X ++ List.take (min (X.length + 1 - 0 - j) (X.length + 1 - 0 - (j + 1))) (List.drop (0 + 0 + j) X) ++ List.drop (0 + 0 + (j + 1) + min (X.length + 1 - 0 - j) (X.length + 1 - 0 - (j + 1))) X)
        simp only [List.length_append, List.length_take, List.length_drop]
        omega
      · show 0 + 0 + j + min 1 (X.length + 1 - 0 - j) ≤ c
        omega
      conv => whnf
      have hR1 : 0 + 0 + (X.length + 1 - 0) ≤ List.length (List.take (0 + 0 + j) (List.take (0 + 0 + (j + 1)) X ++ List.take (min (X.length + 1 - 0 - j) (X.length + 1 - 0 - (j + 1))) (List.drop (0 + 0 + j) X) ++ List.drop (0 + 0 + (j + 1) + min (X.length + 1 - 0 - j) (X.length + 1 - 0 - (j + 1))) X) ++ List.take (X.length + 1 - 0 - j) [(x : (ID).T)] ++ List.drop (0 + 0 + j + min 1 (X.length + 1 - 0 - j)) (List.take (0 + 0 + (j + 1)) X ++ List.take (min (X.length + 1 - 0 - j) (X.length + 1 - 0 - (j + 1))) (List.drop (0 + 0 + j) X) ++ List.drop (0 + 0 + (j + 1) + min (X.length + 1 - 0 - j) (X.length + 1 - 0 - (j + 1))) X)) := by
        simp only [List.length_append, List.length_take, List.length_drop, List.length_singleton]
        omega
      have hR2 := shiftL X x j h5
      refine ⟨rfl, hR1, ?_⟩
      exact congrArg (fun l => SV.c (.dat ID l)) hR2
  · have h5 : j = X.length := by omega
    subst h5
    conv => whnf
    refine ⟨by omega, ?_⟩
    conv => whnf
    intro _
    conv => whnf
    refine fk rfl ?_
    conv => whnf
    intro _
    conv => whnf
    refine tk (by simp) ?_
    conv => whnf
    refine ⟨⟨⟨rfl, rfl, rfl⟩, by show (X.length + 1) * 32 ≤ 140737488355328; omega⟩, ?_⟩
    conv => whnf
    rw [List.take_length, List.drop_length, List.append_nil]
end Go.Proofs.Ythpllblcbbkfdaa
