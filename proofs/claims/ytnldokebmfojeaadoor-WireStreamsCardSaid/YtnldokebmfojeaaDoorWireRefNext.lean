/- The walk of the reference's Next; what the message is, by its first bytes. Own work. -/
import Derived.Test.YtnldokebmfojeaaDoorWireNext
set_option linter.unusedVariables false
set_option maxRecDepth 100000
namespace Go.Proofs.YtnldokebmfojeaaDoor
open Go Go.RowKit OE

/-- a length and what is behind it -/
def finM (s : List UInt8) (n k : Nat) : List UInt8 × Int × Int :=
  if s.length < n + k then ([], 0, 0) else ((s.drop k).take n, ((k + n : Nat) : Int), 0)
theorem getN_zero (s : List UInt8) : Num.getN s 0 = Num.getL s 0 0 := by
  unfold Num.getN
  rw [if_neg (by omega)]
  rfl
theorem getL_one (c : UInt8) (l : List UInt8) : Num.getL (c :: l) 0 0 = if c.toNat < 128 then some (c.toNat, 1) else Num.getL l 1 (c.toNat % 128) := by
  simp only [Num.getL]
  rw [if_neg (by omega)]
  split
  · rename_i h; rw [Nat.mod_eq_of_lt h]; simp
  · simp
theorem getL_two (d : UInt8) (l : List UInt8) (n : Nat) : Num.getL (d :: l) 1 n = if d.toNat = 0 then none else if d.toNat < 128 then some (n + d.toNat % 128 * 128, 2) else Num.getL l 2 (n + d.toNat % 128 * 128) := by
  simp only [Num.getL]
  by_cases h : d.toNat = 0
  · rw [if_pos (.inr ⟨h, by omega⟩), if_pos h]
  · rw [if_neg (by omega), if_neg h]
theorem nx_some {s : List UInt8} {n k : Nat} (h : Num.getN s 0 = some (n, k)) (hn : n ≤ 8192) : nextM s = finM s n k := by
  have h1 : nS s 0 = (n, k) := by unfold nS; rw [h]; rfl
  unfold nextM
  have h2 : ¬ ((some (n, k) : Option (Nat × Nat)).isSome = false ∧ lackS s = true) := fun h => by cases h.1
  have h3 : ¬ ((some (n, k) : Option (Nat × Nat)).isSome = false ∨ (8192 : Int) < ((n, k) : Nat × Nat).1) := by
    rintro (h | h)
    · cases h
    · dsimp only at h; omega
  rw [h1, h, if_neg h2, if_neg h3]
  rfl
theorem nx_bad {s : List UInt8} (h : ∀ n k, Num.getN s 0 = some (n, k) → 8192 < n) (hl : lackS s = false) : nextM s = ([], 0, 11) := by
  unfold nextM
  rw [if_neg (by rintro ⟨_, h⟩; rw [hl] at h; cases h), if_pos]
  cases hg : Num.getN s 0 with
  | none => exact .inl rfl
  | some p =>
    have := h p.1 p.2 hg
    have h1 : nS s 0 = p := by unfold nS; rw [hg]; rfl
    rw [h1]
    exact .inr (by omega)
theorem nx_nil : nextM [] = ([], 0, 0) := by rfl
theorem nx_one {c : UInt8} {l : List UInt8} (h : c.toNat < 128) : nextM (c :: l) = finM (c :: l) c.toNat 1 :=
  nx_some (by rw [getN_zero, getL_one, if_pos h]) (by omega)
theorem nx_short {c : UInt8} (h : 128 ≤ c.toNat) : nextM [c] = ([], 0, 0) := by
  unfold nextM
  rw [if_pos ⟨by rw [getN_zero, getL_one, if_neg (by omega)]; rfl, by simp [lackS, h]⟩]
theorem nx_two {c d : UInt8} {l : List UInt8} (h : 128 ≤ c.toNat) (h1 : d.toNat ≠ 0) (h2 : d.toNat < 128) (h3 : c.toNat % 128 + d.toNat % 128 * 128 ≤ 8192) : nextM (c :: d :: l) = finM (c :: d :: l) (c.toNat % 128 + d.toNat % 128 * 128) 2 :=
  nx_some (by rw [getN_zero, getL_one, if_neg (by omega), getL_two, if_neg h1, if_pos h2]) h3
theorem nx_err {c d : UInt8} {l : List UInt8} (h : 128 ≤ c.toNat) (h1 : d.toNat = 0 ∨ 8192 < c.toNat % 128 + d.toNat % 128 * 128 ∨ 128 ≤ d.toNat) : nextM (c :: d :: l) = ([], 0, 11) := by
  refine nx_bad (fun n k hg => ?_) rfl
  rw [getN_zero, getL_one, if_neg (by omega), getL_two] at hg
  split at hg
  · cases hg
  · rename_i h0
    split at hg
    · simp only [Option.some.injEq, Prod.mk.injEq] at hg
      omega
    · obtain ⟨m, e, _, h2, _⟩ := Num.getL_take hg
      rcases h2 with h2 | h2
      · cases h2
      · have : m * 128 ^ 2 = m * 16384 := by rfl
        omega
abbrev nxR (p : List UInt8 × Int × Int) : SV := .tup [(true, [.str p.1, .int .i64 p.2.1]), (false, [.int .i64 p.2.2])]
theorem refwire_Next (s : List UInt8) (hs : s.length ≤ 1000000) : FnD Tryd.prog 20 [.c (.str s), .c (.int .i64 8192)] (· = nxR (nextM s)) := by
  refine fn0 Tryd.func20 rfl rfl rfl ?_
  conv => whnf
  refine loop0 (α := Nat × Nat) (fun p => p.1 ≤ 2 ∧ p.2 < 128 ^ p.1 ∧ (p.1 = 1 → ∃ c l, s = c :: l ∧ 128 ≤ c.toNat ∧ p.2 = c.toNat % 128) ∧ (p.1 = 2 → ∃ c d l, s = c :: d :: l ∧ 128 ≤ c.toNat ∧ 128 ≤ d.toNat))
    (fun p => ⟨[(0, .c (.str s)), (1, .c (.int .i64 8192)), (4, .c (.ptr 0 0)), (5, .c (.int .i64 0)), (6, .c (.int .i64 p.2)), (7, .c (.int .i64 ((128 ^ p.1 : Nat) : Int))), (8, .c (.int .i64 p.1))], [(0, .cells 46 [.str [], .int .i64 0])], 1⟩) (fun p => 3 - p.1) ⟨(0, 0), ⟨by dsimp only; omega, by decide, fun h => (by cases h), fun h => (by cases h)⟩, ?_⟩ ?_
  · (conv => whnf); refine ⟨rfl, ?_, ?_, ?_⟩ <;> (repeat' apply And.intro) <;> first | exact trivial | rfl | exact wr_succ _ (by omega) | assumption | exact decide_eq_false (by assumption) | exact decide_eq_true (by assumption)
  rintro ⟨i, n⟩ ⟨hI1, hI2, hI3, hI4⟩
  dsimp only at hI1 hI2 hI3 hI4 ⊢
  conv => whnf
  have hle : i ≤ s.length := by
    rcases Nat.lt_or_ge i 1 with h | h
    · omega
    · rcases Nat.lt_or_ge i 2 with h' | h'
      · obtain ⟨c, l, rfl, _⟩ := hI3 (by omega); rw [List.length_cons]; omega
      · obtain ⟨c, d, l, rfl, _⟩ := hI4 (by omega); rw [List.length_cons, List.length_cons]; omega
  have hlen2 : i = 2 → nextM s = ([], 0, 11) := fun h => by
    obtain ⟨c, d, l, rfl, h1, h2⟩ := hI4 h
    exact nx_err h1 (.inr (.inr h2))
  have h128 : i = 0 ∧ 128 ^ i = 1 ∨ i = 1 ∧ 128 ^ i = 128 ∨ i = 2 ∧ 128 ^ i = 16384 := by
    rcases Nat.lt_or_ge i 1 with h | h
    · have : i = 0 := by omega
      subst this; exact .inl ⟨rfl, rfl⟩
    · rcases Nat.lt_or_ge i 2 with h' | h'
      · have : i = 1 := by omega
        subst this; exact .inr (.inl ⟨rfl, rfl⟩)
      · have : i = 2 := by omega
        subst this; exact .inr (.inr ⟨rfl, rfl⟩)
  refine ⟨fun h4 => ?_, fun h4 => ?_⟩
  · have h4 : i = s.length := by simp at h4; omega
    conv => whnf
    refine ⟨fun h5 => ?_, fun h5 => ?_⟩
    · have h5 : 8192 < 128 ^ i := by
        rw [Bool.and_eq_true, decide_eq_true_eq, decide_eq_true_eq] at h5; omega
      rw [hlen2 (by omega)]
      conv => whnf
    · have h5 : ¬ i = 2 := fun h => by
        rw [h] at h5; exact absurd h5 (by decide)
      have : nextM s = ([], 0, 0) := by
        rcases Nat.lt_or_ge i 1 with h | h
        · rw [List.eq_nil_of_length_eq_zero (l := s) (by omega)]; exact nx_nil
        · obtain ⟨c, l, rfl, h6, _⟩ := hI3 (by omega)
          rw [List.eq_nil_of_length_eq_zero (l := l) (by rw [List.length_cons] at h4; omega)]
          exact nx_short h6
      rw [this]
      conv => whnf
  have h4 : i < s.length := by simp at h4; omega
  have hb : bt s (i : Int) = ((s[i]).toNat : Int) := bt_nat s i h4
  have hc := (s[i]).toNat_lt
  conv => whnf
  refine ⟨by omega, ?_⟩
  conv => whnf
  rw [hb, wr64 ((s[i]).toNat : Int) (by omega) (by omega)]
  refine ⟨fun h5 => ?_, fun h5 => ?_⟩
  · have : nextM s = ([], 0, 11) := by
      by_cases h6 : i = 2
      · exact hlen2 h6
      · have h7 : i = 1 ∧ s[i].toNat = 0 := by
          rw [Bool.or_eq_true, Bool.and_eq_true, decide_eq_true_eq, decide_eq_true_eq, decide_eq_true_eq] at h5; omega
        obtain ⟨rfl, h7⟩ := h7
        obtain ⟨c, l, rfl, h8, _⟩ := hI3 rfl
        cases l with
        | nil => simp at h4
        | cons d l => exact nx_err h8 (.inl h7)
    rw [this]
    conv => whnf
  have h5 : i ≤ 1 ∧ (i = 1 → s[i].toNat ≠ 0) := by
    rw [Bool.or_eq_false_iff, Bool.and_eq_false_iff, decide_eq_false_iff_not, decide_eq_false_iff_not, decide_eq_false_iff_not] at h5
    omega
  have hM : IntKind.wrap .i64 ((n : Int) + IntKind.wrap .i64 (((s[i].toNat : Nat) : Int).tmod 128 * ((128 ^ i : Nat) : Int))) = ((n + s[i].toNat % 128 * 128 ^ i : Nat) : Int) := by
    have e : ((s[i].toNat : Nat) : Int).tmod 128 * ((128 ^ i : Nat) : Int) = ((s[i].toNat % 128 * 128 ^ i : Nat) : Int) := by
      rw [Int.tmod_eq_emod_of_nonneg (by omega), Int.natCast_mul]; rfl
    have h : s[i].toNat % 128 * 128 ^ i ≤ 127 * 128 := Nat.mul_le_mul (by omega) (by omega)
    rw [e, wr64 ((s[i].toNat % 128 * 128 ^ i : Nat) : Int) (by omega) (by omega), wr64 _ (by omega) (by omega)]
    omega
  have e8 : IntKind.wrap .i64 ((i : Int) + 1) = ((i + 1 : Nat) : Int) := by rw [wr64 _ (by omega) (by omega)]; omega
  have e9 : IntKind.wrap .i64 (((128 ^ i : Nat) : Int) * 128) = ((128 ^ (i + 1) : Nat) : Int) := by
    rw [Nat.pow_succ, wr64 _ (by omega) (by omega)]; omega
  conv => whnf
  refine ⟨by decide, ?_⟩
  conv => whnf
  rw [hM]
  refine ⟨fun h6 => ?_, fun h6 => ?_⟩
  · have h6 : 8192 < n + s[i].toNat % 128 * 128 ^ i := by rw [decide_eq_true_eq] at h6; omega
    have : nextM s = ([], 0, 11) := by
      have h7 : i = 1 := by
        rcases Nat.lt_or_ge i 1 with h | h
        · have : i = 0 := by omega
          subst this
          simp at h6 hI2
          omega
        · omega
      subst h7
      obtain ⟨c, l, rfl, h8, h9⟩ := hI3 rfl
      cases l with
      | nil => simp at h4
      | cons d l => exact nx_err h8 (.inr (.inl (by rw [h9] at h6; simpa using h6)))
    rw [this]
    conv => whnf
  have h6 : n + s[i].toNat % 128 * 128 ^ i ≤ 8192 := by rw [decide_eq_false_iff_not] at h6; omega
  conv => whnf
  refine ⟨fun h7 => ?_, fun h7 => ?_⟩
  · have h7 : s[i].toNat < 128 := by rw [decide_eq_true_eq] at h7; omega
    have hN : nextM s = finM s (n + s[i].toNat % 128 * 128 ^ i) (i + 1) := by
      rcases Nat.lt_or_ge i 1 with h | h
      · have : i = 0 := by omega
        subst this
        cases s with
        | nil => simp at h4
        | cons c l =>
          have h7 : c.toNat < 128 := h7
          have hn : n = 0 := by simp at hI2; omega
          rw [nx_one h7, hn]
          show _ = finM (c :: l) (0 + c.toNat % 128 * 128 ^ 0) 1
          rw [Nat.mod_eq_of_lt h7, Nat.pow_zero, Nat.mul_one, Nat.zero_add]
      · have : i = 1 := by omega
        subst this
        obtain ⟨c, l, rfl, h8, h9⟩ := hI3 rfl
        cases l with
        | nil => simp at h4
        | cons d l =>
          have h7 : d.toNat < 128 := h7
          have h5 : d.toNat ≠ 0 := h5.2 rfl
          have h6 : n + d.toNat % 128 * 128 ^ 1 ≤ 8192 := h6
          rw [nx_two h8 h5 h7 (by rw [h9] at h6; simpa using h6), h9]
          rfl
    rw [hN]
    generalize n + s[i].toNat % 128 * 128 ^ i = M at h6
    unfold finM
    conv => whnf
    have e10 : IntKind.wrap .i64 ((s.length : Int) - IntKind.wrap .i64 ((i : Int) + 1)) = (s.length : Int) - ((i + 1 : Nat) : Int) := by rw [e8, wr64 _ (by omega) (by omega)]
    have e11 : IntKind.wrap .i64 (IntKind.wrap .i64 ((i : Int) + 1) + (M : Int)) = ((i + 1 + M : Nat) : Int) := by rw [e8, wr64 _ (by omega) (by omega)]; omega
    rw [e10]
    refine ⟨fun c => ?_, fun c => ?_⟩
    · have c : s.length < M + (i + 1) := by rw [decide_eq_true_eq] at c; omega
      rw [if_pos c]
      conv => whnf
    have c : ¬ s.length < M + (i + 1) := by rw [decide_eq_false_iff_not] at c; omega
    rw [if_neg c]
    conv => whnf
    rw [e8, show IntKind.wrap .i64 (((i + 1 : Nat) : Int) + (M : Int)) = ((i + 1 + M : Nat) : Int) by rw [wr64 _ (by omega) (by omega)]; omega]
    refine ⟨⟨⟨by omega, by omega⟩, by omega, by omega⟩, ?_⟩
    conv => whnf
    rw [Int.toNat_natCast, Int.toNat_natCast, List.drop_take, show i + 1 + M - (i + 1) = M by omega]
    try rw [show IntKind.wrap .i64 (((i + 1 : Nat) : Int) + (M : Int)) = ((i + 1 + M : Nat) : Int) by rw [wr64 _ (by omega) (by omega)]; omega]
  · have h7 : 128 ≤ s[i].toNat := by rw [decide_eq_false_iff_not] at h7; omega
    conv => whnf
    rw [e8, e9]
    refine ⟨(i + 1, n + s[i].toNat % 128 * 128 ^ i), ⟨⟨by dsimp only; omega, ?_, ?_, ?_⟩, by dsimp only; omega⟩, ?_⟩
    · have h1 : s[i].toNat % 128 * 128 ^ i ≤ 127 * 128 ^ i := Nat.mul_le_mul_right _ (by omega)
      dsimp only
      rw [Nat.pow_succ]
      omega
    · intro h
      have h : i = 0 := by dsimp only at h; omega
      subst h
      cases s with
      | nil => simp at h4
      | cons c l => exact ⟨c, l, rfl, h7, by simp at hI2 ⊢; omega⟩
    · intro h
      have h : i = 1 := by dsimp only at h; omega
      subst h
      obtain ⟨c, l, rfl, h8, h9⟩ := hI3 rfl
      cases l with
      | nil => simp at h4
      | cons d l => exact ⟨c, d, l, rfl, h8, h7⟩
    (conv => whnf); refine ⟨rfl, ?_, ?_, ?_⟩ <;> (repeat' apply And.intro) <;> first | exact trivial | rfl | exact wr_succ _ (by omega) | assumption | exact decide_eq_false (by assumption) | exact decide_eq_true (by assumption)
end Go.Proofs.YtnldokebmfojeaaDoor
