/- The walks of wire.lacks, Next. Own work. -/
import Derived.Test.YtnldokebmfojeaaDoorWireTop
set_option linter.unusedVariables false
set_option maxRecDepth 100000
namespace Go.Proofs.YtnldokebmfojeaaDoor
open Go Go.RowKit OE

/-- may bytes become a message's length? -/
def lackS : List UInt8 → Bool
  | [] => true
  | [c] => decide (128 ≤ c.toNat)
  | _ => false
theorem wire_lacks (s : List UInt8) (hs : s.length ≤ 1000000) : FnD Tryd.prog 50 [.c (.str s), .c (.int .u64 8192)] (· = .c (.bool (.sym (lackS s)))) := by
  refine fn0 Tryd.func50 rfl rfl rfl ?_
  conv => whnf
  refine loop0 (α := Nat × Nat) (fun p => p.1 ≤ 1 ∧ p.2 < 128 ^ p.1 ∧ p.1 ≤ s.length ∧ (p.1 = 1 → ∃ c l, s = c :: l ∧ 128 ≤ c.toNat))
    (fun p => ⟨[(0, .c (.str s)), (1, .c (.int .u64 8192)), (5, .c (.int .u64 p.2)), (8, .c (.int .i64 s.length)), (9, .c (.int .i64 p.1))], [], 0⟩) (fun p => 2 - p.1) ⟨(0, 0), ⟨by dsimp only; omega, by decide, Nat.zero_le _, fun h => (by cases h)⟩, ?_⟩ ?_
  · (conv => whnf); refine ⟨rfl, ?_, ?_, ?_⟩ <;> (repeat' apply And.intro) <;> first | exact trivial | rfl | exact wr_succ _ (by omega) | assumption | exact decide_eq_false (by assumption) | exact decide_eq_true (by assumption)
  rintro ⟨i, n⟩ ⟨hI1, hI2, hI3, hI4⟩
  dsimp only at hI1 hI2 hI3 hI4 ⊢
  conv => whnf
  refine ⟨fun h4 => ?_, fun h4 => ?_⟩
  · have h4 : i < s.length := by simp at h4; omega
    have hb : bt s (i : Int) = ((s[i]).toNat : Int) := bt_nat s i h4
    conv => whnf
    refine ⟨by omega, ?_⟩
    conv => whnf
    rw [hb]
    have hlong : i = 1 → lackS s = false := fun h => by
      obtain ⟨c, l, rfl, _⟩ := hI4 h
      cases l with
      | nil => simp at h4; omega
      | cons d l => rfl
    refine ⟨fun h5 => ?_, fun h5 => ?_⟩
    · have hL : lackS s = false := by
        rcases Nat.lt_or_ge i 1 with hi | hi
        · have hi : i = 0 := by omega
          subst hi
          have h6 : s[0].toNat < 128 := by simp at h5; omega
          cases s with
          | nil => simp at h4
          | cons c l =>
            cases l with
            | nil => simp only [lackS]; exact decide_eq_false (by simpa using h6)
            | cons => rfl
        · exact hlong (by omega)
      rw [hL]
      conv => whnf
    have h6 : 128 ≤ s[i].toNat := by simp at h5; omega
    have hc := (s[i]).toNat_lt
    have hg := get_bits n s[i].toNat i hI2 (by omega) hc (by omega)
    have e7 : IntKind.wrap .i64 (7 * (i : Int)) = ((7 * i : Nat) : Int) := by rw [wr64 _ (by omega) (by omega)]; omega
    have e8 : IntKind.wrap .i64 (IntKind.wrap .i64 (7 * (i : Int)) + 7) = ((7 * i + 7 : Nat) : Int) := by rw [e7, wr64 _ (by omega) (by omega)]; omega
    conv => whnf
    refine ⟨by omega, ?_⟩
    conv => whnf
    rw [hb]
    refine ⟨by rw [e7]; omega, ?_⟩
    conv => whnf
    refine ⟨by rw [e8]; omega, ?_⟩
    conv => whnf
    rw [hg, e8]
    have hT : IntKind.wrap .u64 (((n + s[i].toNat % 128 * 128 ^ i : Nat) : Int) + IntKind.wrap .u64 (1 * 2 ^ min (((7 * i + 7 : Nat) : Int)).toNat IntKind.u64.bits)) = ((n + s[i].toNat % 128 * 128 ^ i + 2 ^ (7 * i + 7) : Nat) : Int) := by
      rcases Nat.lt_or_ge i 1 with hi | hi
      · have hi : i = 0 := by omega
        subst hi
        rw [show IntKind.wrap .u64 (1 * 2 ^ min (((7 * 0 + 7 : Nat) : Int)).toNat IntKind.u64.bits) = 128 from rfl, wru64 _ (by omega) (by omega)]
        try omega
      · have hi : i = 1 := by omega
        subst hi
        rw [show IntKind.wrap .u64 (1 * 2 ^ min (((7 * 1 + 7 : Nat) : Int)).toNat IntKind.u64.bits) = 16384 from rfl, wru64 _ (by omega) (by omega)]
        try omega
    rw [hT]
    refine ⟨fun h7 => ?_, fun h7 => ?_⟩
    · have h7 : 8192 < n + s[i].toNat % 128 * 128 ^ i + 2 ^ (7 * i + 7) := by have := of_decide_eq_true h7; omega
      rw [hlong (by
        rcases Nat.lt_or_ge i 1 with hi | hi
        · have hi : i = 0 := by omega
          subst hi
          simp at h7 hI2
          omega
        · omega)]
      conv => whnf
    have h7 : ¬ 8192 < n + s[i].toNat % 128 * 128 ^ i + 2 ^ (7 * i + 7) := fun h => by have := of_decide_eq_false h7; omega
    have hi : i = 0 := by
      rcases Nat.lt_or_ge i 1 with hi | hi
      · omega
      · have hi : i = 1 := by omega
        subst hi
        exfalso; omega
    subst hi
    conv => whnf
    refine ⟨(1, n + s[0].toNat % 128 * 128 ^ 0), ⟨⟨by dsimp only; omega, by dsimp only; simp at hI2 ⊢; omega, by dsimp only; omega, fun _ => ?_⟩, by dsimp only; omega⟩, ?_⟩
    · cases s with
      | nil => simp at h4
      | cons c l => exact ⟨c, l, rfl, h6⟩
    (conv => whnf); refine ⟨rfl, ?_, ?_, ?_⟩ <;> (repeat' apply And.intro) <;> first | exact trivial | rfl | exact wr_succ _ (by omega) | assumption | exact decide_eq_false (by assumption) | exact decide_eq_true (by assumption)
  · have h4 : i = s.length := by simp at h4; omega
    have hL : lackS s = true := by
      rcases Nat.lt_or_ge i 1 with hi | hi
      · have : s = [] := List.eq_nil_of_length_eq_zero (by omega)
        rw [this]; rfl
      · obtain ⟨c, l, rfl, h7⟩ := hI4 (by omega)
        cases l with
        | nil => exact decide_eq_true h7
        | cons => simp at h4; omega
    rw [hL]
    conv => whnf
/-- the message with which bytes begin: its body, its size, an error -/
def nextM (s : List UInt8) : List UInt8 × Int × Int :=
  if (Num.getN s 0).isSome = false ∧ lackS s = true then ([], 0, 0)
  else if (Num.getN s 0).isSome = false ∨ (8192 : Int) < (nS s 0).1 then ([], 0, 11)
  else if s.length < (nS s 0).1 + (nS s 0).2 then ([], 0, 0)
  else ((s.drop (nS s 0).2).take (nS s 0).1, ((nS s 0).2 + (nS s 0).1 : Nat), 0)
theorem wire_Next (s : List UInt8) (hs : s.length ≤ 1000000) : FnD Tryd.prog 19 [.c (.str s)] (· = .tup [(false, [.str (nextM s).1]), (false, [.int .i64 (nextM s).2.1]), (false, [.int .i64 (nextM s).2.2])]) := by
  refine fn0 Tryd.func19 rfl rfl rfl ?_
  conv => whnf
  refine call1 (num_Get s 0 (Nat.le_trans hs (by decide))) rfl ?_
  conv => whnf
  refine callg0 (fun _ => wire_lacks s hs) rfl ?_
  conv => whnf
  refine ⟨fun a => ?_, fun a => ?_⟩
  · rw [show nextM s = ([], 0, 0) from if_pos (by simpa using a)]
    conv => whnf
  have a : ¬ ((Num.getN s 0).isSome = false ∧ lackS s = true) := fun h => by rw [h.1, h.2] at a; cases a
  conv => whnf
  refine ⟨fun b => ?_, fun b => ?_⟩
  · rw [show nextM s = ([], 0, 11) by
      unfold nextM; rw [if_neg a, if_pos]
      rw [Bool.or_eq_true, decide_eq_true_eq, Bool.not_eq_true'] at b
      exact b]
    conv => whnf
  have b' : ¬ ((Num.getN s 0).isSome = false ∨ (8192 : Int) < (nS s 0).1) := by
    rw [Bool.or_eq_false_iff, decide_eq_false_iff_not, Bool.not_eq_false'] at b
    rintro (h | h)
    · rw [b.1] at h; cases h
    · exact b.2 h
  have b1 : (nS s 0).1 ≤ 8192 := by
    have : ¬ (8192 : Int) < (nS s 0).1 := fun h => b' (.inr h)
    omega
  have b2 : (nS s 0).2 ≤ s.length := by
    have := nS_bd (s := s) (k := 0) (by
      cases h : (Num.getN s 0).isSome with
      | true => rfl
      | false => exact (b' (.inl h)).elim)
    omega
  clear b
  conv => whnf
  rw [show ((Num.getN s 0).getD (0, 0)) = nS s 0 from rfl]
  generalize hn : nS s 0 = p at b1 b2 b'
  rw [wr64 ((s.length : Int) - (p.2 : Int)) (by omega) (by omega), wru64 ((s.length : Int) - (p.2 : Int)) (by omega) (by omega)]
  refine ⟨fun c => ?_, fun c => ?_⟩
  · rw [show nextM s = ([], 0, 0) by
      unfold nextM; rw [if_neg a, hn, if_neg b', if_pos (by simp at c; omega)]]
    conv => whnf
  have c : p.1 + p.2 ≤ s.length := by simp at c; omega
  rw [show nextM s = ((s.drop p.2).take p.1, ((p.2 + p.1 : Nat) : Int), 0) by
    unfold nextM; rw [if_neg a, hn, if_neg b', if_neg (by omega)]]
  conv => whnf
  have hw : IntKind.wrap .i64 ((p.2 : Int) + IntKind.wrap .i64 (p.1 : Int)) = ((p.2 + p.1 : Nat) : Int) := by
    rw [wr64 (p.1 : Int) (by omega) (by omega), wr64 _ (by omega) (by omega)]; omega
  rw [hw]
  refine ⟨⟨⟨by omega, by omega⟩, by omega, by omega⟩, ?_⟩
  conv => whnf
  rw [Int.toNat_natCast, Int.toNat_natCast, List.drop_take, show p.2 + p.1 - p.2 = p.1 by omega]
end Go.Proofs.YtnldokebmfojeaaDoor
