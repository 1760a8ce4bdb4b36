/- The walk of num.Get. Own work. -/
import Derived.Test.YtnldokebmfojeaaDoorNumSpec
import Derived.Test.YtnldokebmfojeaaDoorTab
set_option linter.unusedVariables false
namespace Go.Proofs.YtnldokebmfojeaaDoor
open Go Go.RowKit OE

def getR (o : Option (Nat × Nat)) : SV :=
  .tup [(false, [.int .u64 ((o.getD (0, 0)).1 : Nat)]), (false, [.int .i64 ((o.getD (0, 0)).2 : Nat)]), (false, [.bool (.sym o.isSome)])]

theorem get_bits (n c i : Nat) (hn : n < 128 ^ i) (hi : i ≤ 9) (hc : c < 256) (h9 : i = 9 → c ≤ 1) :
    bits .or .u64 (n : Int) (IntKind.wrap .u64 (IntKind.wrap .u64 (bits .and .u8 (c : Int) 127) * 2 ^ min (Int.toNat (IntKind.wrap .i64 (7 * (i : Int)))) IntKind.u64.bits)) = ((n + c % 128 * 128 ^ i : Nat) : Int) := by
  have hp : (128 : Nat) ^ i = 2 ^ (7 * i) := by rw [Nat.pow_mul]
  rw [hp] at hn ⊢
  have e1 : IntKind.wrap .i64 (7 * (i : Int)) = ((7 * i : Nat) : Int) := by rw [wr64 _ (by omega) (by omega)]; omega
  have e2 : min (Int.toNat ((7 * i : Nat) : Int)) IntKind.u64.bits = 7 * i := by
    show min (7 * i) 64 = _
    omega
  have hb : n + c % 128 * 2 ^ (7 * i) < 18446744073709551616 := by
    by_cases h : i = 9
    · subst h
      have : c % 128 ≤ 1 := by have := h9 rfl; omega
      have : c % 128 * 2 ^ (7 * 9) ≤ 1 * 2 ^ (7 * 9) := Nat.mul_le_mul_right _ this
      omega
    · have h1 : c % 128 * 2 ^ (7 * i) ≤ 127 * 2 ^ (7 * i) := Nat.mul_le_mul_right _ (by omega)
      have h2 : (2 : Nat) ^ (7 * i) ≤ 2 ^ 56 := Nat.pow_le_pow_right (by omega) (by omega)
      omega
  rw [e1, e2, and127 c hc, wru64 ((c % 128 : Nat) : Int) (by omega) (by omega)]
  have e3 : ((c % 128 : Nat) : Int) * 2 ^ (7 * i) = ((c % 128 * 2 ^ (7 * i) : Nat) : Int) := by
    rw [Int.natCast_mul, Int.natCast_pow]; rfl
  rw [e3, wru64 _ (by omega) (by omega)]
  exact or_apart n (c % 128) (7 * i) hn hb

theorem num_Get (s : List UInt8) (at_ : Int) (hs : s.length ≤ 4611686018427387904) : FnD Tryd.prog 49 [.c (.str s), .c (.int .i64 at_)] (· = getR (Num.getN s at_)) := by
  refine fn0 Tryd.func49 rfl rfl rfl ?_
  conv => whnf
  refine ⟨fun h1 => ?_, fun h1 => ?_⟩
  · conv => whnf
    simp at h1
    have : Num.getN s at_ = none := by unfold Num.getN; rw [if_pos (by omega)]
    rw [this]; rfl
  conv => whnf
  simp at h1
  obtain ⟨a, rfl⟩ := Int.eq_ofNat_of_zero_le h1.1
  have hget : Num.getN s a = Num.getL (s.drop a) 0 0 := by
    unfold Num.getN; rw [if_neg (by omega)]; rfl
  refine loop0 (α := Nat × Nat) (fun p => p.1 ≤ 9 ∧ p.2 < 128 ^ p.1 ∧ a + p.1 ≤ s.length ∧ Num.getL (s.drop (a + p.1)) p.1 p.2 = Num.getL (s.drop a) 0 0)
    (fun p => ⟨[(0, .c (.str s)), (1, .c (.int .i64 a)), (4, .c (.int .u64 p.2)), (7, .c (.int .i64 p.1))], [], 0⟩) (fun p => 10 - p.1) ⟨(0, 0), ⟨by simp, by simp, by dsimp only; omega, rfl⟩, ?_⟩ ?_
  · conv => whnf
    exact ⟨rfl, ⟨rfl, rfl, rfl, rfl, trivial⟩, trivial, trivial⟩
  · rintro ⟨i, n⟩ ⟨hI1, hI3, hI4, hI5⟩
    dsimp only at hI1 hI3 hI4 hI5 ⊢
    have e1 : IntKind.wrap .i64 ((a : Int) + i) = (a + i : Nat) := by rw [wr64 _ (by omega) (by omega)]; omega
    conv => whnf
    rw [e1]
    refine ⟨fun h1 => ?_, fun h1 => ?_⟩
    · simp at h1
      have hlt : a + i < s.length := by omega
      have hb : bt s ((a + i : Nat) : Int) = ((s[a + i]).toNat : Int) := bt_nat s (a + i) hlt
      have hL : Num.getL (s.drop (a + i)) i n = if i = 9 ∧ s[a + i].toNat ≠ 1 ∨ s[a + i].toNat = 0 ∧ 0 < i then none
          else if s[a + i].toNat < 128 then some (n + s[a + i].toNat % 128 * 128 ^ i, i + 1) else Num.getL (s.drop (a + (i + 1))) (i + 1) (n + s[a + i].toNat % 128 * 128 ^ i) := by
        rw [List.drop_eq_getElem_cons hlt]
        rfl
      have hc := (s[a + i]).toNat_lt
      generalize s[a + i].toNat = c at hb hL hc
      conv => whnf
      refine ⟨by rw [e1]; omega, ?_⟩
      rw [e1, hb]
      conv => whnf
      have hnone : (i = 9 ∧ c ≠ 1 ∨ c = 0 ∧ 0 < i) → Num.getN s a = none := by
        intro h
        rw [hget, ← hI5, hL, if_pos h]
      have e7 : IntKind.wrap .i64 (7 * (i : Int)) = ((7 * i : Nat) : Int) := by rw [wr64 _ (by omega) (by omega)]; omega
      have e8 : IntKind.wrap .i64 ((i : Int) + 1) = ((i + 1 : Nat) : Int) := by rw [wr64 _ (by omega) (by omega)]; omega
      refine ⟨fun h2 => ?_, fun h2 => ?_⟩
      · simp at h2
        conv => whnf
        rw [hnone (by omega)]
        rfl
      simp at h2
      conv => whnf
      refine ⟨fun h3 => ?_, fun h3 => ?_⟩
      · simp at h3
        conv => whnf
        rw [hnone (by omega)]
        rfl
      simp at h3
      have h9 : i = 9 → c ≤ 1 := by omega
      have hok : ¬ (i = 9 ∧ c ≠ 1 ∨ c = 0 ∧ 0 < i) := by omega
      rw [if_neg hok] at hL
      conv => whnf
      refine ⟨by rw [e7]; omega, ?_⟩
      conv => whnf
      rw [get_bits n c i hI3 hI1 hc h9]
      refine ⟨fun h5 => ?_, fun h5 => ?_⟩
      · conv => whnf
        simp at h5
        rw [if_pos (by omega)] at hL
        rw [hget, ← hI5, hL, e8]
        rfl
      · simp at h5
        conv => whnf
        rw [if_neg (by omega)] at hL
        refine ⟨(i + 1, n + c % 128 * 128 ^ i), ⟨⟨by dsimp only; omega, ?_, by dsimp only; omega, by rw [← hL]; exact hI5⟩, by dsimp only; omega⟩, ?_⟩
        · have h1 : c % 128 * 128 ^ i ≤ 127 * 128 ^ i := Nat.mul_le_mul_right _ (by omega)
          dsimp only
          rw [Nat.pow_succ]
          omega
        conv => whnf
        exact ⟨rfl, ⟨rfl, rfl, rfl, e8.symm, trivial⟩, trivial, trivial⟩
    · conv => whnf
      simp at h1
      rw [hget, ← hI5, List.drop_of_length_le (by omega)]
      rfl
end Go.Proofs.YtnldokebmfojeaaDoor
