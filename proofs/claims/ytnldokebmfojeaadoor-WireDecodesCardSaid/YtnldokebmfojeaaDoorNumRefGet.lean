/- The walks of the reference's Get, GetInt, GetText. Own work. -/
import Derived.Test.YtnldokebmfojeaaDoorNumRef
set_option linter.unusedVariables false
namespace Go.Proofs.YtnldokebmfojeaaDoor
open Go Go.RowKit OE

def gotR (o : Option (Nat × Nat)) : SV := .agg [.int .u64 ((o.getD (0, 0)).1 : Nat), .int .i64 ((o.getD (0, 0)).2 : Nat), .bool (.sym o.isSome)]
def gotIntR (o : Option (Nat × Nat)) : SV := .agg [.int .i64 (Num.zag (o.getD (0, 0)).1), .int .i64 ((o.getD (0, 0)).2 : Nat), .bool (.sym o.isSome)]
def gotTextR (o : Option (List UInt8 × Nat)) : SV := .agg [.str (o.getD ([], 0)).1, .int .i64 ((o.getD ([], 0)).2 : Nat), .bool (.sym o.isSome)]

theorem refget_bits (n c i : Nat) (hn : n < 128 ^ i) (hi : i ≤ 9) (hc : c < 256) (h9 : i = 9 → c ≤ 1) :
    IntKind.wrap .u64 ((n : Int) + IntKind.wrap .u64 ((c : Int).tmod 128 * ((128 ^ i : Nat) : Int))) = ((n + c % 128 * 128 ^ i : Nat) : Int) := by
  have hb : n + c % 128 * 128 ^ i < 18446744073709551616 := by
    by_cases h : i = 9
    · subst h
      have : c % 128 ≤ 1 := by have := h9 rfl; omega
      have : c % 128 * 128 ^ 9 ≤ 1 * 128 ^ 9 := Nat.mul_le_mul_right _ this
      omega
    · have h1 : c % 128 * 128 ^ i ≤ 127 * 128 ^ i := Nat.mul_le_mul_right _ (by omega)
      have h2 : (128 : Nat) ^ i ≤ 128 ^ 8 := Nat.pow_le_pow_right (by omega) (by omega)
      omega
  have e1 : (c : Int).tmod 128 * ((128 ^ i : Nat) : Int) = ((c % 128 * 128 ^ i : Nat) : Int) := by
    rw [Int.tmod_eq_emod_of_nonneg (by omega), Int.natCast_mul]; rfl
  rw [e1, wru64 ((c % 128 * 128 ^ i : Nat) : Int) (by omega) (by omega), wru64 _ (by omega) (by omega)]
  omega

theorem refnum_Get (s : List UInt8) (at_ : Int) (hs : s.length ≤ 4611686018427387904) : FnD Tryd.prog 62 [.c (.str s), .c (.int .i64 at_)] (· = gotR (Num.getN s at_)) := by
  refine fn0 Tryd.func62 rfl rfl rfl ?_
  conv => whnf
  refine ⟨fun h1 => ?_, fun h1 => ?_⟩
  · conv => whnf
    simp at h1
    have : Num.getN s at_ = none := by unfold Num.getN; rw [if_pos (by omega)]
    rw [this]; rfl
  simp at h1
  obtain ⟨a, rfl⟩ := Int.eq_ofNat_of_zero_le h1.1
  have hget : Num.getN s a = Num.getL (s.drop a) 0 0 := by
    unfold Num.getN; rw [if_neg (by omega)]; rfl
  conv => whnf
  refine loop0 (α := Nat × Nat) (fun p => p.1 ≤ 10 ∧ (p.1 ≤ 9 ∧ p.2 < 128 ^ p.1 ∧ a + p.1 ≤ s.length ∧ Num.getL (s.drop (a + p.1)) p.1 p.2 = Num.getL (s.drop a) 0 0))
    (fun p => ⟨[(0, .c (.str s)), (1, .c (.int .i64 a)), (4, .c (.ptr 0 0)), (5, .c (.int .u64 p.2)), (6, .c (.int .u64 ((128 ^ p.1 : Nat) : Int))), (7, .c (.int .i64 p.1))], [(0, .cells 109 [.int .u64 0, .int .i64 0, .bool .ff])], 1⟩) (fun p => 10 - p.1) ⟨(0, 0), ⟨by simp, by simp, by simp, by dsimp only; omega, by simp⟩, ?_⟩ ?_
  · conv => whnf
    exact ⟨rfl, ⟨rfl, rfl, rfl, rfl, rfl, rfl, trivial⟩, trivial, ⟨rfl, rfl, rfl, trivial⟩, trivial⟩
  · rintro ⟨i, n⟩ ⟨_, hI1, hI3, hI4, hI5⟩
    dsimp only at hI1 hI3 hI4 hI5 ⊢
    have e1 : IntKind.wrap .i64 ((a : Int) + i) = ((a + i : Nat) : Int) := by rw [wr64 _ (by omega) (by omega)]; omega
    conv => whnf
    rw [e1]
    refine ⟨fun h3 => ?_, fun h3 => ?_⟩
    · have hlt : a + i < s.length := by simp at h3; omega
      have hb : bt s ((a + i : Nat) : Int) = ((s[a + i]).toNat : Int) := bt_nat s (a + i) hlt
      have hL : Num.getL (s.drop (a + i)) i n = if i = 9 ∧ s[a + i].toNat ≠ 1 ∨ s[a + i].toNat = 0 ∧ 0 < i then none
          else if s[a + i].toNat < 128 then some (n + s[a + i].toNat % 128 * 128 ^ i, i + 1) else Num.getL (s.drop (a + (i + 1))) (i + 1) (n + s[a + i].toNat % 128 * 128 ^ i) := by
        rw [List.drop_eq_getElem_cons hlt]
        rfl
      have hc := (s[a + i]).toNat_lt
      generalize s[a + i].toNat = c at hb hL hc
      have hnone : (i = 9 ∧ c ≠ 1 ∨ c = 0 ∧ 0 < i) → Num.getN s a = none := by
        intro h
        rw [hget, ← hI5, hL, if_pos h]
      have e8 : IntKind.wrap .i64 ((i : Int) + 1) = ((i + 1 : Nat) : Int) := by rw [wr64 _ (by omega) (by omega)]; omega
      conv => whnf
      refine ⟨by rw [e1]; omega, ?_⟩
      rw [e1, hb]
      conv => whnf
      rw [wru64 (c : Int) (by omega) (by omega)]
      refine ⟨fun h4 => ?_, fun h4 => ?_⟩
      · simp at h4
        conv => whnf
        rw [hnone (by omega)]
        rfl
      simp at h4
      have hok : ¬ (i = 9 ∧ c ≠ 1 ∨ c = 0 ∧ 0 < i) := by omega
      have h9 : i = 9 → c ≤ 1 := by omega
      conv => whnf
      refine ⟨by decide, ?_⟩
      conv => whnf
      rw [refget_bits n c i hI3 hI1 hc h9]
      refine ⟨fun h7 => ?_, fun h7 => ?_⟩
      · conv => whnf
        simp at h7
        rw [if_neg hok, if_pos (by omega)] at hL
        rw [hget, ← hI5, hL, e8]
        rfl
      · simp at h7
        rw [if_neg hok, if_neg (by omega)] at hL
        have u1 : i + 1 ≤ 9 := by omega
        have e9 : IntKind.wrap .u64 (((128 ^ i : Nat) : Int) * 128) = ((128 ^ (i + 1) : Nat) : Int) := by
          have h2 : (128 : Nat) ^ (i + 1) ≤ 128 ^ 9 := Nat.pow_le_pow_right (by omega) u1
          rw [Nat.pow_succ] at h2 ⊢
          rw [wru64 _ (by omega) (by omega)]; omega
        conv => whnf
        refine ⟨(i + 1, n + c % 128 * 128 ^ i), ⟨⟨by dsimp only; omega, u1, ?_, by dsimp only; omega, by rw [← hL]; exact hI5⟩, by dsimp only; omega⟩, ?_⟩
        · have h1 : c % 128 * 128 ^ i ≤ 127 * 128 ^ i := Nat.mul_le_mul_right _ (by omega)
          dsimp only
          rw [Nat.pow_succ]
          omega
        conv => whnf
        exact ⟨rfl, ⟨rfl, rfl, rfl, rfl, e9.symm, e8.symm, trivial⟩, trivial, ⟨rfl, rfl, rfl, trivial⟩, trivial⟩
    · conv => whnf
      simp at h3
      rw [hget, ← hI5, List.drop_of_length_le (by omega)]
      rfl
end Go.Proofs.YtnldokebmfojeaaDoor
