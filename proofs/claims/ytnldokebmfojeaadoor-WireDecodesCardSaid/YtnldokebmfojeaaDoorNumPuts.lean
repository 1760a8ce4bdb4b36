/- The walks of num.PutInt and num.PutText. Own work. -/
import Derived.Test.YtnldokebmfojeaaDoorNumPut
set_option linter.unusedVariables false
namespace Go.Proofs.YtnldokebmfojeaaDoor
open Go Go.RowKit OE

theorem putint_bits (n : Int) (h0 : -9223372036854775808 ≤ n) (h1 : n ≤ 9223372036854775807) :
    bits .xor .u64 (IntKind.wrap .u64 (IntKind.wrap .u64 n * 2 ^ min (Int.toNat 1) IntKind.u64.bits)) (IntKind.wrap .u64 (n / 2 ^ min (Int.toNat 63) IntKind.i64.bits)) = ((Num.zig n : Nat) : Int) := by
  have e1 : IntKind.wrap .u64 (IntKind.wrap .u64 n * 2 ^ min (Int.toNat 1) IntKind.u64.bits) = ((2 * n) % 18446744073709551616) := by
    rw [wru64m, wru64m]
    show (_ * 2 ^ 1) % _ = _
    omega
  have e2 : n / 2 ^ min (Int.toNat 63) IntKind.i64.bits = if 0 ≤ n then 0 else -1 := by
    show n / 2 ^ 63 = _
    split <;> omega
  rw [e1, e2]
  unfold Num.zig
  by_cases h : 0 ≤ n
  · rw [if_pos h, if_pos h]
    obtain ⟨m, rfl⟩ := Int.eq_ofNat_of_zero_le h
    have e3 : (2 * (m : Int)) % 18446744073709551616 = ((2 * m : Nat) : Int) := by omega
    have e4 : IntKind.wrap .u64 0 = ((0 : Nat) : Int) := rfl
    rw [e3, e4, u64_xor_nat _ _ (by omega) (by omega), Nat.xor_zero]
    omega
  · rw [if_neg h, if_neg h]
    have e3 : (2 * n) % 18446744073709551616 = (((2 * n + 18446744073709551616).toNat : Nat) : Int) := by omega
    have e4 : IntKind.wrap .u64 (-1) = ((18446744073709551615 : Nat) : Int) := rfl
    rw [e3, e4, u64_xor_nat _ _ (by omega) (by omega), xor_max _ (by omega)]
    omega
theorem zig_bd (n : Int) (h0 : -9223372036854775808 ≤ n) (h1 : n ≤ 9223372036854775807) : Num.zig n < 18446744073709551616 := by
  unfold Num.zig
  split <;> omega

theorem num_PutInt (n : Int) (h0 : -9223372036854775808 ≤ n) (h1 : n ≤ 9223372036854775807) : FnD Tryd.prog 82 [.c (.int .i64 n)] (· = .c (.str (Num.putZ n))) := by
  refine fn0 Tryd.func82 rfl rfl rfl ?_
  conv => whnf
  refine ⟨by decide, ?_⟩
  conv => whnf
  refine ⟨by decide, ?_⟩
  conv => whnf
  rw [putint_bits n h0 h1]
  refine call1 (num_Put _ (zig_bd n h0 h1)) rfl ?_
  conv => whnf
  rfl

theorem num_PutText (s : List UInt8) (hs : s.length ≤ 140737488355327) : FnD Tryd.prog 32 [.c (.str s)] (· = .c (.str (Num.putT s))) := by
  refine fn0 Tryd.func32 rfl rfl rfl ?_
  conv => whnf
  rw [wru64 _ (by omega) (by omega)]
  have hp := Num.putN_ten (n := s.length) (by omega)
  refine call1 (num_Put _ (by omega)) rfl ?_
  conv => whnf
  refine ⟨by omega, ?_⟩
  conv => whnf
  rfl
end Go.Proofs.YtnldokebmfojeaaDoor
