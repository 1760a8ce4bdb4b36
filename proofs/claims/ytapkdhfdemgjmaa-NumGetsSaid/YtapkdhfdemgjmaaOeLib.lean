/- OE, part 10: small facts on leaves: wraps, bits, bytes. Own work. -/
import Derived.Test.YtapkdhfdemgjmaaOeDraw
import Derived.Laws.BitsAllLaws
import GoSem.Claim
namespace OE
open Go Go.RowKit

/-- a test whose outcome is known -/
theorem tk {b : Bool} {X Y : Prop} (hb : b = true) (hx : X) : (b = true → X) ∧ (b = false → Y) := ⟨fun _ => hx, fun h => by rw [hb] at h; cases h⟩
theorem fk {b : Bool} {X Y : Prop} (hb : b = false) (hy : Y) : (b = true → X) ∧ (b = false → Y) := ⟨fun h => (by rw [hb] at h; cases h), fun _ => hy⟩

theorem wf_i64 {a : Int} (h : (Lit.int .i64 a).wf = true) : -9223372036854775808 ≤ a ∧ a ≤ 9223372036854775807 := by
  simpa [Lit.wf, IntKind.min, IntKind.max, IntKind.bits, IntKind.signed] using h
theorem wf_u64 {a : Int} (h : (Lit.int .u64 a).wf = true) : 0 ≤ a ∧ a ≤ 18446744073709551615 := by
  simpa [Lit.wf, IntKind.min, IntKind.max, IntKind.bits, IntKind.signed] using h

theorem wr64 (x : Int) (h0 : -9223372036854775808 ≤ x) (h1 : x ≤ 9223372036854775807) : IntKind.wrap .i64 x = x := by
  have e : IntKind.wrap .i64 x = if (9223372036854775808 : Int) ≤ x % 18446744073709551616 then x % 18446744073709551616 - 18446744073709551616 else x % 18446744073709551616 := by
    simp [IntKind.wrap, IntKind.bits, IntKind.signed]
  rw [e]
  split <;> omega
theorem wru64 (x : Int) (h0 : 0 ≤ x) (h1 : x ≤ 18446744073709551615) : IntKind.wrap .u64 x = x := by
  have e : IntKind.wrap .u64 x = x % 18446744073709551616 := by simp [IntKind.wrap, IntKind.bits, IntKind.signed]
  rw [e]; omega
theorem wru64m (x : Int) : IntKind.wrap .u64 x = x % 18446744073709551616 := by simp [IntKind.wrap, IntKind.bits, IntKind.signed]
theorem wru8 (x : Int) : IntKind.wrap .u8 x = x % 256 := by simp [IntKind.wrap, IntKind.bits, IntKind.signed]
theorem wr64m (x : Int) : IntKind.wrap .i64 x = if (9223372036854775808 : Int) ≤ x % 18446744073709551616 then x % 18446744073709551616 - 18446744073709551616 else x % 18446744073709551616 := by
  simp [IntKind.wrap, IntKind.bits, IntKind.signed]

theorem and127 (c : Nat) (h : c < 256) : bits .and .u8 (c : Int) 127 = ((c % 128 : Nat) : Int) := by
  have := u8_and_nat c 127 h (by omega)
  rw [show ((127 : Nat) : Int) = 127 from rfl] at this
  rw [this, show (127 : Nat) = 2 ^ 7 - 1 from rfl, Nat.and_two_pow_sub_one_eq_mod]
theorem or128 (c : Nat) (h : c < 256) : bits .or .u8 (c : Int) 128 = ((c % 128 + 128 : Nat) : Int) := by
  have := u8_or_nat c 128 h (by omega)
  rw [show ((128 : Nat) : Int) = 128 from rfl] at this
  rw [this]
  congr 1
  have e1 : ∀ d : Nat, d < 128 → d ||| 128 = d + 128 := by
    intro d hd
    rw [Nat.or_comm]
    have := Nat.two_pow_add_eq_or_of_lt (i := 7) (b := d) hd 1
    simp only [Nat.mul_one, show (2 : Nat) ^ 7 = 128 from rfl] at this
    omega
  by_cases hc : c < 128
  · rw [e1 c hc, Nat.mod_eq_of_lt hc]
  · have e2 : c = c % 128 + 128 := by omega
    have e3 := e1 (c % 128) (Nat.mod_lt _ (by omega))
    rw [← e3]
    rw [← e3] at e2
    conv => lhs; rw [e2]
    rw [Nat.or_assoc, Nat.or_self]
theorem or_apart (n m i : Nat) (hn : n < 2 ^ i) (hb : n + m * 2 ^ i < 18446744073709551616) : bits .or .u64 (n : Int) ((m * 2 ^ i : Nat) : Int) = ((n + m * 2 ^ i : Nat) : Int) := by
  rw [u64_or_nat n (m * 2 ^ i) (by omega) (by omega)]
  congr 1
  rw [Nat.or_comm, Nat.mul_comm, ← Nat.two_pow_add_eq_or_of_lt hn]
  omega

theorem xor_max (a : Nat) (h : a < 18446744073709551616) : a ^^^ 18446744073709551615 = 18446744073709551615 - a := by
  have e := congrArg BitVec.toNat (BitVec.xor_allOnes (x := BitVec.ofNat 64 a))
  rw [BitVec.toNat_xor, BitVec.toNat_allOnes, BitVec.toNat_not, BitVec.toNat_ofNat, Nat.mod_eq_of_lt h] at e
  exact e
theorem wrx (x : Nat) (hx : x < 18446744073709551616) : IntKind.wrap .i64 (x : Int) = if x < 9223372036854775808 then (x : Int) else x - 18446744073709551616 := by
  rw [wr64m]; split <;> split <;> omega
theorem xor64_zero (a : Int) (h0 : -9223372036854775808 ≤ a) (h1 : a ≤ 9223372036854775807) : bits .xor .i64 a 0 = a := by
  have : bits .xor .i64 a 0 = IntKind.wrap .i64 ((BitVec.ofInt 64 a ^^^ 0#64).toNat : Nat) := rfl
  rw [this, BitVec.xor_zero, wrx _ (BitVec.isLt _), BitVec.toNat_ofInt]
  split <;> omega
theorem xor64_one (a : Int) (h0 : -9223372036854775808 ≤ a) (h1 : a ≤ 9223372036854775807) : bits .xor .i64 a (-1) = -a - 1 := by
  have : bits .xor .i64 a (-1) = IntKind.wrap .i64 ((BitVec.ofInt 64 a ^^^ BitVec.allOnes 64).toNat : Nat) := rfl
  rw [this, BitVec.xor_allOnes, wrx _ (BitVec.isLt _), BitVec.toNat_not, BitVec.toNat_ofInt]
  split <;> omega

theorem bt_nat (s : List UInt8) (i : Nat) (h : i < s.length) : bt s (i : Int) = ((s[i]).toNat : Int) := by
  simp [bt, h]
theorem gt_nat {d : D} (xs : List d.T) (i : Nat) (h : i < xs.length) : gt xs (i : Int) = xs[i] := by
  unfold gt
  simp [List.getD, h]
theorem bt_rng (s : List UInt8) (i : Int) : 0 ≤ bt s i ∧ bt s i < 256 := by
  unfold bt
  have := (s.getD i.toNat 0).toNat_lt
  omega

theorem byl_app (xs ys : List Int) : byl (xs ++ ys) = byl xs ++ byl ys := by simp [byl]

end OE
