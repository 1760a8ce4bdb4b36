/- The walks of the reference's Get, GetInt, GetText. Own work. -/
import Derived.Test.YtfpgjaallhpddabNumRef
set_option linter.unusedVariables false
namespace Go.Proofs.Ytfpgjaallhpddab
open Go Go.RowKit OE

def gotR (o : Option (Nat × Nat)) : SV := .agg [.int .u64 ((o.getD (0, 0)).1 : Nat), .int .i64 ((o.getD (0, 0)).2 : Nat), .bool (.sym o.isSome)]
def gotIntR (o : Option (Nat × Nat)) : SV := .agg [.int .i64 (Num.zag (o.getD (0, 0)).1), .int .i64 ((o.getD (0, 0)).2 : Nat), .bool (.sym o.isSome)]
def gotTextR (o : Option (List UInt8 × Nat)) : SV := .agg [.str (o.getD ([], 0)).1, .int .i64 ((o.getD ([], 0)).2 : Nat), .bool (.sym o.isSome)]

theorem refget_bits (n c i : Nat) (hn : n < 128 ^ i) (hi : i ≤ 9) (hc : c < 256) (h9 : i = 9 → c ≤ 1) :
    IntKind.wrap .u64 ((n : Int) + IntKind.wrap .u64 ((c : Int).tmod 128 * ((128 ^ i : Nat) : Int))) = ((n + c % 128 * 128 ^ i : Nat) : Int) := by
  have hb : n + c % 128 * 128 ^ i < 18446744073709551616 := by
    by_cases h : i = 9
    · subst h
      have : c % 128 ≤ 1 := by have := h9 rfl; omega
      have : c % 128 * 128 ^ 9 ≤ 1 * 128 ^ 9 := Nat.mul_le_mul_right _ this
      omega
    · have h1 : c % 128 * 128 ^ i ≤ 127 * 128 ^ i := Nat.mul_le_mul_right _ (by omega)
      have h2 : (128 : Nat) ^ i ≤ 128 ^ 8 := Nat.pow_le_pow_right (by omega) (by omega)
      omega
  have e1 : (c : Int).tmod 128 * ((128 ^ i : Nat) : Int) = ((c % 128 * 128 ^ i : Nat) : Int) := by
    rw [Int.tmod_eq_emod_of_nonneg (by omega), Int.natCast_mul]; rfl
  rw [e1, wru64 ((c % 128 * 128 ^ i : Nat) : Int) (by omega) (by omega), wru64 _ (by omega) (by omega)]
  omega

end Go.Proofs.Ytfpgjaallhpddab
