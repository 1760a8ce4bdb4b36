/- The walks of the reference's Put, PutInt, PutText. Own work. -/
import Derived.Test.YtnldokebmfojeaaDoorNumPuts
set_option linter.unusedVariables false
namespace Go.Proofs.YtnldokebmfojeaaDoor
open Go Go.RowKit OE

theorem ref_Put : ∀ (n : Nat) (hn : n < 18446744073709551616), FnD Tryd.prog 54 [.c (.int .u64 n)] (· = .c (.str (Num.putN n))) := by
  intro n
  induction n using Nat.strongRecOn with
  | _ n ih =>
    intro hn
    refine fn0 Tryd.func54 rfl rfl rfl ?_
    conv => whnf
    refine ⟨fun h1 => ?_, fun h1 => ?_⟩
    · have h1 : n < 128 := by simp at h1; omega
      conv => whnf
      rw [← put_last n h1]
    · have h1 : 128 ≤ n := by simp at h1; omega
      conv => whnf
      refine any0 ?_
      conv => whnf
      refine ⟨by decide, ?_⟩
      conv => whnf
      refine ⟨by decide, ?_⟩
      have e1 : IntKind.wrap .u64 ((n : Int).tdiv 128) = ((n / 128 : Nat) : Int) := by
        rw [Int.tdiv_eq_ediv_of_nonneg (by omega), wru64 _ (by omega) (by omega)]; omega
      conv => whnf
      rw [e1]
      refine callr0 (ih (n / 128) (by omega) (by omega)) rfl ?_
      have e2 : byl [IntKind.wrap .u8 (IntKind.wrap .u64 ((n : Int).tmod 128 + 128))] = [UInt8.ofNat (n % 128 + 128)] := by
        have e3 : IntKind.wrap .u8 (IntKind.wrap .u64 ((n : Int).tmod 128 + 128)) = ((n % 128 + 128 : Nat) : Int) := by
          rw [Int.tmod_eq_emod_of_nonneg (by omega), wru64 _ (by omega) (by omega), wru8]; omega
        rw [e3]; rfl
      have hl := Num.putN_ten (n := n / 128) (by omega)
      conv => whnf
      refine ⟨?_, ?_⟩
      · rw [e2]; simp only [List.length_singleton]; omega
      conv => whnf
      refine ⟨.inl (by kernel_rfl), after0 ?_⟩
      conv => whnf
      rw [e2, Num.putN_ge h1]
      rfl

theorem ref_PutInt (n : Int) (h0 : -9223372036854775808 ≤ n) (h1 : n ≤ 9223372036854775807) : FnD Tryd.prog 56 [.c (.int .i64 n)] (· = .c (.str (Num.putZ n))) := by
  refine fn0 Tryd.func56 rfl rfl rfl ?_
  conv => whnf
  refine ⟨fun h => ?_, fun h => ?_⟩
  · simp at h
    have e1 : Num.zig n = (-2 * n - 1).toNat := by unfold Num.zig; rw [if_neg (by omega)]
    have e2 : IntKind.wrap .u64 (IntKind.wrap .u64 (2 * IntKind.wrap .u64 (IntKind.wrap .i64 (0 - IntKind.wrap .i64 (n + 1)))) + 1) = ((Num.zig n : Nat) : Int) := by
      rw [wr64 (n + 1) (by omega) (by omega), wr64 (0 - (n + 1)) (by omega) (by omega), wru64 (0 - (n + 1)) (by omega) (by omega), wru64 (2 * (0 - (n + 1))) (by omega) (by omega), wru64 _ (by omega) (by omega), e1]; omega
    conv => whnf
    rw [e2]
    refine call1 (ref_Put (Num.zig n) (zig_bd n h0 h1)) rfl ?_
    conv => whnf
    rfl
  · simp at h
    have e1 : Num.zig n = (2 * n).toNat := by unfold Num.zig; rw [if_pos h]
    have e2 : IntKind.wrap .u64 (2 * IntKind.wrap .u64 n) = ((Num.zig n : Nat) : Int) := by
      rw [wru64 n (by omega) (by omega), wru64 _ (by omega) (by omega), e1]; omega
    conv => whnf
    rw [e2]
    refine call1 (ref_Put (Num.zig n) (zig_bd n h0 h1)) rfl ?_
    conv => whnf
    rfl

theorem ref_PutText (s : List UInt8) (hs : s.length ≤ 140737488355327) : FnD Tryd.prog 27 [.c (.str s)] (· = .c (.str (Num.putT s))) := by
  refine fn0 Tryd.func27 rfl rfl rfl ?_
  conv => whnf
  rw [wru64 _ (by omega) (by omega)]
  have hp := Num.putN_ten (n := s.length) (by omega)
  refine call1 (ref_Put _ (by omega)) rfl ?_
  conv => whnf
  refine ⟨by omega, ?_⟩
  conv => whnf
  rfl

end Go.Proofs.YtnldokebmfojeaaDoor
