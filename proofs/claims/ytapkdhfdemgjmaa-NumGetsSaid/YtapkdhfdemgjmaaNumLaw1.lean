/- The walks of wakes, NumOrder and NumInts. Own work. -/
import Derived.Test.YtapkdhfdemgjmaaNumPuts
import Derived.Test.YtapkdhfdemgjmaaNumGets
set_option linter.unusedVariables false
namespace Go.Proofs.Ytapkdhfdemgjmaa
open Go Go.RowKit OE

theorem put300 : Num.putN 300 = [172, 2] := by rw [Num.putN_ge (by decide), Num.putN_lt (by decide)]; rfl
theorem put1 : Num.putN 1 = [1] := by rw [Num.putN_lt (by decide)]; rfl
theorem put2 : Num.putN 2 = [2] := by rw [Num.putN_lt (by decide)]; rfl

theorem num_wakes : FnD Try.prog 9 [] (· = .c (.bool (.sym true))) := by
  refine fn0 Try.func9 rfl rfl rfl ?_
  conv => whnf
  refine call1 (num_Get [172, 2] 0 (by decide)) rfl ?_
  rw [show Num.getN [172, 2] 0 = some (300, 2) from by decide]
  conv => whnf
  refine call1 (num_Get [128, 0] 0 (by decide)) rfl ?_
  rw [show Num.getN [128, 0] 0 = none from by decide]
  conv => whnf
  refine call1 (num_Put 300 (by decide)) rfl ?_
  rw [put300]
  conv => whnf
  refine tk (by decide) ?_
  conv => whnf
  refine tk (by decide) ?_
  conv => whnf
  refine tk (by decide) ?_
  conv => whnf
  refine tk rfl ?_
  conv => whnf
  refine tk rfl ?_
  conv => whnf
  refine call1 (num_PutInt (-1) (by decide) (by decide)) rfl ?_
  rw [show Num.putZ (-1) = [1] from put1]
  conv => whnf
  refine tk (by decide) ?_
  conv => whnf
  refine call1 (num_PutText [97, 98] (by decide)) rfl ?_
  rw [show Num.putT [97, 98] = [2, 97, 98] from by unfold Num.putT; rw [show [(97 : UInt8), 98].length = 2 from rfl, put2]; rfl]
  conv => whnf
  rfl

theorem law_NumOrder (a b : Nat) (ha : a < 18446744073709551616) (hb : b < 18446744073709551616) : FnD Try.prog 4 [.c (.int .u64 a), .c (.int .u64 b)] (· = .c (.bool (.sym true))) := by
  refine fn0 Try.func4 rfl rfl rfl ?_
  conv => whnf
  refine call1 (num_Put a ha) rfl ?_
  conv => whnf
  refine call1 (num_Put b hb) rfl ?_
  have hp := Num.putN_pos a
  have ht := Num.putN_ten ha
  conv => whnf
  refine tk (by simp; omega) ?_
  conv => whnf
  refine tk (by simp; omega) ?_
  conv => whnf
  have last : ((a : Int) = b ↔ Num.putN a = Num.putN b) := ⟨fun h => by rw [Int.ofNat.inj h], fun h => by rw [Num.putN_inj ha hb h]⟩
  refine ⟨fun h1 => ?_, fun h1 => ?_⟩
  · conv => whnf
    refine tk (by simp [last]) ?_
    conv => whnf
    refine call1 num_wakes rfl ?_
    conv => whnf
  · have hm := Num.putN_mono a b (by simp at h1; omega)
    conv => whnf
    refine tk (by simp; omega) ?_
    conv => whnf
    refine tk (by simp [last]) ?_
    conv => whnf
    refine call1 num_wakes rfl ?_
    conv => whnf

theorem putN_two (n : Nat) : 1 < (Num.putN n).length ↔ 128 ≤ n := by
  by_cases h : n < 128
  · rw [Num.putN_lt h]; simp; omega
  · rw [Num.putN_ge (by omega)]
    have := Num.putN_pos (n / 128)
    simp only [List.length_cons]
    omega

theorem law_NumInts (n : Int) (h0 : -9223372036854775808 ≤ n) (h1 : n ≤ 9223372036854775807) : FnD Try.prog 5 [.c (.int .i64 n)] (· = .c (.bool (.sym true))) := by
  refine fn0 Try.func5 rfl rfl rfl ?_
  conv => whnf
  refine call1 (num_PutInt n h0 h1) rfl ?_
  have h2 := putN_two (Num.zig n)
  conv => whnf
  refine ⟨fun h => ?_, fun h => ?_⟩
  · simp at h
    have e1 : Num.zig n = (2 * n).toNat := by unfold Num.zig; rw [if_pos h]
    have e2 : IntKind.wrap .u64 (2 * IntKind.wrap .u64 n) = ((Num.zig n : Nat) : Int) := by
      rw [wru64 n (by omega) (by omega), wru64 _ (by omega) (by omega), e1]; omega
    conv => whnf
    rw [e2]
    refine call1 (num_Put (Num.zig n) (zig_bd n h0 h1)) rfl ?_
    conv => whnf
    refine tk (by simp [Num.putZ]) ?_
    conv => whnf
    refine tk (by unfold Num.putZ; simp; omega) ?_
    conv => whnf
    refine call1 num_wakes rfl ?_
    conv => whnf
  · simp at h
    have e1 : Num.zig n = (-2 * n - 1).toNat := by unfold Num.zig; rw [if_neg (by omega)]
    have e2 : IntKind.wrap .u64 (IntKind.wrap .u64 (2 * IntKind.wrap .u64 (IntKind.wrap .i64 (0 - IntKind.wrap .i64 (n + 1)))) + 1) = ((Num.zig n : Nat) : Int) := by
      rw [wr64 (n + 1) (by omega) (by omega), wr64 (0 - (n + 1)) (by omega) (by omega), wru64 (0 - (n + 1)) (by omega) (by omega), wru64 (2 * (0 - (n + 1))) (by omega) (by omega), wru64 _ (by omega) (by omega), e1]; omega
    conv => whnf
    rw [e2]
    refine call1 (num_Put (Num.zig n) (zig_bd n h0 h1)) rfl ?_
    conv => whnf
    refine tk (by simp [Num.putZ]) ?_
    conv => whnf
    refine tk (by unfold Num.putZ; simp; omega) ?_
    conv => whnf
    refine call1 num_wakes rfl ?_
    conv => whnf
theorem row_NumOrder (a : Int) (ha : (Lit.int .u64 a).wf = true) (b : Int) (hb : (Lit.int .u64 b).wf = true) : FnD Try.prog 4 [.c (.int .u64 a), .c (.int .u64 b)] (· = .c (.bool (.sym true))) := by
  have ha := wf_u64 ha
  have hb := wf_u64 hb
  obtain ⟨a, rfl⟩ := Int.eq_ofNat_of_zero_le ha.1
  obtain ⟨b, rfl⟩ := Int.eq_ofNat_of_zero_le hb.1
  exact law_NumOrder a b (by omega) (by omega)
theorem row_NumInts (a : Int) (ha : (Lit.int .i64 a).wf = true) : FnD Try.prog 5 [.c (.int .i64 a)] (· = .c (.bool (.sym true))) :=
  law_NumInts a (wf_i64 ha).1 (wf_i64 ha).2
end Go.Proofs.Ytapkdhfdemgjmaa
