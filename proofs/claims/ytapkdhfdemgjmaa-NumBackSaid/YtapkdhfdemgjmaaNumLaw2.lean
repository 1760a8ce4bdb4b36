/- The walk of NumBack. Own work. -/
import Derived.Test.YtapkdhfdemgjmaaNumLaw1
import Derived.Test.YtapkdhfdemgjmaaOeOpen
set_option linter.unusedVariables false
namespace Go.Proofs.Ytapkdhfdemgjmaa
open Go Go.RowKit OE

theorem zag_zig (b : Int) : Num.zag (Num.zig b) = b := by
  unfold Num.zag Num.zig
  split <;> split <;> omega

theorem law_NumBack (a : Nat) (ha : a < 18446744073709551616) (b : Int) (hb0 : -9223372036854775808 ≤ b) (hb1 : b ≤ 9223372036854775807) (p q : List UInt8) :
    FnD Try.prog 6 [.c (.int .u64 a), .c (.int .i64 b), .agg [.str p, .str q]] (· = .c (.bool (.sym true))) := by
  refine fn0 Try.func6 rfl rfl rfl ?_
  conv => whnf
  refine ⟨fun h1 => ?_, fun h1 => ?_⟩
  · conv => whnf
    refine call1 num_wakes rfl ?_
    conv => whnf
  conv => whnf
  refine ⟨fun h2 => ?_, fun h2 => ?_⟩
  · conv => whnf
    refine call1 num_wakes rfl ?_
    conv => whnf
  simp at h1 h2
  have ha10 := Num.putN_ten ha
  have hz10 := Num.putN_ten (zig_bd b hb0 hb1)
  conv => whnf
  refine call1 (num_Put a ha) rfl ?_
  conv => whnf
  refine call1 (num_PutInt b hb0 hb1) rfl ?_
  have hz10 : (Num.putZ b).length ≤ 10 := hz10
  conv => whnf
  refine ⟨by omega, ?_⟩
  conv => whnf
  refine ⟨by simp only [List.length_append]; omega, ?_⟩
  conv => whnf
  refine call1 (num_Get _ _ (by simp only [List.length_append]; omega)) rfl ?_
  rw [Num.getN_put a p q ha]
  conv => whnf
  refine ⟨by omega, ?_⟩
  conv => whnf
  refine ⟨by simp only [List.length_append]; omega, ?_⟩
  conv => whnf
  refine call1 (num_GetInt _ _ (by simp only [List.length_append]; omega)) rfl ?_
  rw [show Num.getN (p ++ Num.putZ b ++ q) p.length = _ from Num.getN_put (Num.zig b) p q (zig_bd b hb0 hb1)]
  conv => whnf
  refine fk rfl ?_
  conv => whnf
  refine fk rfl ?_
  conv => whnf
  refine fk (by simp) ?_
  conv => whnf
  refine fk (by simp [zag_zig]) ?_
  conv => whnf
  refine fk (by simp) ?_
  conv => whnf
  refine fk (by simp [Num.putZ]) ?_
  conv => whnf
  refine call1 (num_Get q 0 (by omega)) rfl ?_
  cases hg : Num.getN q 0 with
  | none =>
    conv => whnf
    refine draw0 (by kernel_rfl) ?_
    conv => whnf
    refine tk rfl ?_
    conv => whnf
    refine callq0 num_wakes rfl rfl ?_
    conv => whnf
    refine after0 ?_
    conv => whnf
  | some y =>
    obtain ⟨n, k⟩ := y
    obtain ⟨hb1, hb2, hb3, hb4, hb5⟩ := Num.getN_bd hg
    have ht := Num.getN_take hg
    conv => whnf
    refine draw0 (by kernel_rfl) ?_
    conv => whnf
    refine fk rfl ?_
    conv => whnf
    refine tk (by simp; omega) ?_
    conv => whnf
    refine callq0 (num_Put n (by omega)) rfl rfl ?_
    conv => whnf
    refine ⟨by simp at hb5; omega, ?_⟩
    conv => whnf
    refine tk ?_ ?_
    · rw [← ht]; simp
    conv => whnf
    refine callq0 num_wakes rfl rfl ?_
    conv => whnf
    refine after0 ?_
    conv => whnf

theorem row_NumBack (a : Int) (wa : (Lit.int .u64 a).wf = true) (b : Int) (wb : (Lit.int .i64 b).wf = true) (x : (D.pair .str .str).T) (_ : Wf (.pair .str .str) x) :
    FnD Try.prog 6 [.c (.int .u64 a), .c (.int .i64 b), .agg ((D.pair .str .str).cs x)] (· = .c (.bool (.sym true))) := by
  have wa := wf_u64 wa
  obtain ⟨a, rfl⟩ := Int.eq_ofNat_of_zero_le wa.1
  exact law_NumBack a (by omega) b (wf_i64 wb).1 (wf_i64 wb).2 x.1 x.2
end Go.Proofs.Ytapkdhfdemgjmaa
