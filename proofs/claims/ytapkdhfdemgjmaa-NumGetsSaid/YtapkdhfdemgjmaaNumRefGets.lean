/- The walks of the reference's GetInt and GetText, and of NumGets. Own work. -/
import Derived.Test.YtapkdhfdemgjmaaNumRefGet
set_option linter.unusedVariables false
namespace Go.Proofs.Ytapkdhfdemgjmaa
open Go Go.RowKit OE

theorem ref_GetInt (s : List UInt8) (at_ : Int) (hs : s.length ≤ 4611686018427387904) : FnD Try.prog 20 [.c (.str s), .c (.int .i64 at_)] (· = gotIntR (Num.getN s at_)) := by
  refine fn0 Try.func20 rfl rfl rfl ?_
  conv => whnf
  refine call1 (ref_Get s at_ hs) rfl ?_
  cases hg : Num.getN s at_ with
  | none =>
    conv => whnf
    refine tk rfl ?_
    conv => whnf
    rfl
  | some p =>
    obtain ⟨n, k⟩ := p
    obtain ⟨hb1, _⟩ := Num.getN_bd hg
    conv => whnf
    refine fk rfl ?_
    conv => whnf
    refine ⟨by decide, ?_⟩
    conv => whnf
    have e0 : IntKind.wrap .i64 (IntKind.wrap .u64 ((n : Int).tdiv 2)) = ((n / 2 : Nat) : Int) := by
      rw [Int.tdiv_eq_ediv_of_nonneg (by omega), wru64 _ (by omega) (by omega), wr64 _ (by omega) (by omega)]; omega
    refine ⟨fun h => ?_, fun h => ?_⟩
    · have h : n % 2 = 1 := by
        simp at h; rw [Int.tmod_eq_emod_of_nonneg (by omega)] at h; omega
      conv => whnf
      refine ⟨by decide, ?_⟩
      conv => whnf
      have e : IntKind.wrap .i64 (IntKind.wrap .i64 (0 - IntKind.wrap .i64 (IntKind.wrap .u64 ((n : Int).tdiv 2))) - 1) = Num.zag n := by
        rw [e0, wr64 (0 - _) (by omega) (by omega), wr64 _ (by omega) (by omega)]
        unfold Num.zag; rw [if_neg (by omega)]; omega
      rw [e]
      rfl
    · have h : n % 2 = 0 := by
        simp at h; rw [Int.tmod_eq_emod_of_nonneg (by omega)] at h; omega
      conv => whnf
      refine ⟨by decide, ?_⟩
      conv => whnf
      have e : IntKind.wrap .i64 (IntKind.wrap .u64 ((n : Int).tdiv 2)) = Num.zag n := by
        rw [e0]
        unfold Num.zag; rw [if_pos h]
      rw [e]
      rfl

theorem ref_GetText (s : List UInt8) (at_ most : Int) (hs : s.length ≤ 4611686018427387904) (hm : most ≤ 9223372036854775807) :
    FnD Try.prog 21 [.c (.str s), .c (.int .i64 at_), .c (.int .i64 most)] (· = gotTextR (Num.getT s at_ most)) := by
  refine fn0 Try.func21 rfl rfl rfl ?_
  conv => whnf
  refine call1 (ref_Get s at_ hs) rfl ?_
  unfold Num.getT
  cases hg : Num.getN s at_ with
  | none =>
    conv => whnf
    refine tk rfl ?_
    conv => whnf
    rfl
  | some p =>
    obtain ⟨n, k⟩ := p
    obtain ⟨hb1, hb2, hb3, hb4, hb5⟩ := Num.getN_bd hg
    obtain ⟨a, rfl⟩ := Int.eq_ofNat_of_zero_le hb4
    rw [show ((a : Nat) : Int).toNat = a from rfl] at hb5 ⊢
    dsimp only
    conv => whnf
    refine fk rfl ?_
    conv => whnf
    refine ⟨fun h1 => ?_, fun h1 => ?_⟩
    · simp at h1
      conv => whnf
      rw [if_pos (by omega)]
      rfl
    simp at h1
    conv => whnf
    rw [wru64 most h1 (by omega)]
    refine ⟨fun h2 => ?_, fun h2 => ?_⟩
    · simp at h2
      conv => whnf
      rw [if_pos (by omega)]
      rfl
    simp at h2
    have e1 : IntKind.wrap .i64 (IntKind.wrap .i64 ((s.length : Int) - a) - k) = ((s.length - a - k : Nat) : Int) := by
      rw [wr64 ((s.length : Int) - a) (by omega) (by omega), wr64 _ (by omega) (by omega)]; omega
    conv => whnf
    rw [e1, wru64 _ (by omega) (by omega)]
    refine ⟨fun h3 => ?_, fun h3 => ?_⟩
    · simp at h3
      conv => whnf
      rw [if_pos (by omega)]
      rfl
    simp at h3
    have e2 : IntKind.wrap .i64 ((a : Int) + k) = ((a + k : Nat) : Int) := by rw [wr64 _ (by omega) (by omega)]; omega
    have e3 : IntKind.wrap .i64 (IntKind.wrap .i64 ((a : Int) + k) + IntKind.wrap .i64 n) = ((a + k + n : Nat) : Int) := by
      rw [e2, wr64 (n : Int) (by omega) (by omega), wr64 _ (by omega) (by omega)]; omega
    have e4 : IntKind.wrap .i64 ((k : Int) + IntKind.wrap .i64 n) = ((k + n : Nat) : Int) := by
      rw [wr64 (n : Int) (by omega) (by omega), wr64 _ (by omega) (by omega)]; omega
    conv => whnf
    refine any0 ?_
    conv => whnf
    refine ⟨?_, ?_⟩
    · rw [e3, e2]; omega
    conv => whnf
    refine ⟨by kernel_rfl, after0 ?_⟩
    conv => whnf
    rw [if_neg (by omega), e3, e2, e4]
    have e5 : ((s.take (a + k + n)).drop (a + k)) = ((s.drop a).drop k).take n := by
      rw [List.drop_take, List.drop_drop]
      congr 1
      omega
    rw [← e5]
    rfl

theorem law_NumGets (s : List UInt8) (at_ most : Int) (hm0 : -9223372036854775808 ≤ most) (hm : most ≤ 9223372036854775807) (hs : s.length ≤ 140737488351232) :
    FnD Try.prog 8 [.c (.str s), .c (.int .i64 at_), .c (.int .i64 most)] (· = .c (.bool (.sym true))) := by
  refine fn0 Try.func8 rfl rfl rfl ?_
  conv => whnf
  refine ⟨fun h1 => ?_, fun h1 => ?_⟩
  · conv => whnf
    refine call1 num_wakes rfl ?_
    conv => whnf
  conv => whnf
  refine call1 (num_Get s at_ (by omega)) rfl ?_
  cases hg : Num.getN s at_ with
  | none =>
    have ht : Num.getT s at_ most = none := by unfold Num.getT; rw [hg]
    conv => whnf
    refine call1 (num_GetInt s at_ (by omega)) rfl ?_
    rw [hg]
    conv => whnf
    refine call1 (num_GetText s at_ most (by omega) hm) rfl ?_
    rw [ht]
    conv => whnf
    refine call1 (ref_Get s at_ (by omega)) rfl ?_
    rw [hg]
    conv => whnf
    refine call1 (ref_GetInt s at_ (by omega)) rfl ?_
    rw [hg]
    conv => whnf
    refine call1 (ref_GetText s at_ most (by omega) hm) rfl ?_
    rw [ht]
    conv => whnf
    iterate 9
      refine tk (by first | rfl | simp) ?_
      conv => whnf
    refine call1 num_wakes rfl ?_
    conv => whnf
  | some p =>
    obtain ⟨n, k⟩ := p
    conv => whnf
    refine call1 (num_GetInt s at_ (by omega)) rfl ?_
    rw [hg]
    cases ht : Num.getT s at_ most with
    | none =>
      conv => whnf
      refine call1 (num_GetText s at_ most (by omega) hm) rfl ?_
      rw [ht]
      conv => whnf
      refine call1 (ref_Get s at_ (by omega)) rfl ?_
      rw [hg]
      conv => whnf
      refine call1 (ref_GetInt s at_ (by omega)) rfl ?_
      rw [hg]
      conv => whnf
      refine call1 (ref_GetText s at_ most (by omega) hm) rfl ?_
      rw [ht]
      conv => whnf
      iterate 9
        refine tk (by first | rfl | simp) ?_
        conv => whnf
      refine call1 num_wakes rfl ?_
      conv => whnf
    | some q =>
      obtain ⟨t, m⟩ := q
      conv => whnf
      refine call1 (num_GetText s at_ most (by omega) hm) rfl ?_
      rw [ht]
      conv => whnf
      refine call1 (ref_Get s at_ (by omega)) rfl ?_
      rw [hg]
      conv => whnf
      refine call1 (ref_GetInt s at_ (by omega)) rfl ?_
      rw [hg]
      conv => whnf
      refine call1 (ref_GetText s at_ most (by omega) hm) rfl ?_
      rw [ht]
      conv => whnf
      iterate 9
        refine tk (by first | rfl | simp) ?_
        conv => whnf
      refine call1 num_wakes rfl ?_
      conv => whnf

theorem row_NumGets (s : List UInt8) (hs : s.length ≤ 140737488351232) (at_ : Int) (wa : (Lit.int .i64 at_).wf = true) (most : Int) (wm : (Lit.int .i64 most).wf = true) :
    FnD Try.prog 8 [.c (.str s), .c (.int .i64 at_), .c (.int .i64 most)] (· = .c (.bool (.sym true))) :=
  law_NumGets s at_ most (wf_i64 wm).1 (wf_i64 wm).2 hs
end Go.Proofs.Ytapkdhfdemgjmaa
