/- The walks of the reference's GetInt and GetText. Own work. -/
import Derived.Test.YtnldokebmfojeaaDoorNumRefGet
import Derived.Test.YtnldokebmfojeaaDoorNumGets
set_option linter.unusedVariables false
namespace Go.Proofs.YtnldokebmfojeaaDoor
open Go Go.RowKit OE

theorem refnum_GetInt (s : List UInt8) (at_ : Int) (hs : s.length ≤ 4611686018427387904) : FnD Tryd.prog 66 [.c (.str s), .c (.int .i64 at_)] (· = gotIntR (Num.getN s at_)) := by
  refine fn0 Tryd.func66 rfl rfl rfl ?_
  conv => whnf
  refine call1 (refnum_Get s at_ hs) rfl ?_
  conv => whnf
  cases hg : Num.getN s at_ with
  | none =>
    refine tk rfl ?_
    conv => whnf
    rfl
  | some p =>
    obtain ⟨n, k⟩ := p
    obtain ⟨hb1, _⟩ := Num.getN_bd hg
    refine fk rfl ?_
    conv => whnf
    refine ⟨by decide, ?_⟩
    conv => whnf
    have e0 : IntKind.wrap .i64 (IntKind.wrap .u64 ((n : Int).tdiv 2)) = ((n / 2 : Nat) : Int) := by
      rw [Int.tdiv_eq_ediv_of_nonneg (by omega), wru64 _ (by omega) (by omega), wr64 _ (by omega) (by omega)]; omega
    refine ⟨fun h => ?_, fun h => ?_⟩
    · have h : n % 2 = 1 := by
        simp at h; rw [Int.tmod_eq_emod_of_nonneg (by omega)] at h; omega
      conv => whnf
      refine ⟨by decide, ?_⟩
      conv => whnf
      have e : IntKind.wrap .i64 (IntKind.wrap .i64 (0 - IntKind.wrap .i64 (IntKind.wrap .u64 ((n : Int).tdiv 2))) - 1) = Num.zag n := by
        rw [e0, wr64 (0 - _) (by omega) (by omega), wr64 _ (by omega) (by omega)]
        unfold Num.zag; rw [if_neg (by omega)]; omega
      rw [show ((some (n, k)).getD (0, 0)).1 = n from rfl, e]
      rfl
    · have h : n % 2 = 0 := by
        simp at h; rw [Int.tmod_eq_emod_of_nonneg (by omega)] at h; omega
      conv => whnf
      refine ⟨by decide, ?_⟩
      conv => whnf
      have e : IntKind.wrap .i64 (IntKind.wrap .u64 ((n : Int).tdiv 2)) = Num.zag n := by
        rw [e0]
        unfold Num.zag; rw [if_pos h]
      rw [show ((some (n, k)).getD (0, 0)).1 = n from rfl, e]
      rfl

theorem refnum_GetText (s : List UInt8) (at_ most : Int) (hs : s.length ≤ 4611686018427387904) (hm : most ≤ 9223372036854775807) :
    FnD Tryd.prog 61 [.c (.str s), .c (.int .i64 at_), .c (.int .i64 most)] (· = gotTextR (Num.getT s at_ most)) := by
  refine fn0 Tryd.func61 rfl rfl rfl ?_
  conv => whnf
  refine call1 (refnum_Get s at_ hs) rfl ?_
  conv => whnf
  unfold Num.getT
  cases hg : Num.getN s at_ with
  | none =>
    refine ⟨fun _ => ?_, fun h => by simp at h⟩
    conv => whnf
    rfl
  | some p =>
    obtain ⟨n, k⟩ := p
    obtain ⟨hb1, hb2, hb3, hb4, hb5⟩ := Num.getN_bd hg
    obtain ⟨a, rfl⟩ := Int.eq_ofNat_of_zero_le hb4
    rw [show ((a : Nat) : Int).toNat = a from rfl] at hb5 ⊢
    dsimp only [Option.getD_some, Option.isSome_some]
    have e1 : IntKind.wrap .i64 (IntKind.wrap .i64 ((s.length : Int) - a) - k) = ((s.length - a - k : Nat) : Int) := by
      rw [wr64 ((s.length : Int) - a) (by omega) (by omega), wr64 _ (by omega) (by omega)]; omega
    have e0 := wru64 ((s.length - a - k : Nat) : Int) (by omega) (by omega)
    have hw : 0 ≤ most → IntKind.wrap .u64 most = most := fun h => wru64 most h (by omega)
    refine ⟨fun h1 => ?_, fun h1 => ?_⟩
    · simp [e1, e0] at h1
      conv => whnf
      rw [if_pos (by
        rcases h1 with (h1 | h1) | h1
        · exact .inl h1
        · by_cases hm0 : most < 0
          · exact .inl hm0
          · rw [hw (by omega)] at h1; exact .inr (.inl h1)
        · exact .inr (.inr (by omega)))]
      rfl
    simp [e1, e0] at h1
    obtain ⟨⟨h1, h2⟩, h3⟩ := h1
    rw [hw h1] at h2
    have e2 : IntKind.wrap .i64 ((a : Int) + k) = ((a + k : Nat) : Int) := by rw [wr64 _ (by omega) (by omega)]; omega
    have e3 : IntKind.wrap .i64 (IntKind.wrap .i64 ((a : Int) + k) + IntKind.wrap .i64 n) = ((a + k + n : Nat) : Int) := by
      rw [e2, wr64 (n : Int) (by omega) (by omega), wr64 _ (by omega) (by omega)]; omega
    have e4 : IntKind.wrap .i64 ((k : Int) + IntKind.wrap .i64 n) = ((k + n : Nat) : Int) := by
      rw [wr64 (n : Int) (by omega) (by omega), wr64 _ (by omega) (by omega)]; omega
    conv => whnf
    refine any0 ?_
    conv => whnf
    refine ⟨?_, ?_⟩
    · rw [e3, e2]; omega
    conv => whnf
    refine ⟨.inl (by kernel_rfl), after0 ?_⟩
    conv => whnf
    rw [if_neg (by omega), e3, e2, e4]
    have e5 : ((s.take (a + k + n)).drop (a + k)) = ((s.drop a).drop k).take n := by
      rw [List.drop_take, List.drop_drop]
      congr 1
      omega
    rw [← e5]
    rfl
end Go.Proofs.YtnldokebmfojeaaDoor
