/- The walks of num.GetInt and num.GetText. Own work. -/
import Derived.Test.YtnldokebmfojeaaDoorNumGet
set_option linter.unusedVariables false
namespace Go.Proofs.YtnldokebmfojeaaDoor
open Go Go.RowKit OE

def getIntR (o : Option (Nat × Nat)) : SV :=
  .tup [(false, [.int .i64 (Num.zag (o.getD (0, 0)).1)]), (false, [.int .i64 ((o.getD (0, 0)).2 : Nat)]), (false, [.bool (.sym o.isSome)])]

theorem getN_lt (s : List UInt8) (at_ : Int) : ((Num.getN s at_).getD (0, 0)).1 < 2 ^ 64 := by
  cases h : Num.getN s at_ with
  | none => decide
  | some p => exact (Num.getN_bd (m := p.1) (k := p.2) h).1

theorem getint_bits (u : Nat) (hu : u < 2 ^ 64) :
    bits .xor .i64 (IntKind.wrap .i64 ((u : Int) / 2 ^ min (Int.toNat 1) IntKind.u64.bits)) (IntKind.wrap .i64 (0 - IntKind.wrap .i64 (bits .and .u64 (u : Int) 1))) = Num.zag u := by
  have e1 : IntKind.wrap .i64 ((u : Int) / 2 ^ min (Int.toNat 1) IntKind.u64.bits) = ((u / 2 : Nat) : Int) := by
    show IntKind.wrap .i64 ((u : Int) / 2 ^ 1) = _
    rw [wr64 _ (by omega) (by omega)]; omega
  have e2 : bits .and .u64 (u : Int) 1 = ((u % 2 : Nat) : Int) := by
    rw [show (1 : Int) = ((1 : Nat) : Int) from rfl, u64_and_nat u 1 (by omega) (by omega), nat_mask1]
  rw [e1, e2, wr64 ((u % 2 : Nat) : Int) (by omega) (by omega), wr64 _ (by omega) (by omega)]
  unfold Num.zag
  split
  · rename_i h
    rw [h]
    exact xor64_zero _ (by omega) (by omega)
  · have h : u % 2 = 1 := by omega
    rw [h]
    exact xor64_one _ (by omega) (by omega)

theorem num_GetInt (s : List UInt8) (at_ : Int) (hs : s.length ≤ 4611686018427387904) : FnD Tryd.prog 80 [.c (.str s), .c (.int .i64 at_)] (· = getIntR (Num.getN s at_)) := by
  refine fn0 Tryd.func80 rfl rfl rfl ?_
  conv => whnf
  refine call1 (num_Get s at_ hs) rfl ?_
  conv => whnf
  refine ⟨by decide, ?_⟩
  conv => whnf
  rw [getint_bits _ (getN_lt s at_)]
  rfl

def getTextR (o : Option (List UInt8 × Nat)) : SV :=
  .tup [(false, [.str (o.getD ([], 0)).1]), (false, [.int .i64 ((o.getD ([], 0)).2 : Nat)]), (false, [.bool (.sym o.isSome)])]

theorem num_GetText (s : List UInt8) (at_ most : Int) (hs : s.length ≤ 4611686018427387904) (hm : most ≤ 9223372036854775807) :
    FnD Tryd.prog 72 [.c (.str s), .c (.int .i64 at_), .c (.int .i64 most)] (· = getTextR (Num.getT s at_ most)) := by
  refine fn0 Tryd.func72 rfl rfl rfl ?_
  conv => whnf
  refine call1 (num_Get s at_ hs) rfl ?_
  conv => whnf
  unfold Num.getT
  cases hg : Num.getN s at_ with
  | none =>
    refine ⟨fun _ => ?_, fun h => by simp at h⟩
    conv => whnf
    rfl
  | some p =>
    obtain ⟨n, k⟩ := p
    obtain ⟨hb1, hb2, hb3, hb4, hb5⟩ := Num.getN_bd hg
    obtain ⟨a, rfl⟩ := Int.eq_ofNat_of_zero_le hb4
    rw [show ((a : Nat) : Int).toNat = a from rfl] at hb5 ⊢
    dsimp only [Option.getD_some, Option.isSome_some]
    have e1 : IntKind.wrap .i64 (IntKind.wrap .i64 ((s.length : Int) - a) - k) = ((s.length - a - k : Nat) : Int) := by
      rw [wr64 ((s.length : Int) - a) (by omega) (by omega), wr64 _ (by omega) (by omega)]; omega
    have e0 := wru64 ((s.length - a - k : Nat) : Int) (by omega) (by omega)
    have hw : 0 ≤ most → IntKind.wrap .u64 most = most := fun h => wru64 most h (by omega)
    refine ⟨fun h1 => ?_, fun h1 => ?_⟩
    · simp [e1, e0] at h1
      conv => whnf
      rw [if_pos (by
        rcases h1 with (h1 | h1) | h1
        · exact .inl h1
        · by_cases hm0 : most < 0
          · exact .inl hm0
          · rw [hw (by omega)] at h1; exact .inr (.inl h1)
        · exact .inr (.inr (by omega)))]
      rfl
    simp [e1, e0] at h1
    obtain ⟨⟨h1, h2⟩, h3⟩ := h1
    rw [hw h1] at h2
    have e2 : IntKind.wrap .i64 ((a : Int) + k) = ((a + k : Nat) : Int) := by rw [wr64 _ (by omega) (by omega)]; omega
    have e3 : IntKind.wrap .i64 (IntKind.wrap .i64 ((a : Int) + k) + IntKind.wrap .i64 n) = ((a + k + n : Nat) : Int) := by
      rw [e2, wr64 (n : Int) (by omega) (by omega), wr64 _ (by omega) (by omega)]; omega
    conv => whnf
    refine ⟨?_, ?_⟩
    · rw [e3, e2]; omega
    conv => whnf
    rw [if_neg (by omega), e3, e2]
    have e4 : IntKind.wrap .i64 (((a + k + n : Nat) : Int) - a) = ((k + n : Nat) : Int) := by rw [wr64 _ (by omega) (by omega)]; omega
    rw [e4]
    have e5 : ((s.take (a + k + n)).drop (a + k)) = ((s.drop a).drop k).take n := by
      rw [List.drop_take, List.drop_drop]
      congr 1
      omega
    rw [← e5]
    rfl
end Go.Proofs.YtnldokebmfojeaaDoor
