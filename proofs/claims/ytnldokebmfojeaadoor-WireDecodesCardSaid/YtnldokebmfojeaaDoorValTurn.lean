/- A value's bytes: what was encoded is decoded as it was, what was decoded is encoded as it stood; no program in sight (pieces of ValThere, ValDecProps, ValEncProps). Own work. -/
import Derived.Test.YtnldokebmfojeaaDoorValDecode
import Derived.Test.YtnldokebmfojeaaDoorRuleTurn
set_option linter.unusedVariables false
set_option maxRecDepth 100000
namespace Go.Proofs.YtnldokebmfojeaaDoor
open Go Go.RowKit OE

theorem encV_len {v : VD.T} (hv : Wf VD v) : (encV v).length ≤ 1040 := by
  have hz := wf_i64 hv.2.1
  have hzl := putZ_len v.2.1 hz.1 hz.2
  unfold encV
  split
  · show 1 ≤ _; omega
  · split
    · rename_i hg
      have hl := good_len hg
      split
      · show 1 + 1 ≤ _; omega
      · split
        · rw [List.length_append]; show 1 + _ ≤ _; omega
        · rw [List.length_append]
          have := Num.putN_ten (n := v.2.2.length) (Nat.lt_of_le_of_lt hl (by decide))
          unfold Num.putT
          rw [List.length_append]
          show 1 + _ ≤ _; omega
    · simp
theorem decV_bd {s : List UInt8} {k : Int} {v : VD.T} {j : Nat} (h : decV s k = some (v, j)) : 0 ≤ k ∧ k + j ≤ s.length := by
  unfold decV at h
  split at h
  · cases h
  · rename_i hr
    unfold decB at h
    split at h
    · simp only [Option.some.injEq, Prod.mk.injEq] at h; omega
    · split at h
      · split at h
        · rename_i h2; simp only [Option.some.injEq, Prod.mk.injEq] at h; omega
        · cases h
      · split at h
        · cases hg : Num.getN s (k + 1) with
          | none => rw [hg] at h; cases h
          | some p =>
            have hb := Num.getN_bd (m := p.1) (k := p.2) hg
            rw [hg] at h
            simp only [Option.some.injEq, Prod.mk.injEq] at h
            omega
        · split at h
          · cases hg : Num.getT s (k + 1) 1024 with
            | none => rw [hg] at h; cases h
            | some p =>
              have hb := getT_bd (t := p.1) (i := p.2) hg
              rw [hg] at h
              simp only [Option.some.injEq, Prod.mk.injEq] at h
              omega
          · cases h
theorem decV_kind {s : List UInt8} {k : Int} {v : VD.T} {j : Nat} (h : decV s k = some (v, j)) : (Lit.int .i64 v.1).wf = true := by
  unfold decV at h
  split at h
  · cases h
  · unfold decB at h
    split at h
    · simp only [Option.some.injEq, Prod.mk.injEq] at h; rw [← h.1]; rfl
    · split at h
      · split at h
        · simp only [Option.some.injEq, Prod.mk.injEq] at h; rw [← h.1]; rfl
        · cases h
      · split at h
        · cases hg : Num.getN s (k + 1) with
          | none => rw [hg] at h; cases h
          | some p =>
            rw [hg] at h
            simp only [Option.some.injEq, Prod.mk.injEq] at h
            rw [← h.1]; rfl
        · split at h
          · cases hg : Num.getT s (k + 1) 1024 with
            | none => rw [hg] at h; cases h
            | some p =>
              rw [hg] at h
              simp only [Option.some.injEq, Prod.mk.injEq] at h
              rw [← h.1]; rfl
          · cases h
theorem zag_zig' (b : Int) : Num.zag (Num.zig b) = b := by
  unfold Num.zag Num.zig
  split <;> split <;> omega
theorem zig_zag' (u : Nat) : Num.zig (Num.zag u) = u := by
  unfold Num.zag Num.zig
  split <;> split <;> omega
theorem kb_small {n : Nat} (h : n < 256) : kb (n : Int) = [UInt8.ofNat n] := by
  unfold kb
  rw [wru8, show ((n : Int) % 256) = n by omega]
  rfl
theorem bt_at (p : List UInt8) (c : UInt8) (r : List UInt8) : bt (p ++ c :: r) (p.length : Int) = (c.toNat : Int) := by
  rw [bt_nat _ _ (by simp)]
  simp
theorem bt_at' {s : List UInt8} {k : Int} (p : List UInt8) (c : UInt8) (r : List UInt8) (hs : s = p ++ c :: r) (hk : k = p.length) : bt s k = (c.toNat : Int) := by
  rw [hs, hk, bt_at]
theorem blank_is {v : VD.T} (h : blankV v = true) : v = (0, 0, []) := by
  rw [← blank_eq] at h
  exact (D.eqb_iff VD v (0, 0, [])).1 h
theorem encV_blank : encV ((0, 0, []) : VD.T) = [0] := rfl
theorem decV_enc {v : VD.T} (hv : Wf VD v) (h : blankV v = true ∨ goodV v = true) (p r : List UInt8) {s : List UInt8} {k : Int} (hs : s = p ++ encV v ++ r) (hk : k = p.length) :
    decV s k = some (v, (encV v).length) := by
  by_cases hb : blankV v = true
  · have e := blank_is hb
    subst e
    rw [encV_blank] at hs ⊢
    have h0 : bt s k = 0 := by rw [bt_at' (s := s) (k := k) p 0 r (by rw [hs]; simp) hk]; rfl
    have hr : ¬ (k < 0 ∨ (s.length : Int) ≤ k) := by rw [hs, hk]; simp; omega
    unfold decV decB
    rw [if_neg hr, if_pos h0]
    rfl
  have hg : goodV v = true := h.resolve_left hb
  obtain ⟨x, y, t⟩ := v
  have hz := wf_i64 hv.2.1
  have hx : x = 1 ∨ x = 2 ∨ x = 3 := by
    unfold goodV at hg
    dsimp only at hg
    split at hg
    · exact .inl (by assumption)
    · split at hg
      · exact .inr (.inl (by assumption))
      · split at hg
        · exact .inr (.inr (by assumption))
        · cases hg
  rcases hx with rfl | rfl | rfl
  · have hE : encV ((1, y, t) : VD.T) = [1] ++ byl [IntKind.wrap .u8 y] := by
      unfold encV; rw [if_neg hb, if_pos hg]; rfl
    have hgg : (y = 0 ∨ y = 1) ∧ t = [] := by
      have : good1 ((1, y, t) : VD.T) = true := hg
      simpa [good1] using this
    obtain ⟨hy, rfl⟩ := hgg
    rw [hE] at hs ⊢
    have hby : byl [IntKind.wrap .u8 y] = [UInt8.ofNat y.toNat] := by rcases hy with rfl | rfl <;> rfl
    rw [hby] at hs ⊢
    have h0 : bt s k = 1 := by rw [bt_at' (s := s) (k := k) p 1 (UInt8.ofNat y.toNat :: r) (by rw [hs]; simp) hk]; rfl
    have h1 : bt s (k + 1) = y := by
      rw [bt_at' (s := s) (k := k + 1) (p ++ [1]) (UInt8.ofNat y.toNat) r (by rw [hs]; simp) (by rw [hk]; simp)]
      rcases hy with rfl | rfl <;> rfl
    have hr : ¬ (k < 0 ∨ (s.length : Int) ≤ k) := by rw [hs, hk]; simp; omega
    have hr2 : k + 1 < s.length := by rw [hs, hk]; simp; omega
    unfold decV decB
    rw [if_neg hr, h0, h1]
    rw [if_neg (by decide), if_pos rfl, if_pos ⟨hr2, by rcases hy with rfl | rfl <;> decide⟩]
    rfl
  · have hE : encV ((2, y, t) : VD.T) = [2] ++ Num.putZ y := by
      unfold encV; rw [if_neg hb, if_pos hg]; rfl
    have ht : t = [] := by
      have : decide (t = []) = true := hg
      simpa using this
    subst ht
    rw [hE] at hs ⊢
    have h0 : bt s k = 2 := by rw [bt_at' (s := s) (k := k) p 2 (Num.putZ y ++ r) (by rw [hs]; simp) hk]; rfl
    have hr : ¬ (k < 0 ∨ (s.length : Int) ≤ k) := by rw [hs, hk]; simp; omega
    have hgn : Num.getN s (k + 1) = some (Num.zig y, (Num.putZ y).length) := by
      have := Num.getN_put (Num.zig y) (p ++ [2]) r (zig_bd y hz.1 hz.2)
      rw [show s = p ++ [2] ++ Num.putN (Num.zig y) ++ r by rw [hs]; simp [Num.putZ], show k + 1 = ((p ++ [2]).length : Int) by rw [hk]; simp]
      exact this
    unfold decV decB
    rw [if_neg hr, h0, hgn]
    dsimp only
    rw [if_neg (by decide), if_neg (by decide), if_pos rfl, zag_zig', List.length_append]
    rw [Nat.add_comm]; rfl
  · have hE : encV ((3, y, t) : VD.T) = [3] ++ Num.putT t := by
      unfold encV; rw [if_neg hb, if_pos hg]; rfl
    have hgg : y = 0 ∧ (t.length : Int) ≤ 1024 := by
      have : good3 ((3, y, t) : VD.T) = true := hg
      simpa [good3] using this
    obtain ⟨rfl, hl⟩ := hgg
    rw [hE] at hs ⊢
    have h0 : bt s k = 3 := by rw [bt_at' (s := s) (k := k) p 3 (Num.putT t ++ r) (by rw [hs]; simp) hk]; rfl
    have hr : ¬ (k < 0 ∨ (s.length : Int) ≤ k) := by rw [hs, hk]; simp; omega
    have hgn : Num.getT s (k + 1) 1024 = some (t, (Num.putT t).length) := by
      have := Num.getT_put t (p ++ [3]) r 1024 hl (by omega)
      rw [show s = p ++ [3] ++ Num.putT t ++ r by rw [hs]; simp, show k + 1 = ((p ++ [3]).length : Int) by rw [hk]; simp]
      exact this
    unfold decV decB
    rw [if_neg hr, h0, hgn]
    dsimp only
    rw [if_neg (by decide), if_neg (by decide), if_neg (by decide), if_pos rfl, List.length_append]
    rw [Nat.add_comm]; rfl
theorem drop_take1 {s : List UInt8} {k : Nat} (h : k < s.length) (j : Nat) : (s.drop k).take (j + 1) = s[k] :: (s.drop (k + 1)).take j := by
  rw [List.drop_eq_getElem_cons h, List.take_succ_cons]
theorem kb_bt {s : List UInt8} {k : Nat} (h : k < s.length) : kb (bt s (k : Int)) = [s[k]] := by
  rw [bt_nat s k h, kb_small (UInt8.toNat_lt _)]
  simp
theorem getT_take' {s : List UInt8} {k most : Int} {t : List UInt8} {i : Nat} (h : Num.getT s k most = some (t, i)) (hk : 0 ≤ most) : (t.length : Int) ≤ most := by
  unfold Num.getT at h
  cases hg : Num.getN s k with
  | none => rw [hg] at h; cases h
  | some p =>
    rw [hg] at h
    dsimp only at h
    split at h
    · cases h
    · rename_i hc
      simp only [Option.some.injEq, Prod.mk.injEq] at h
      obtain ⟨h1, h2⟩ := h
      have : t.length ≤ p.1 := by rw [← h1, List.length_take]; omega
      omega
theorem decV_take {s : List UInt8} {k : Int} {v : VD.T} {j : Nat} (h : decV s k = some (v, j)) : (s.drop k.toNat).take j = encV v := by
  unfold decV at h
  split at h
  · cases h
  rename_i hr
  obtain ⟨n, rfl⟩ : ∃ n : Nat, k = n := ⟨k.toNat, by omega⟩
  have hn : n < s.length := by omega
  have hkb := kb_bt hn
  rw [Int.toNat_natCast]
  unfold decB at h
  split at h
  · rename_i h0
    simp only [Option.some.injEq, Prod.mk.injEq] at h
    obtain ⟨rfl, rfl⟩ := h
    rw [h0] at hkb
    rw [drop_take1 hn 0, encV_blank, List.take_zero]
    exact hkb.symm
  split at h
  · rename_i h0
    split at h
    · rename_i h1
      simp only [Option.some.injEq, Prod.mk.injEq] at h
      obtain ⟨rfl, rfl⟩ := h
      have hn1 : n + 1 < s.length := by omega
      have hb1 : bt s ((n : Int) + 1) = (s[n + 1].toNat : Int) := bt_nat s (n + 1) hn1
      have hkb1 := kb_bt hn1
      rw [h0] at hkb
      have h2 := h1.2
      rw [hb1] at h2 ⊢
      rw [show (bt s (((n + 1 : Nat)) : Int)) = (s[n + 1].toNat : Int) from hb1] at hkb1
      have hy : (s[n + 1].toNat : Int) = 0 ∨ (s[n + 1].toNat : Int) = 1 := by omega
      have hg : goodV ((1, (s[n + 1].toNat : Int), []) : VD.T) = true := by
        show good1 ((1, (s[n + 1].toNat : Int), []) : VD.T) = true
        simp only [good1, decide_true, Bool.and_true, Bool.or_eq_true, decide_eq_true_eq]
        exact hy
      have hb : ¬ blankV ((1, (s[n + 1].toNat : Int), []) : VD.T) = true := by simp [blankV]
      unfold encV
      rw [if_neg hb, if_pos hg]
      dsimp only
      rw [if_pos rfl, drop_take1 hn 1, drop_take1 hn1 0, List.take_zero]
      unfold kb at hkb hkb1 ⊢
      rw [hkb, hkb1]; rfl
    · cases h
  split at h
  · rename_i h0
    cases hg : Num.getN s ((n : Int) + 1) with
    | none => rw [hg] at h; cases h
    | some p =>
      rw [hg] at h
      simp only [Option.some.injEq, Prod.mk.injEq] at h
      obtain ⟨rfl, rfl⟩ := h
      have ht := Num.getN_take (m := p.1) (k := p.2) hg
      rw [show ((n : Int) + 1).toNat = n + 1 by omega] at ht
      rw [h0] at hkb
      have hgd : goodV ((2, Num.zag p.1, []) : VD.T) = true := rfl
      have hb : ¬ blankV ((2, Num.zag p.1, []) : VD.T) = true := by simp [blankV]
      unfold encV
      rw [if_neg hb, if_pos hgd]
      dsimp only
      rw [if_neg (by decide), if_pos rfl, drop_take1 hn p.2, ht]
      unfold Num.putZ
      rw [zig_zag', hkb]; rfl
  split at h
  · rename_i h0
    cases hg : Num.getT s ((n : Int) + 1) 1024 with
    | none => rw [hg] at h; cases h
    | some p =>
      rw [hg] at h
      simp only [Option.some.injEq, Prod.mk.injEq] at h
      obtain ⟨rfl, rfl⟩ := h
      have ht := (gtS_take (t := p.1) (i := p.2) hg (n + 1) (by omega)).1
      have hl := getT_take' (t := p.1) (i := p.2) hg (by decide)
      rw [h0] at hkb
      have hgd : goodV ((3, 0, p.1) : VD.T) = true := by
        show good3 ((3, 0, p.1) : VD.T) = true
        simp only [good3, decide_true, Bool.true_and, decide_eq_true_eq]
        exact hl
      have hb : ¬ blankV ((3, 0, p.1) : VD.T) = true := by simp [blankV]
      unfold encV
      rw [if_neg hb, if_pos hgd]
      dsimp only
      rw [if_neg (by decide), if_neg (by decide), drop_take1 hn p.2, ht, hkb]; rfl
  · cases h
theorem i64_ok {a : Int} (h0 : -9223372036854775808 ≤ a) (h1 : a ≤ 9223372036854775807) : (Lit.int .i64 a).wf = true := by
  simpa [Lit.wf, IntKind.min, IntKind.max, IntKind.bits, IntKind.signed] using ⟨h0, h1⟩
theorem zag_bd (u : Nat) (h : u < 18446744073709551616) : -9223372036854775808 ≤ Num.zag u ∧ Num.zag u ≤ 9223372036854775807 := by
  unfold Num.zag; split <;> omega
theorem decV_wf {s : List UInt8} {k : Int} {v : VD.T} {j : Nat} (h : decV s k = some (v, j)) : Wf VD v := by
  have hk := decV_kind h
  refine ⟨hk, ?_⟩
  clear hk
  unfold decV at h
  split at h
  · cases h
  unfold decB at h
  split at h
  · simp only [Option.some.injEq, Prod.mk.injEq] at h
    rw [← h.1]; exact ⟨rfl, by simp [Wf]⟩
  split at h
  · split at h
    · simp only [Option.some.injEq, Prod.mk.injEq] at h
      have hb := bt_rng s (k + 1)
      rw [← h.1]; exact ⟨show (Lit.int .i64 (bt s (k + 1))).wf = true from i64_ok (by omega) (by omega), by simp [Wf]⟩
    · cases h
  split at h
  · cases hg : Num.getN s (k + 1) with
    | none => rw [hg] at h; cases h
    | some p =>
      have hb := Num.getN_bd (m := p.1) (k := p.2) hg
      have hz := zag_bd p.1 (Nat.lt_of_lt_of_le hb.1 (by decide))
      rw [hg] at h
      simp only [Option.some.injEq, Prod.mk.injEq] at h
      rw [← h.1]; exact ⟨i64_ok hz.1 hz.2, by simp [Wf]⟩
  split at h
  · cases hg : Num.getT s (k + 1) 1024 with
    | none => rw [hg] at h; cases h
    | some p =>
      have hl := getT_take' (t := p.1) (i := p.2) hg (by decide)
      rw [hg] at h
      simp only [Option.some.injEq, Prod.mk.injEq] at h
      rw [← h.1]; exact ⟨rfl, by show p.1.length ≤ _; omega⟩
  · cases h
end Go.Proofs.YtnldokebmfojeaaDoor
