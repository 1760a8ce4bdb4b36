/- The reference's form and bytes of commands are the program's. Printed by genwgood.py. Own work. -/
import Derived.Test.YtnldokebmfojeaaDoorWirePlain
set_option linter.unusedVariables false
set_option linter.unusedSimpArgs false
set_option maxRecDepth 100000
namespace Go.Proofs.YtnldokebmfojeaaDoor
open Go Go.RowKit OE

theorem allS_2 (P : Int → List UInt8 × Bool) (k : Int) (l : List UInt8) : (allS P k l).2 = l.all fun f => (P f.toNat).2 := by
  unfold allS
  cases h : (l.all fun f => (P f.toNat).2) <;> simp
theorem allS_1 {P : Int → List UInt8 × Bool} {k : Int} {l : List UInt8} (h : (allS P k l).2 = true) : (allS P k l).1 = byl [k] ++ l.flatMap fun f => (P f.toNat).1 := by
  rw [allS_2] at h
  unfold allS
  rw [if_pos h]
theorem tx_f (t : List UInt8) : (txS t false).2 = nameS t := by simp [txS]
theorem tx_e (t : List UInt8) : (txS t true).2 = (decide (t = []) || nameS t) := by simp [txS, Bool.or_comm]
theorem nu_i (n : Int) : (nuS n 0 4611686018427387903).2 = okId n := rfl
theorem nu_k (n : Int) : (nuS n 1 2).2 = (decide (n = 1) || decide (n = 2)) := by
  rw [Bool.eq_iff_iff]; simp [nuS]; omega
theorem nu_m (n : Int) : (nuS n 0 1000000).2 = (decide (0 ≤ n) && decide (n ≤ 1000000)) := rfl
theorem good_kind {v : VD.T} (h : goodV v = true) : v.1 ≠ 0 := fun h0 => by
  unfold goodV at h
  rw [h0] at h
  simp at h
theorem enc_good {v : VD.T} (h : goodV v = true) : encV v ≠ [] := by
  have hb : ¬ blankV v = true := fun hb => by
    simp only [blankV, Bool.and_eq_true, decide_eq_true_eq] at hb
    exact good_kind h hb.1.1
  unfold encV
  rw [if_neg hb, if_pos h]
  split
  · exact fun e => by cases e
  · split <;> exact fun e => by cases e
theorem enc_blank {v : VD.T} (h : blankV v = true) : encV v ≠ [] := by
  unfold encV
  rw [if_pos h]
  exact fun e => by cases e
theorem va_f (v : VD.T) : (vaS v false).2 = goodV v := by
  rw [Bool.eq_iff_iff]
  simp only [vaS, Bool.false_or, Bool.and_eq_true, Bool.not_eq_true', decide_eq_false_iff_not]
  constructor
  · rintro ⟨h1, h2⟩
    rcases va_form h1 with h | h
    · simp only [blankV, Bool.and_eq_true, decide_eq_true_eq] at h
      exact (h2 h.1.1).elim
    · exact h
  · exact fun h => ⟨enc_good h, good_kind h⟩
theorem va_t (v : VD.T) : (vaS v true).2 = okVal v := by
  rw [Bool.eq_iff_iff]
  simp only [vaS, okVal, Bool.true_or, Bool.and_true, Bool.or_eq_true, Bool.not_eq_true', decide_eq_false_iff_not]
  constructor
  · exact fun h => (va_form h).symm
  · rintro (h | h)
    · exact enc_good h
    · exact enc_blank h
theorem ru_f (r : RD.T) : (ruS r).2 = (formS r && decide (r.1 = 0) && decide (r.2.2.2.2.2.2.2 = 0)) := by
  rw [Bool.eq_iff_iff]
  simp only [Bool.and_eq_true, decide_eq_true_eq]
  constructor
  · intro h
    obtain ⟨h1, h2, h3⟩ := ru_ok h
    simp only [okS, Bool.and_eq_true] at h1
    exact ⟨⟨h1.1.1.1.1, h2⟩, h3⟩
  · rintro ⟨⟨h1, h2⟩, h3⟩
    have ho : okS r = true := by simp [okS, h1, h2, h3]
    simp only [ruS, Bool.and_eq_true, decide_eq_true_eq]
    exact ⟨⟨if_pos ho, h2⟩, h3⟩
theorem opq1 (i : Int) (t : List UInt8) (f e : Int) (n : List UInt8) (v : VD.T) (c : Bool) : (chgS (1, i, t, f, e, n, v, c)).2 = (opN (1, i, t, f, e, n, v, c)).2 ∧ ((chgS (1, i, t, f, e, n, v, c)).2 = true → (chgS (1, i, t, f, e, n, v, c)).1 = encRO (1, i, t, f, e, n, v, c)) := by
  rw [show chgS (1, i, t, f, e, n, v, c) = allS (putO (1, i, t, f, e, n, v, c)) (IntKind.wrap .u8 1) [116] from rfl]
  refine ⟨?_, fun h => ?_⟩
  · rw [allS_2]
    show ((txS t false).2 && true) = nameS t
    simp only [tx_f, tx_e, nu_i, nu_k, nu_m, va_f, va_t, ru_f, Bool.and_true, Bool.and_assoc]
  · rw [allS_1 h]
    show byl [IntKind.wrap .u8 1] ++ ((txS t false).1 ++ []) = (kb 1 ++ Num.putT t)
    simp only [txS, nuS, vaS, ruS, kb, List.append_assoc, List.append_nil]
theorem opq3 (i : Int) (t : List UInt8) (f e : Int) (n : List UInt8) (v : VD.T) (c : Bool) : (chgS (3, i, t, f, e, n, v, c)).2 = (opN (3, i, t, f, e, n, v, c)).2 ∧ ((chgS (3, i, t, f, e, n, v, c)).2 = true → (chgS (3, i, t, f, e, n, v, c)).1 = encRO (3, i, t, f, e, n, v, c)) := by
  rw [show chgS (3, i, t, f, e, n, v, c) = allS (putO (3, i, t, f, e, n, v, c)) (IntKind.wrap .u8 3) [116, 97, 98] from rfl]
  refine ⟨?_, fun h => ?_⟩
  · rw [allS_2]
    show ((txS t false).2 && ((nuS f 0 4611686018427387903).2 && ((nuS e 0 4611686018427387903).2 && true))) = ((nameS t && okId f) && okId e)
    simp only [tx_f, tx_e, nu_i, nu_k, nu_m, va_f, va_t, ru_f, Bool.and_true, Bool.and_assoc]
  · rw [allS_1 h]
    show byl [IntKind.wrap .u8 3] ++ ((txS t false).1 ++ ((nuS f 0 4611686018427387903).1 ++ ((nuS e 0 4611686018427387903).1 ++ []))) = (((kb 3 ++ Num.putT t) ++ Num.putN (u64 f)) ++ Num.putN (u64 e))
    simp only [txS, nuS, vaS, ruS, kb, List.append_assoc, List.append_nil]
theorem opq4 (i : Int) (t : List UInt8) (f e : Int) (n : List UInt8) (v : VD.T) (c : Bool) : (chgS (4, i, t, f, e, n, v, c)).2 = (opN (4, i, t, f, e, n, v, c)).2 ∧ ((chgS (4, i, t, f, e, n, v, c)).2 = true → (chgS (4, i, t, f, e, n, v, c)).1 = encRO (4, i, t, f, e, n, v, c)) := by
  rw [show chgS (4, i, t, f, e, n, v, c) = allS (putO (4, i, t, f, e, n, v, c)) (IntKind.wrap .u8 4) [105] from rfl]
  refine ⟨?_, fun h => ?_⟩
  · rw [allS_2]
    show ((nuS i 0 4611686018427387903).2 && true) = okId i
    simp only [tx_f, tx_e, nu_i, nu_k, nu_m, va_f, va_t, ru_f, Bool.and_true, Bool.and_assoc]
  · rw [allS_1 h]
    show byl [IntKind.wrap .u8 4] ++ ((nuS i 0 4611686018427387903).1 ++ []) = (kb 4 ++ Num.putN (u64 i))
    simp only [txS, nuS, vaS, ruS, kb, List.append_assoc, List.append_nil]
theorem opq5 (i : Int) (t : List UInt8) (f e : Int) (n : List UInt8) (v : VD.T) (c : Bool) : (chgS (5, i, t, f, e, n, v, c)).2 = (opN (5, i, t, f, e, n, v, c)).2 ∧ ((chgS (5, i, t, f, e, n, v, c)).2 = true → (chgS (5, i, t, f, e, n, v, c)).1 = encRO (5, i, t, f, e, n, v, c)) := by
  rw [show chgS (5, i, t, f, e, n, v, c) = allS (putO (5, i, t, f, e, n, v, c)) (IntKind.wrap .u8 5) [105, 110, 119] from rfl]
  refine ⟨?_, fun h => ?_⟩
  · rw [allS_2]
    show ((nuS i 0 4611686018427387903).2 && ((txS n false).2 && ((vaS v true).2 && true))) = ((okId i && nameS n) && okVal v)
    simp only [tx_f, tx_e, nu_i, nu_k, nu_m, va_f, va_t, ru_f, Bool.and_true, Bool.and_assoc]
  · rw [allS_1 h]
    show byl [IntKind.wrap .u8 5] ++ ((nuS i 0 4611686018427387903).1 ++ ((txS n false).1 ++ ((vaS v true).1 ++ []))) = (((kb 5 ++ Num.putN (u64 i)) ++ Num.putT n) ++ encV v)
    simp only [txS, nuS, vaS, ruS, kb, List.append_assoc, List.append_nil]
theorem opq2 (i : Int) (t : List UInt8) (f e : Int) (n : List UInt8) (v : VD.T) (c : Bool) : (chgS (2, i, t, f, e, n, v, c)).2 = (opN (2, i, t, f, e, n, v, c)).2 ∧ ((chgS (2, i, t, f, e, n, v, c)).2 = true → (chgS (2, i, t, f, e, n, v, c)).1 = encRO (2, i, t, f, e, n, v, c)) := by
  rw [show chgS (2, i, t, f, e, n, v, c) = allS (putO (2, i, t, f, e, n, v, c)) (IntKind.wrap .u8 2) [105, 99] from rfl]
  refine ⟨?_, fun h => ?_⟩
  · rw [allS_2]
    cases c
    all_goals show ((nuS i 0 4611686018427387903).2 && (true && true)) = okId i
    all_goals simp only [nu_i, Bool.and_true]
  · rw [allS_1 h]
    cases c
    · show byl [IntKind.wrap .u8 2] ++ ((nuS i 0 4611686018427387903).1 ++ (kb 0 ++ [])) = kb 2 ++ Num.putN (u64 i) ++ kb 0
      simp only [nuS, kb, List.append_assoc, List.append_nil]
    · show byl [IntKind.wrap .u8 2] ++ ((nuS i 0 4611686018427387903).1 ++ (kb 1 ++ [])) = kb 2 ++ Num.putN (u64 i) ++ kb 1
      simp only [nuS, kb, List.append_assoc, List.append_nil]
theorem opq (o : OD.T) : (chgS o).2 = (opN o).2 ∧ ((chgS o).2 = true → (chgS o).1 = encRO o ∧ proO OD.df o = (opN o).1) := by
  obtain ⟨k, i, t, f, e, n, v, c⟩ := o
  have hk : ∀ k' : Int, k' = k → (k' < 0 ∨ 6 ≤ k' ∨ k' = 0) ∨ k' = 1 ∨ k' = 2 ∨ k' = 3 ∨ k' = 4 ∨ k' = 5 := fun k' _ => by omega
  rcases hk k rfl with h | rfl | rfl | rfl | rfl | rfl
  · have hc : (chgS (k, i, t, f, e, n, v, c)).2 = false := by
      rw [show chgS (k, i, t, f, e, n, v, c) = ([], false) from if_pos (by
        rcases h with h | h | h
        · exact .inl h
        · exact .inr (.inl h)
        · exact .inr (.inr (by rw [show (k, i, t, f, e, n, v, c).1 = k from rfl, h]; rfl)))]
    have ho : (opN (k, i, t, f, e, n, v, c)).2 = false := by
      have hn : ∀ k' : Int, (k' < 0 ∨ 6 ≤ k' ∨ k' = 0) → ¬ k' = 1 ∧ ¬ k' = 2 ∧ ¬ k' = 3 ∧ ¬ k' = 4 ∧ ¬ k' = 5 := fun k' _ => by omega
      obtain ⟨n1, n2, n3, n4, n5⟩ := hn k h
      unfold opN
      rw [if_neg n1, if_neg n2, if_neg n3, if_neg n4, if_neg n5]
    rw [hc, ho]
    exact ⟨rfl, fun h => by cases h⟩
  · exact ⟨(opq1 i t f e n v c).1, fun h => ⟨(opq1 i t f e n v c).2 h, rfl⟩⟩
  · exact ⟨(opq2 i t f e n v c).1, fun h => ⟨(opq2 i t f e n v c).2 h, rfl⟩⟩
  · exact ⟨(opq3 i t f e n v c).1, fun h => ⟨(opq3 i t f e n v c).2 h, rfl⟩⟩
  · exact ⟨(opq4 i t f e n v c).1, fun h => ⟨(opq4 i t f e n v c).2 h, rfl⟩⟩
  · exact ⟨(opq5 i t f e n v c).1, fun h => ⟨(opq5 i t f e n v c).2 h, rfl⟩⟩
theorem cmq1 (i : Int) (t n : List UInt8) (v w : VD.T) (N : Int) (o : OD.T) (r : RD.T) : (bytM (1, i, t, n, v, w, N, o, r)).2 = (cmN (1, i, t, n, v, w, N, o, r)).2 ∧ ((bytM (1, i, t, n, v, w, N, o, r)).2 = true → (bytM (1, i, t, n, v, w, N, o, r)).1 = encR (1, i, t, n, v, w, N, o, r)) := by
  rw [show bytM (1, i, t, n, v, w, N, o, r) = allS (putM (1, i, t, n, v, w, N, o, r)) (IntKind.wrap .u8 1) [] from rfl]
  refine ⟨?_, fun h => ?_⟩
  · rw [allS_2]
    rfl
  · rw [allS_1 h]
    show byl [IntKind.wrap .u8 1] ++ [] = kb 1
    simp only [txS, nuS, vaS, ruS, kb, List.append_assoc, List.append_nil]
theorem cmq2 (i : Int) (t n : List UInt8) (v w : VD.T) (N : Int) (o : OD.T) (r : RD.T) : (bytM (2, i, t, n, v, w, N, o, r)).2 = (cmN (2, i, t, n, v, w, N, o, r)).2 ∧ ((bytM (2, i, t, n, v, w, N, o, r)).2 = true → (bytM (2, i, t, n, v, w, N, o, r)).1 = encR (2, i, t, n, v, w, N, o, r)) := by
  rw [show bytM (2, i, t, n, v, w, N, o, r) = allS (putM (2, i, t, n, v, w, N, o, r)) (IntKind.wrap .u8 2) [] from rfl]
  refine ⟨?_, fun h => ?_⟩
  · rw [allS_2]
    rfl
  · rw [allS_1 h]
    show byl [IntKind.wrap .u8 2] ++ [] = kb 2
    simp only [txS, nuS, vaS, ruS, kb, List.append_assoc, List.append_nil]
theorem cmq3 (i : Int) (t n : List UInt8) (v w : VD.T) (N : Int) (o : OD.T) (r : RD.T) : (bytM (3, i, t, n, v, w, N, o, r)).2 = (cmN (3, i, t, n, v, w, N, o, r)).2 ∧ ((bytM (3, i, t, n, v, w, N, o, r)).2 = true → (bytM (3, i, t, n, v, w, N, o, r)).1 = encR (3, i, t, n, v, w, N, o, r)) := by
  rw [show bytM (3, i, t, n, v, w, N, o, r) = allS (putM (3, i, t, n, v, w, N, o, r)) (IntKind.wrap .u8 3) [] from rfl]
  refine ⟨?_, fun h => ?_⟩
  · rw [allS_2]
    rfl
  · rw [allS_1 h]
    show byl [IntKind.wrap .u8 3] ++ [] = kb 3
    simp only [txS, nuS, vaS, ruS, kb, List.append_assoc, List.append_nil]
theorem cmq4 (i : Int) (t n : List UInt8) (v w : VD.T) (N : Int) (o : OD.T) (r : RD.T) : (bytM (4, i, t, n, v, w, N, o, r)).2 = (cmN (4, i, t, n, v, w, N, o, r)).2 ∧ ((bytM (4, i, t, n, v, w, N, o, r)).2 = true → (bytM (4, i, t, n, v, w, N, o, r)).1 = encR (4, i, t, n, v, w, N, o, r)) := by
  rw [show bytM (4, i, t, n, v, w, N, o, r) = allS (putM (4, i, t, n, v, w, N, o, r)) (IntKind.wrap .u8 4) [110] from rfl]
  refine ⟨?_, fun h => ?_⟩
  · rw [allS_2]
    show ((txS n false).2 && true) = nameS n
    simp only [tx_f, tx_e, nu_i, nu_k, nu_m, va_f, va_t, ru_f, Bool.and_true, Bool.and_assoc]
  · rw [allS_1 h]
    show byl [IntKind.wrap .u8 4] ++ ((txS n false).1 ++ []) = kb 4 ++ Num.putT n
    simp only [txS, nuS, vaS, ruS, kb, List.append_assoc, List.append_nil]
theorem cmq5 (i : Int) (t n : List UInt8) (v w : VD.T) (N : Int) (o : OD.T) (r : RD.T) : (bytM (5, i, t, n, v, w, N, o, r)).2 = (cmN (5, i, t, n, v, w, N, o, r)).2 ∧ ((bytM (5, i, t, n, v, w, N, o, r)).2 = true → (bytM (5, i, t, n, v, w, N, o, r)).1 = encR (5, i, t, n, v, w, N, o, r)) := by
  rw [show bytM (5, i, t, n, v, w, N, o, r) = allS (putM (5, i, t, n, v, w, N, o, r)) (IntKind.wrap .u8 5) [110] from rfl]
  refine ⟨?_, fun h => ?_⟩
  · rw [allS_2]
    show ((txS n false).2 && true) = nameS n
    simp only [tx_f, tx_e, nu_i, nu_k, nu_m, va_f, va_t, ru_f, Bool.and_true, Bool.and_assoc]
  · rw [allS_1 h]
    show byl [IntKind.wrap .u8 5] ++ ((txS n false).1 ++ []) = kb 5 ++ Num.putT n
    simp only [txS, nuS, vaS, ruS, kb, List.append_assoc, List.append_nil]
theorem cmq7 (i : Int) (t n : List UInt8) (v w : VD.T) (N : Int) (o : OD.T) (r : RD.T) : (bytM (7, i, t, n, v, w, N, o, r)).2 = (cmN (7, i, t, n, v, w, N, o, r)).2 ∧ ((bytM (7, i, t, n, v, w, N, o, r)).2 = true → (bytM (7, i, t, n, v, w, N, o, r)).1 = encR (7, i, t, n, v, w, N, o, r)) := by
  rw [show bytM (7, i, t, n, v, w, N, o, r) = allS (putM (7, i, t, n, v, w, N, o, r)) (IntKind.wrap .u8 7) [105] from rfl]
  refine ⟨?_, fun h => ?_⟩
  · rw [allS_2]
    show ((nuS i 0 4611686018427387903).2 && true) = okId i
    simp only [tx_f, tx_e, nu_i, nu_k, nu_m, va_f, va_t, ru_f, Bool.and_true, Bool.and_assoc]
  · rw [allS_1 h]
    show byl [IntKind.wrap .u8 7] ++ ((nuS i 0 4611686018427387903).1 ++ []) = kb 7 ++ Num.putN (u64 i)
    simp only [txS, nuS, vaS, ruS, kb, List.append_assoc, List.append_nil]
theorem cmq8 (i : Int) (t n : List UInt8) (v w : VD.T) (N : Int) (o : OD.T) (r : RD.T) : (bytM (8, i, t, n, v, w, N, o, r)).2 = (cmN (8, i, t, n, v, w, N, o, r)).2 ∧ ((bytM (8, i, t, n, v, w, N, o, r)).2 = true → (bytM (8, i, t, n, v, w, N, o, r)).1 = encR (8, i, t, n, v, w, N, o, r)) := by
  rw [show bytM (8, i, t, n, v, w, N, o, r) = allS (putM (8, i, t, n, v, w, N, o, r)) (IntKind.wrap .u8 8) [105] from rfl]
  refine ⟨?_, fun h => ?_⟩
  · rw [allS_2]
    show ((nuS i 0 4611686018427387903).2 && true) = okId i
    simp only [tx_f, tx_e, nu_i, nu_k, nu_m, va_f, va_t, ru_f, Bool.and_true, Bool.and_assoc]
  · rw [allS_1 h]
    show byl [IntKind.wrap .u8 8] ++ ((nuS i 0 4611686018427387903).1 ++ []) = kb 8 ++ Num.putN (u64 i)
    simp only [txS, nuS, vaS, ruS, kb, List.append_assoc, List.append_nil]
theorem cmq9 (i : Int) (t n : List UInt8) (v w : VD.T) (N : Int) (o : OD.T) (r : RD.T) : (bytM (9, i, t, n, v, w, N, o, r)).2 = (cmN (9, i, t, n, v, w, N, o, r)).2 ∧ ((bytM (9, i, t, n, v, w, N, o, r)).2 = true → (bytM (9, i, t, n, v, w, N, o, r)).1 = encR (9, i, t, n, v, w, N, o, r)) := by
  rw [show bytM (9, i, t, n, v, w, N, o, r) = allS (putM (9, i, t, n, v, w, N, o, r)) (IntKind.wrap .u8 9) [105, 101] from rfl]
  refine ⟨?_, fun h => ?_⟩
  · rw [allS_2]
    show ((nuS i 0 4611686018427387903).2 && ((txS t true).2 && true)) = (okId i && (decide (t = []) || nameS t))
    simp only [tx_f, tx_e, nu_i, nu_k, nu_m, va_f, va_t, ru_f, Bool.and_true, Bool.and_assoc]
  · rw [allS_1 h]
    show byl [IntKind.wrap .u8 9] ++ ((nuS i 0 4611686018427387903).1 ++ ((txS t true).1 ++ [])) = kb 9 ++ (Num.putN (u64 i) ++ Num.putT t)
    simp only [txS, nuS, vaS, ruS, kb, List.append_assoc, List.append_nil]
theorem cmq10 (i : Int) (t n : List UInt8) (v w : VD.T) (N : Int) (o : OD.T) (r : RD.T) : (bytM (10, i, t, n, v, w, N, o, r)).2 = (cmN (10, i, t, n, v, w, N, o, r)).2 ∧ ((bytM (10, i, t, n, v, w, N, o, r)).2 = true → (bytM (10, i, t, n, v, w, N, o, r)).1 = encR (10, i, t, n, v, w, N, o, r)) := by
  rw [show bytM (10, i, t, n, v, w, N, o, r) = allS (putM (10, i, t, n, v, w, N, o, r)) (IntKind.wrap .u8 10) [105, 101] from rfl]
  refine ⟨?_, fun h => ?_⟩
  · rw [allS_2]
    show ((nuS i 0 4611686018427387903).2 && ((txS t true).2 && true)) = (okId i && (decide (t = []) || nameS t))
    simp only [tx_f, tx_e, nu_i, nu_k, nu_m, va_f, va_t, ru_f, Bool.and_true, Bool.and_assoc]
  · rw [allS_1 h]
    show byl [IntKind.wrap .u8 10] ++ ((nuS i 0 4611686018427387903).1 ++ ((txS t true).1 ++ [])) = kb 10 ++ (Num.putN (u64 i) ++ Num.putT t)
    simp only [txS, nuS, vaS, ruS, kb, List.append_assoc, List.append_nil]
theorem cmq11 (i : Int) (t n : List UInt8) (v w : VD.T) (N : Int) (o : OD.T) (r : RD.T) : (bytM (11, i, t, n, v, w, N, o, r)).2 = (cmN (11, i, t, n, v, w, N, o, r)).2 ∧ ((bytM (11, i, t, n, v, w, N, o, r)).2 = true → (bytM (11, i, t, n, v, w, N, o, r)).1 = encR (11, i, t, n, v, w, N, o, r)) := by
  rw [show bytM (11, i, t, n, v, w, N, o, r) = allS (putM (11, i, t, n, v, w, N, o, r)) (IntKind.wrap .u8 11) [116] from rfl]
  refine ⟨?_, fun h => ?_⟩
  · rw [allS_2]
    show ((txS t false).2 && true) = nameS t
    simp only [tx_f, tx_e, nu_i, nu_k, nu_m, va_f, va_t, ru_f, Bool.and_true, Bool.and_assoc]
  · rw [allS_1 h]
    show byl [IntKind.wrap .u8 11] ++ ((txS t false).1 ++ []) = kb 11 ++ Num.putT t
    simp only [txS, nuS, vaS, ruS, kb, List.append_assoc, List.append_nil]
theorem cmq12 (i : Int) (t n : List UInt8) (v w : VD.T) (N : Int) (o : OD.T) (r : RD.T) : (bytM (12, i, t, n, v, w, N, o, r)).2 = (cmN (12, i, t, n, v, w, N, o, r)).2 ∧ ((bytM (12, i, t, n, v, w, N, o, r)).2 = true → (bytM (12, i, t, n, v, w, N, o, r)).1 = encR (12, i, t, n, v, w, N, o, r)) := by
  rw [show bytM (12, i, t, n, v, w, N, o, r) = allS (putM (12, i, t, n, v, w, N, o, r)) (IntKind.wrap .u8 12) [116, 110, 118] from rfl]
  refine ⟨?_, fun h => ?_⟩
  · rw [allS_2]
    show ((txS t false).2 && ((txS n false).2 && ((vaS v false).2 && true))) = ((nameS t && nameS n) && goodV v)
    simp only [tx_f, tx_e, nu_i, nu_k, nu_m, va_f, va_t, ru_f, Bool.and_true, Bool.and_assoc]
  · rw [allS_1 h]
    show byl [IntKind.wrap .u8 12] ++ ((txS t false).1 ++ ((txS n false).1 ++ ((vaS v false).1 ++ []))) = kb 12 ++ ((Num.putT t ++ Num.putT n) ++ encV v)
    simp only [txS, nuS, vaS, ruS, kb, List.append_assoc, List.append_nil]
theorem cmq13 (i : Int) (t n : List UInt8) (v w : VD.T) (N : Int) (o : OD.T) (r : RD.T) : (bytM (13, i, t, n, v, w, N, o, r)).2 = (cmN (13, i, t, n, v, w, N, o, r)).2 ∧ ((bytM (13, i, t, n, v, w, N, o, r)).2 = true → (bytM (13, i, t, n, v, w, N, o, r)).1 = encR (13, i, t, n, v, w, N, o, r)) := by
  rw [show bytM (13, i, t, n, v, w, N, o, r) = allS (putM (13, i, t, n, v, w, N, o, r)) (IntKind.wrap .u8 13) [116, 110, 119, 120] from rfl]
  refine ⟨?_, fun h => ?_⟩
  · rw [allS_2]
    show ((txS t false).2 && ((txS n false).2 && ((vaS v true).2 && ((vaS w true).2 && true)))) = (((nameS t && nameS n) && okVal v) && okVal w)
    simp only [tx_f, tx_e, nu_i, nu_k, nu_m, va_f, va_t, ru_f, Bool.and_true, Bool.and_assoc]
  · rw [allS_1 h]
    show byl [IntKind.wrap .u8 13] ++ ((txS t false).1 ++ ((txS n false).1 ++ ((vaS v true).1 ++ ((vaS w true).1 ++ [])))) = kb 13 ++ (((Num.putT t ++ Num.putT n) ++ encV v) ++ encV w)
    simp only [txS, nuS, vaS, ruS, kb, List.append_assoc, List.append_nil]
theorem cmq14 (i : Int) (t n : List UInt8) (v w : VD.T) (N : Int) (o : OD.T) (r : RD.T) : (bytM (14, i, t, n, v, w, N, o, r)).2 = (cmN (14, i, t, n, v, w, N, o, r)).2 ∧ ((bytM (14, i, t, n, v, w, N, o, r)).2 = true → (bytM (14, i, t, n, v, w, N, o, r)).1 = encR (14, i, t, n, v, w, N, o, r)) := by
  rw [show bytM (14, i, t, n, v, w, N, o, r) = allS (putM (14, i, t, n, v, w, N, o, r)) (IntKind.wrap .u8 14) [116, 107] from rfl]
  refine ⟨?_, fun h => ?_⟩
  · rw [allS_2]
    show ((txS t false).2 && ((nuS N 1 2).2 && true)) = (nameS t && (decide (N = 1) || decide (N = 2)))
    simp only [tx_f, tx_e, nu_i, nu_k, nu_m, va_f, va_t, ru_f, Bool.and_true, Bool.and_assoc]
  · rw [allS_1 h]
    show byl [IntKind.wrap .u8 14] ++ ((txS t false).1 ++ ((nuS N 1 2).1 ++ [])) = kb 14 ++ (Num.putT t ++ Num.putN (u64 N))
    simp only [txS, nuS, vaS, ruS, kb, List.append_assoc, List.append_nil]
theorem cmq15 (i : Int) (t n : List UInt8) (v w : VD.T) (N : Int) (o : OD.T) (r : RD.T) : (bytM (15, i, t, n, v, w, N, o, r)).2 = (cmN (15, i, t, n, v, w, N, o, r)).2 ∧ ((bytM (15, i, t, n, v, w, N, o, r)).2 = true → (bytM (15, i, t, n, v, w, N, o, r)).1 = encR (15, i, t, n, v, w, N, o, r)) := by
  rw [show bytM (15, i, t, n, v, w, N, o, r) = allS (putM (15, i, t, n, v, w, N, o, r)) (IntKind.wrap .u8 15) [116, 107] from rfl]
  refine ⟨?_, fun h => ?_⟩
  · rw [allS_2]
    show ((txS t false).2 && ((nuS N 1 2).2 && true)) = (nameS t && (decide (N = 1) || decide (N = 2)))
    simp only [tx_f, tx_e, nu_i, nu_k, nu_m, va_f, va_t, ru_f, Bool.and_true, Bool.and_assoc]
  · rw [allS_1 h]
    show byl [IntKind.wrap .u8 15] ++ ((txS t false).1 ++ ((nuS N 1 2).1 ++ [])) = kb 15 ++ (Num.putT t ++ Num.putN (u64 N))
    simp only [txS, nuS, vaS, ruS, kb, List.append_assoc, List.append_nil]
theorem cmq16 (i : Int) (t n : List UInt8) (v w : VD.T) (N : Int) (o : OD.T) (r : RD.T) : (bytM (16, i, t, n, v, w, N, o, r)).2 = (cmN (16, i, t, n, v, w, N, o, r)).2 ∧ ((bytM (16, i, t, n, v, w, N, o, r)).2 = true → (bytM (16, i, t, n, v, w, N, o, r)).1 = encR (16, i, t, n, v, w, N, o, r)) := by
  rw [show bytM (16, i, t, n, v, w, N, o, r) = allS (putM (16, i, t, n, v, w, N, o, r)) (IntKind.wrap .u8 16) [114] from rfl]
  refine ⟨?_, fun h => ?_⟩
  · rw [allS_2]
    show ((ruS r).2 && true) = (formS r && decide (r.1 = 0) && decide (r.2.2.2.2.2.2.2 = 0))
    simp only [tx_f, tx_e, nu_i, nu_k, nu_m, va_f, va_t, ru_f, Bool.and_true, Bool.and_assoc]
  · rw [allS_1 h]
    show byl [IntKind.wrap .u8 16] ++ ((ruS r).1 ++ []) = kb 16 ++ encS r
    simp only [txS, nuS, vaS, ruS, kb, List.append_assoc, List.append_nil]
theorem cmq17 (i : Int) (t n : List UInt8) (v w : VD.T) (N : Int) (o : OD.T) (r : RD.T) : (bytM (17, i, t, n, v, w, N, o, r)).2 = (cmN (17, i, t, n, v, w, N, o, r)).2 ∧ ((bytM (17, i, t, n, v, w, N, o, r)).2 = true → (bytM (17, i, t, n, v, w, N, o, r)).1 = encR (17, i, t, n, v, w, N, o, r)) := by
  rw [show bytM (17, i, t, n, v, w, N, o, r) = allS (putM (17, i, t, n, v, w, N, o, r)) (IntKind.wrap .u8 17) [109] from rfl]
  refine ⟨?_, fun h => ?_⟩
  · rw [allS_2]
    show ((nuS N 0 1000000).2 && true) = (decide (0 ≤ N) && decide (N ≤ 1000000))
    simp only [tx_f, tx_e, nu_i, nu_k, nu_m, va_f, va_t, ru_f, Bool.and_true, Bool.and_assoc]
  · rw [allS_1 h]
    show byl [IntKind.wrap .u8 17] ++ ((nuS N 0 1000000).1 ++ []) = kb 17 ++ Num.putN (u64 N)
    simp only [txS, nuS, vaS, ruS, kb, List.append_assoc, List.append_nil]
theorem cmq18 (i : Int) (t n : List UInt8) (v w : VD.T) (N : Int) (o : OD.T) (r : RD.T) : (bytM (18, i, t, n, v, w, N, o, r)).2 = (cmN (18, i, t, n, v, w, N, o, r)).2 ∧ ((bytM (18, i, t, n, v, w, N, o, r)).2 = true → (bytM (18, i, t, n, v, w, N, o, r)).1 = encR (18, i, t, n, v, w, N, o, r)) := by
  rw [show bytM (18, i, t, n, v, w, N, o, r) = allS (putM (18, i, t, n, v, w, N, o, r)) (IntKind.wrap .u8 18) [116, 110] from rfl]
  refine ⟨?_, fun h => ?_⟩
  · rw [allS_2]
    show ((txS t false).2 && ((txS n false).2 && true)) = (nameS t && nameS n)
    simp only [tx_f, tx_e, nu_i, nu_k, nu_m, va_f, va_t, ru_f, Bool.and_true, Bool.and_assoc]
  · rw [allS_1 h]
    show byl [IntKind.wrap .u8 18] ++ ((txS t false).1 ++ ((txS n false).1 ++ [])) = kb 18 ++ (Num.putT t ++ Num.putT n)
    simp only [txS, nuS, vaS, ruS, kb, List.append_assoc, List.append_nil]
theorem cmq19 (i : Int) (t n : List UInt8) (v w : VD.T) (N : Int) (o : OD.T) (r : RD.T) : (bytM (19, i, t, n, v, w, N, o, r)).2 = (cmN (19, i, t, n, v, w, N, o, r)).2 ∧ ((bytM (19, i, t, n, v, w, N, o, r)).2 = true → (bytM (19, i, t, n, v, w, N, o, r)).1 = encR (19, i, t, n, v, w, N, o, r)) := by
  rw [show bytM (19, i, t, n, v, w, N, o, r) = allS (putM (19, i, t, n, v, w, N, o, r)) (IntKind.wrap .u8 19) [116, 110] from rfl]
  refine ⟨?_, fun h => ?_⟩
  · rw [allS_2]
    show ((txS t false).2 && ((txS n false).2 && true)) = (nameS t && nameS n)
    simp only [tx_f, tx_e, nu_i, nu_k, nu_m, va_f, va_t, ru_f, Bool.and_true, Bool.and_assoc]
  · rw [allS_1 h]
    show byl [IntKind.wrap .u8 19] ++ ((txS t false).1 ++ ((txS n false).1 ++ [])) = kb 19 ++ (Num.putT t ++ Num.putT n)
    simp only [txS, nuS, vaS, ruS, kb, List.append_assoc, List.append_nil]
theorem cmq20 (i : Int) (t n : List UInt8) (v w : VD.T) (N : Int) (o : OD.T) (r : RD.T) : (bytM (20, i, t, n, v, w, N, o, r)).2 = (cmN (20, i, t, n, v, w, N, o, r)).2 ∧ ((bytM (20, i, t, n, v, w, N, o, r)).2 = true → (bytM (20, i, t, n, v, w, N, o, r)).1 = encR (20, i, t, n, v, w, N, o, r)) := by
  rw [show bytM (20, i, t, n, v, w, N, o, r) = allS (putM (20, i, t, n, v, w, N, o, r)) (IntKind.wrap .u8 20) [] from rfl]
  refine ⟨?_, fun h => ?_⟩
  · rw [allS_2]
    rfl
  · rw [allS_1 h]
    show byl [IntKind.wrap .u8 20] ++ [] = kb 20
    simp only [txS, nuS, vaS, ruS, kb, List.append_assoc, List.append_nil]
/-- the form and the bytes, of any command -/
theorem cmq (m : MD.T) : (goodM m = ((bytM m).2 && MD.eqb (proM m) m) → goodM m = refgood m) ∧ ((bytM m).2 = true → (bytM m).1 = encR m) := by
  obtain ⟨k, i, t, n, v, w, N, o, r⟩ := m
  have hk : ∀ k' : Int, k' = k → (k' < 1 ∨ 21 ≤ k') ∨ k' = 1 ∨ k' = 2 ∨ k' = 3 ∨ k' = 4 ∨ k' = 5 ∨ k' = 6 ∨ k' = 7 ∨ k' = 8 ∨ k' = 9 ∨ k' = 10 ∨ k' = 11 ∨ k' = 12 ∨ k' = 13 ∨ k' = 14 ∨ k' = 15 ∨ k' = 16 ∨ k' = 17 ∨ k' = 18 ∨ k' = 19 ∨ k' = 20 := fun k' _ => by omega
  rcases hk k rfl with h | rfl | rfl | rfl | rfl | rfl | rfl | rfl | rfl | rfl | rfl | rfl | rfl | rfl | rfl | rfl | rfl | rfl | rfl | rfl | rfl
  · have hu : knownM k = false := by
      have : ∀ k' : Int, (k' < 1 ∨ 21 ≤ k') → knownM k' = false := fun k' h => by simp [knownM]; omega
      exact this k h
    have hb : bytM (k, i, t, n, v, w, N, o, r) = ([], false) := if_pos hu
    have hn : ∀ k' : Int, (k' < 1 ∨ 21 ≤ k') → ¬ k' = 1 ∧ ¬ k' = 2 ∧ ¬ k' = 3 ∧ ¬ k' = 4 ∧ ¬ k' = 5 ∧ ¬ k' = 6 ∧ ¬ k' = 7 ∧ ¬ k' = 8 ∧ ¬ k' = 9 ∧ ¬ k' = 10 ∧ ¬ k' = 11 ∧ ¬ k' = 12 ∧ ¬ k' = 13 ∧ ¬ k' = 14 ∧ ¬ k' = 15 ∧ ¬ k' = 16 ∧ ¬ k' = 17 ∧ ¬ k' = 18 ∧ ¬ k' = 19 ∧ ¬ k' = 20 := fun k' _ => by omega
    obtain ⟨a1, a2, a3, a4, a5, a6, a7, a8, a9, a10, a11, a12, a13, a14, a15, a16, a17, a18, a19, a20⟩ := hn k h
    have hc : (cmN (k, i, t, n, v, w, N, o, r)).2 = false := by
      have : cmN (k, i, t, n, v, w, N, o, r) = (m0 k, false) := by simp [cmN, a1, a2, a3, a4, a5, a6, a7, a8, a9, a10, a11, a12, a13, a14, a15, a16, a17, a18, a19, a20]
      rw [this]
    refine ⟨fun h => ?_, fun h => ?_⟩
    · rw [h, hb]; unfold refgood; rw [hc]; rfl
    · rw [hb] at h; cases h
  · exact ⟨fun h => by rw [h, (cmq1 i t n v w N o r).1]; rfl, (cmq1 i t n v w N o r).2⟩
  · exact ⟨fun h => by rw [h, (cmq2 i t n v w N o r).1]; rfl, (cmq2 i t n v w N o r).2⟩
  · exact ⟨fun h => by rw [h, (cmq3 i t n v w N o r).1]; rfl, (cmq3 i t n v w N o r).2⟩
  · exact ⟨fun h => by rw [h, (cmq4 i t n v w N o r).1]; rfl, (cmq4 i t n v w N o r).2⟩
  · exact ⟨fun h => by rw [h, (cmq5 i t n v w N o r).1]; rfl, (cmq5 i t n v w N o r).2⟩
  · have hb : bytM (6, i, t, n, v, w, N, o, r) = allS (putM (6, i, t, n, v, w, N, o, r)) (IntKind.wrap .u8 6) [111] := rfl
    have h2 : (bytM (6, i, t, n, v, w, N, o, r)).2 = (chgS o).2 := by
      rw [hb, allS_2]
      show ((chgS o).2 && true) = _
      rw [Bool.and_true]
    obtain ⟨q1, q2⟩ := opq o
    refine ⟨fun h => ?_, fun h => ?_⟩
    · rw [h, h2]
      unfold refgood
      show ((chgS o).2 && MD.eqb (sO (m0 6) (proO OD.df o)) (6, i, t, n, v, w, N, o, r)) = (goodO o && MD.eqb (sO (m0 6) o) (6, i, t, n, v, w, N, o, r))
      unfold goodO
      cases hc : (chgS o).2 with
      | false => rw [← q1, hc]; rfl
      | true =>
        rw [← q1, hc, ← (q2 hc).2, Bool.eq_iff_iff]
        simp only [Bool.true_and, Bool.and_eq_true, D.eqb_iff]
        constructor
        · intro e
          have e2 : proO OD.df o = o := congrArg mOp e
          exact ⟨e2, by rw [e2] at e; exact e⟩
        · rintro ⟨e1, e2⟩
          rw [e1]; exact e2
    · rw [hb, allS_1 (by rw [← hb]; exact h)]
      show byl [IntKind.wrap .u8 6] ++ ((chgS o).1 ++ []) = kb 6 ++ encRO o
      rw [h2] at h
      rw [(q2 h).1, List.append_nil]
      rfl
  · exact ⟨fun h => by rw [h, (cmq7 i t n v w N o r).1]; rfl, (cmq7 i t n v w N o r).2⟩
  · exact ⟨fun h => by rw [h, (cmq8 i t n v w N o r).1]; rfl, (cmq8 i t n v w N o r).2⟩
  · exact ⟨fun h => by rw [h, (cmq9 i t n v w N o r).1]; rfl, (cmq9 i t n v w N o r).2⟩
  · exact ⟨fun h => by rw [h, (cmq10 i t n v w N o r).1]; rfl, (cmq10 i t n v w N o r).2⟩
  · exact ⟨fun h => by rw [h, (cmq11 i t n v w N o r).1]; rfl, (cmq11 i t n v w N o r).2⟩
  · exact ⟨fun h => by rw [h, (cmq12 i t n v w N o r).1]; rfl, (cmq12 i t n v w N o r).2⟩
  · exact ⟨fun h => by rw [h, (cmq13 i t n v w N o r).1]; rfl, (cmq13 i t n v w N o r).2⟩
  · exact ⟨fun h => by rw [h, (cmq14 i t n v w N o r).1]; rfl, (cmq14 i t n v w N o r).2⟩
  · exact ⟨fun h => by rw [h, (cmq15 i t n v w N o r).1]; rfl, (cmq15 i t n v w N o r).2⟩
  · exact ⟨fun h => by rw [h, (cmq16 i t n v w N o r).1]; rfl, (cmq16 i t n v w N o r).2⟩
  · exact ⟨fun h => by rw [h, (cmq17 i t n v w N o r).1]; rfl, (cmq17 i t n v w N o r).2⟩
  · exact ⟨fun h => by rw [h, (cmq18 i t n v w N o r).1]; rfl, (cmq18 i t n v w N o r).2⟩
  · exact ⟨fun h => by rw [h, (cmq19 i t n v w N o r).1]; rfl, (cmq19 i t n v w N o r).2⟩
  · exact ⟨fun h => by rw [h, (cmq20 i t n v w N o r).1]; rfl, (cmq20 i t n v w N o r).2⟩
theorem good_eq {m : MD.T} (hm : SmC m) : goodM m = refgood m := (cmq m).1 (good_pro hm)
theorem enc_eq {m : MD.T} (h : goodM m = true) : (bytM m).1 = encR m := by
  unfold goodM at h
  rw [Bool.and_eq_true] at h
  exact (cmq m).2 h.1
theorem encM_eq {m : MD.T} (hm : SmC m) : encRM m = encM m ∧ errRM m = errM m ∧ msgRM m = msgM m := by
  have e := good_eq hm
  unfold encRM encM errRM errM msgRM msgM
  rw [← e]
  by_cases h : goodM m = true
  · simp [h, enc_eq h]
  · simp [h]
end Go.Proofs.YtnldokebmfojeaaDoor
