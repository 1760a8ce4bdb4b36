/- Rules' bytes: what was encoded is decoded as it was, what was decoded is encoded as it stood; no program in sight. Own work. -/
import Derived.Test.YtnldokebmfojeaaDoorRuleDecode
set_option linter.unusedVariables false
set_option maxRecDepth 100000
namespace Go.Proofs.YtnldokebmfojeaaDoor
open Go Go.RowKit OE

theorem gnS_at {s : List UInt8} {k : Int} (p : List UInt8) (n : Nat) (r : List UInt8) (hn : n ≤ 1000000) (hs : s = p ++ Num.putN n ++ r) (hk : k = p.length) : gnS s k = some (n, (Num.putN n).length) := by
  unfold gnS
  rw [hs, hk, Num.getN_put n p r (by omega)]
  exact if_pos hn
theorem gtS_at {s : List UInt8} {k : Int} (p : List UInt8) (t : List UInt8) (r : List UInt8) (hn : t.length ≤ 16) (hs : s = p ++ Num.putT t ++ r) (hk : k = p.length) : Num.getT s k 16 = some (t, (Num.putT t).length) := by
  rw [hs, hk, Num.getT_put t p r 16 (by omega) (by omega)]
theorem gnS_take {s : List UInt8} {k : Int} {n i : Nat} (h : gnS s k = some (n, i)) (j : Nat) (hj : k.toNat = j) : (s.drop j).take i = Num.putN n ∧ j + i ≤ s.length := by
  unfold gnS at h
  cases hg : Num.getN s k with
  | none => rw [hg] at h; cases h
  | some p =>
    rw [hg] at h
    dsimp only at h
    split at h
    · simp only [Option.some.injEq] at h
      rw [h] at hg
      have hb := Num.getN_bd hg
      rw [← hj]
      exact ⟨Num.getN_take hg, by omega⟩
    · cases h
theorem gtS_take {s : List UInt8} {k most : Int} {t : List UInt8} {i : Nat} (h : Num.getT s k most = some (t, i)) (j : Nat) (hj : k.toNat = j) : (s.drop j).take i = Num.putT t ∧ j + i ≤ s.length := by
  unfold Num.getT at h
  cases hg : Num.getN s k with
  | none => rw [hg] at h; cases h
  | some p =>
    have hb := Num.getN_bd (m := p.1) (k := p.2) hg
    have ht := Num.getN_take (m := p.1) (k := p.2) hg
    rw [hg] at h
    dsimp only at h
    split at h
    · cases h
    · rename_i hc
      simp only [Option.some.injEq, Prod.mk.injEq] at h
      obtain ⟨h1, h2⟩ := h
      rw [hj] at h1 ht hc hb
      have hl : t.length = p.1 := by rw [← h1, List.length_take, List.length_drop, List.length_drop]; omega
      refine ⟨?_, by omega⟩
      unfold Num.putT
      rw [← h2, List.take_add, ht, h1, hl]

theorem toNat_le (x : Int) (h : x ≤ 1000000) : x.toNat ≤ 1000000 := by omega

theorem bytS_len {r : RD.T} (h : okS r = true) : (bytS r).length ≤ 144 := by
  obtain ⟨i0, i1, k0, k1, n0, n1, s0, s1, t0, t1, t2, t3⟩ := okR h
  have p1 := putN_b r.1 i1
  have p2 := putN_b r.2.1 (Int.le_trans k1 (by decide))
  have p3 := putN_b r.2.2.2.2.2.2.2 (Int.le_trans s1 (by decide))
  have p4 := putN_b r.2.2.2.2.2.2.1 (Int.le_trans n1 (by decide))
  have q1 := putT_b t0
  have q2 := putT_b t1
  have q3 := putT_b t2
  have q4 := putT_b t3
  simp only [bytS, List.length_append]
  omega

theorem back1 (r : RD.T) (h : okS r = true) : decS ([120] ++ encS r ++ [120]) 1 = some (r, (encS r).length) := by
  obtain ⟨i0, i1, k0, k1, n0, n1, s0, s1, t0, t1, t2, t3⟩ := okR h
  have k1 : r.2.1 ≤ 1000000 := Int.le_trans k1 (by decide)
  have n1 : r.2.2.2.2.2.2.1 ≤ 1000000 := Int.le_trans n1 (by decide)
  have s1 : r.2.2.2.2.2.2.2 ≤ 1000000 := Int.le_trans s1 (by decide)
  have k0 : 0 ≤ r.2.1 := Int.le_trans (by decide) k0
  have e : encS r = bytS r := by unfold encS; rw [if_pos h]
  rw [e]
  have hd : decP ([120] ++ bytS r ++ [120]) 1 = some (r, (bytS r).length) := by
    obtain ⟨x1, x2, x3, x4, x5, x6, x7, x8⟩ := r
    dsimp only at *
    unfold bytS
    dsimp only
    have y1 := Int.toNat_of_nonneg i0
    have y2 := Int.toNat_of_nonneg k0
    have y7 := Int.toNat_of_nonneg n0
    have y8 := Int.toNat_of_nonneg s0
    generalize hS : ([120] ++ (Num.putN x1.toNat ++ Num.putN x2.toNat ++ Num.putN x8.toNat ++ Num.putN x7.toNat ++ Num.putT x3 ++ Num.putT x4 ++ Num.putT x5 ++ Num.putT x6) ++ [120] : List UInt8) = S
    have g1 := gnS_at (s := S) (k := 1) [120] x1.toNat (Num.putN x2.toNat ++ Num.putN x8.toNat ++ Num.putN x7.toNat ++ Num.putT x3 ++ Num.putT x4 ++ Num.putT x5 ++ Num.putT x6 ++ [120]) (toNat_le _ i1) (by rw [← hS]; simp only [List.append_assoc]) (by simp)
    have g2 := gnS_at (s := S) (k := 1 + ((Num.putN x1.toNat).length : Int)) ([120] ++ Num.putN x1.toNat) x2.toNat (Num.putN x8.toNat ++ Num.putN x7.toNat ++ Num.putT x3 ++ Num.putT x4 ++ Num.putT x5 ++ Num.putT x6 ++ [120]) (toNat_le _ k1) (by rw [← hS]; simp only [List.append_assoc]) (by simp only [List.length_append, List.length_singleton]; omega)
    have g3 := gnS_at (s := S) (k := 1 + ((Num.putN x1.toNat).length : Int) + ((Num.putN x2.toNat).length : Int)) ([120] ++ Num.putN x1.toNat ++ Num.putN x2.toNat) x8.toNat (Num.putN x7.toNat ++ Num.putT x3 ++ Num.putT x4 ++ Num.putT x5 ++ Num.putT x6 ++ [120]) (toNat_le _ s1) (by rw [← hS]; simp only [List.append_assoc]) (by simp only [List.length_append, List.length_singleton]; omega)
    have g4 := gnS_at (s := S) (k := 1 + ((Num.putN x1.toNat).length : Int) + ((Num.putN x2.toNat).length : Int) + ((Num.putN x8.toNat).length : Int)) ([120] ++ Num.putN x1.toNat ++ Num.putN x2.toNat ++ Num.putN x8.toNat) x7.toNat (Num.putT x3 ++ Num.putT x4 ++ Num.putT x5 ++ Num.putT x6 ++ [120]) (toNat_le _ n1) (by rw [← hS]; simp only [List.append_assoc]) (by simp only [List.length_append, List.length_singleton]; omega)
    have g5 := gtS_at (s := S) (k := 1 + ((Num.putN x1.toNat).length : Int) + ((Num.putN x2.toNat).length : Int) + ((Num.putN x8.toNat).length : Int) + ((Num.putN x7.toNat).length : Int)) ([120] ++ Num.putN x1.toNat ++ Num.putN x2.toNat ++ Num.putN x8.toNat ++ Num.putN x7.toNat) x3 (Num.putT x4 ++ Num.putT x5 ++ Num.putT x6 ++ [120]) t0 (by rw [← hS]; simp only [List.append_assoc]) (by simp only [List.length_append, List.length_singleton]; omega)
    have g6 := gtS_at (s := S) (k := 1 + ((Num.putN x1.toNat).length : Int) + ((Num.putN x2.toNat).length : Int) + ((Num.putN x8.toNat).length : Int) + ((Num.putN x7.toNat).length : Int) + ((Num.putT x3).length : Int)) ([120] ++ Num.putN x1.toNat ++ Num.putN x2.toNat ++ Num.putN x8.toNat ++ Num.putN x7.toNat ++ Num.putT x3) x4 (Num.putT x5 ++ Num.putT x6 ++ [120]) t1 (by rw [← hS]; simp only [List.append_assoc]) (by simp only [List.length_append, List.length_singleton]; omega)
    have g7 := gtS_at (s := S) (k := 1 + ((Num.putN x1.toNat).length : Int) + ((Num.putN x2.toNat).length : Int) + ((Num.putN x8.toNat).length : Int) + ((Num.putN x7.toNat).length : Int) + ((Num.putT x3).length : Int) + ((Num.putT x4).length : Int)) ([120] ++ Num.putN x1.toNat ++ Num.putN x2.toNat ++ Num.putN x8.toNat ++ Num.putN x7.toNat ++ Num.putT x3 ++ Num.putT x4) x5 (Num.putT x6 ++ [120]) t2 (by rw [← hS]; simp only [List.append_assoc]) (by simp only [List.length_append, List.length_singleton]; omega)
    have g8 := gtS_at (s := S) (k := 1 + ((Num.putN x1.toNat).length : Int) + ((Num.putN x2.toNat).length : Int) + ((Num.putN x8.toNat).length : Int) + ((Num.putN x7.toNat).length : Int) + ((Num.putT x3).length : Int) + ((Num.putT x4).length : Int) + ((Num.putT x5).length : Int)) ([120] ++ Num.putN x1.toNat ++ Num.putN x2.toNat ++ Num.putN x8.toNat ++ Num.putN x7.toNat ++ Num.putT x3 ++ Num.putT x4 ++ Num.putT x5) x6 [120] t3 (by rw [← hS]; simp only [List.append_assoc]) (by simp only [List.length_append, List.length_singleton]; omega)
    simp only [decP, g1, g2, g3, g4, g5, g6, g7, g8, List.length_append]
    rw [y1, y2, y7, y8]
  simp only [decS, hd, h, if_true]

theorem back2 {s : List UInt8} {q : RD.T} {n : Nat} (h : decS s 0 = some (q, n)) : okS q = true ∧ encS q = s.take n ∧ n ≤ s.length := by
  unfold decS at h
  cases hp : decP s 0 with
  | none => rw [hp] at h; cases h
  | some p =>
    rw [hp] at h
    dsimp only at h
    split at h
    case isFalse => cases h
    rename_i hok
    simp only [Option.some.injEq] at h
    rw [h] at hp hok
    refine ⟨hok, ?_⟩
    unfold encS
    rw [if_pos hok]
    unfold decP at hp
    cases g1 : gnS s 0 with
    | none => rw [g1] at hp; cases hp
    | some p1 =>
    rw [g1] at hp; dsimp only at hp
    cases g2 : gnS s (0 + p1.2) with
    | none => rw [g2] at hp; cases hp
    | some p2 =>
    rw [g2] at hp; dsimp only at hp
    cases g3 : gnS s (0 + p1.2 + p2.2) with
    | none => rw [g3] at hp; cases hp
    | some p3 =>
    rw [g3] at hp; dsimp only at hp
    cases g4 : gnS s (0 + p1.2 + p2.2 + p3.2) with
    | none => rw [g4] at hp; cases hp
    | some p4 =>
    rw [g4] at hp; dsimp only at hp
    cases g5 : Num.getT s (0 + p1.2 + p2.2 + p3.2 + p4.2) 16 with
    | none => rw [g5] at hp; cases hp
    | some p5 =>
    rw [g5] at hp; dsimp only at hp
    cases g6 : Num.getT s (0 + p1.2 + p2.2 + p3.2 + p4.2 + p5.2) 16 with
    | none => rw [g6] at hp; cases hp
    | some p6 =>
    rw [g6] at hp; dsimp only at hp
    cases g7 : Num.getT s (0 + p1.2 + p2.2 + p3.2 + p4.2 + p5.2 + p6.2) 16 with
    | none => rw [g7] at hp; cases hp
    | some p7 =>
    rw [g7] at hp; dsimp only at hp
    cases g8 : Num.getT s (0 + p1.2 + p2.2 + p3.2 + p4.2 + p5.2 + p6.2 + p7.2) 16 with
    | none => rw [g8] at hp; cases hp
    | some p8 =>
    rw [g8] at hp; dsimp only at hp
    simp only [Option.some.injEq, Prod.mk.injEq] at hp
    obtain ⟨rfl, rfl⟩ := hp
    have t1 := gnS_take (n := p1.1) (i := p1.2) g1 0 rfl
    have t2 := gnS_take (n := p2.1) (i := p2.2) g2 p1.2 (by omega)
    have t3 := gnS_take (n := p3.1) (i := p3.2) g3 (p1.2 + p2.2) (by omega)
    have t4 := gnS_take (n := p4.1) (i := p4.2) g4 (p1.2 + p2.2 + p3.2) (by omega)
    have t5 := gtS_take (t := p5.1) (i := p5.2) g5 (p1.2 + p2.2 + p3.2 + p4.2) (by omega)
    have t6 := gtS_take (t := p6.1) (i := p6.2) g6 (p1.2 + p2.2 + p3.2 + p4.2 + p5.2) (by omega)
    have t7 := gtS_take (t := p7.1) (i := p7.2) g7 (p1.2 + p2.2 + p3.2 + p4.2 + p5.2 + p6.2) (by omega)
    have t8 := gtS_take (t := p8.1) (i := p8.2) g8 (p1.2 + p2.2 + p3.2 + p4.2 + p5.2 + p6.2 + p7.2) (by omega)
    refine ⟨?_, t8.2⟩
    unfold bytS
    rw [List.take_add, List.take_add, List.take_add, List.take_add, List.take_add, List.take_add, List.take_add, t2.1, t3.1, t4.1, t5.1, t6.1, t7.1, t8.1, show s.take p1.2 = Num.putN p1.1 from t1.1]
    rfl
end Go.Proofs.YtnldokebmfojeaaDoor
