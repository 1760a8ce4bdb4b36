/- What the reference reads of bytes is what the program reads; no program in sight. Printed by genwrt.py. Own work. -/
import Derived.Test.YtnldokebmfojeaaDoorWireEq
import Derived.Test.YtnldokebmfojeaaDoorWireRefDec
import Derived.Test.YtnldokebmfojeaaDoorLawWireBack
set_option linter.unusedVariables false
set_option maxRecDepth 100000
namespace Go.Proofs.YtnldokebmfojeaaDoor
open Go Go.RowKit OE

/-! what was read was put so -/
def Step (s : List UInt8) (q q' : Int × Bool) (t : List UInt8) : Prop := q'.2 = false → q.2 = false ∧ s.take q'.1.toNat = s.take q.1.toNat ++ t
theorem Step.trans {s : List UInt8} {q q1 q2 : Int × Bool} {t1 t2 : List UInt8} (h1 : Step s q q1 t1) (h2 : Step s q1 q2 t2) : Step s q q2 (t1 ++ t2) := fun h => by
  obtain ⟨a1, a2⟩ := h2 h
  obtain ⟨b1, b2⟩ := h1 a1
  exact ⟨b1, by rw [a2, b2, List.append_assoc]⟩
theorem take_step' {s t : List UInt8} {a : Int} {n : Nat} (h0 : 0 ≤ a) (h : (s.drop a.toNat).take n = t) : s.take (a + (n : Int)).toNat = s.take a.toNat ++ t := by
  rw [show (a + (n : Int)).toNat = a.toNat + n by omega, List.take_add, h]
theorem no_or {a : Bool} {X : Prop} (h : ¬ (a = true ∨ X)) : a = false ∧ ¬ X := ⟨by cases a; rfl; exact (h (.inl rfl)).elim, fun hx => h (.inr hx)⟩
theorem stY {s : List UInt8} {q : Int × Bool} (h : inS s q) : Step s q (rdY s q).2 (kb (rdY s q).1) := by
  intro hb
  unfold rdY at hb ⊢
  split at hb
  · cases hb
  rename_i hc
  obtain ⟨c1, c2⟩ := no_or hc
  rw [if_neg hc]
  refine ⟨c1, ?_⟩
  dsimp only
  obtain ⟨n, hn⟩ := Int.eq_ofNat_of_zero_le h.1
  rw [hn] at c2 ⊢
  have hlt : n < s.length := by omega
  rw [kb_bt hlt]
  exact take_step' (n := 1) (by omega) (by rw [Int.toNat_natCast, drop_take1 hlt 0]; simp)
theorem stT {s : List UInt8} {q : Int × Bool} (h : inS s q) : Step s q (rdT s q).2 (Num.putT (rdT s q).1) := by
  intro hb
  unfold rdT at hb ⊢
  split at hb
  · cases hb
  rename_i hc
  obtain ⟨c1, c2⟩ := no_or hc
  rw [if_neg hc]
  refine ⟨c1, ?_⟩
  dsimp only
  unfold tS
  cases hg : Num.getT s q.1 16 with
  | none => rw [hg] at c2; exact (c2 rfl).elim
  | some p => exact take_step' h.1 (gtS_take hg q.1.toNat rfl).1
theorem stV {s : List UInt8} {q : Int × Bool} (h : inS s q) : Step s q (rdV s q).2 (encV (rdV s q).1) := by
  intro hb
  unfold rdV at hb ⊢
  split at hb
  · cases hb
  rename_i hc
  obtain ⟨c1, c2⟩ := no_or hc
  rw [if_neg hc]
  refine ⟨c1, ?_⟩
  dsimp only
  unfold vS'
  cases hg : decV s q.1 with
  | none => rw [hg] at c2; exact (c2 rfl).elim
  | some p => exact take_step' h.1 (decV_take hg)
theorem u64_wrap {n : Nat} (h : n ≤ 4611686018427387903) : u64 (IntKind.wrap .i64 (n : Int)) = n := by
  rw [wr64 _ (by omega) (by omega), u64_of (by omega) (by omega)]
  omega
theorem stN {s : List UInt8} {q : Int × Bool} {most : Int} (hm : most ≤ 4611686018427387903) (h : inS s q) : Step s q (rdN s most q).2 (Num.putN (u64 (rdN s most q).1)) := by
  intro hb
  unfold rdN at hb ⊢
  split at hb
  · cases hb
  rename_i hc
  obtain ⟨c1, c2⟩ := no_or hc
  rw [if_neg hc]
  refine ⟨c1, ?_⟩
  dsimp only
  cases hg : Num.getN s q.1 with
  | none => rw [hg] at c2; exact (c2 (.inl rfl)).elim
  | some p =>
    have e : nS s q.1 = p := by unfold nS; rw [hg]; rfl
    rw [e] at c2 ⊢
    rw [u64_wrap (by
      have := fun h => c2 (.inr h)
      omega)]
    exact take_step' h.1 (Num.getN_take hg)
theorem decS_take {s : List UInt8} {k : Int} {q : RD.T} {n : Nat} (h : decS s k = some (q, n)) (hk : 0 ≤ k) : (s.drop k.toNat).take n = encS q := by
  unfold decS at h
  cases hp : decP s k with
  | none => rw [hp] at h; cases h
  | some p =>
    rw [hp] at h
    dsimp only at h
    split at h
    case isFalse => cases h
    rename_i hok
    simp only [Option.some.injEq] at h
    rw [h] at hp hok
    unfold encS
    rw [if_pos hok]
    unfold decP at hp
    cases g1 : gnS s k with
    | none => rw [g1] at hp; cases hp
    | some p1 =>
    rw [g1] at hp; dsimp only at hp
    cases g2 : gnS s (k + p1.2) with
    | none => rw [g2] at hp; cases hp
    | some p2 =>
    rw [g2] at hp; dsimp only at hp
    cases g3 : gnS s (k + p1.2 + p2.2) with
    | none => rw [g3] at hp; cases hp
    | some p3 =>
    rw [g3] at hp; dsimp only at hp
    cases g4 : gnS s (k + p1.2 + p2.2 + p3.2) with
    | none => rw [g4] at hp; cases hp
    | some p4 =>
    rw [g4] at hp; dsimp only at hp
    cases g5 : Num.getT s (k + p1.2 + p2.2 + p3.2 + p4.2) 16 with
    | none => rw [g5] at hp; cases hp
    | some p5 =>
    rw [g5] at hp; dsimp only at hp
    cases g6 : Num.getT s (k + p1.2 + p2.2 + p3.2 + p4.2 + p5.2) 16 with
    | none => rw [g6] at hp; cases hp
    | some p6 =>
    rw [g6] at hp; dsimp only at hp
    cases g7 : Num.getT s (k + p1.2 + p2.2 + p3.2 + p4.2 + p5.2 + p6.2) 16 with
    | none => rw [g7] at hp; cases hp
    | some p7 =>
    rw [g7] at hp; dsimp only at hp
    cases g8 : Num.getT s (k + p1.2 + p2.2 + p3.2 + p4.2 + p5.2 + p6.2 + p7.2) 16 with
    | none => rw [g8] at hp; cases hp
    | some p8 =>
    rw [g8] at hp; dsimp only at hp
    simp only [Option.some.injEq, Prod.mk.injEq] at hp
    obtain ⟨rfl, rfl⟩ := hp
    have t1 := gnS_take (n := p1.1) (i := p1.2) g1 k.toNat rfl
    have t2 := gnS_take (n := p2.1) (i := p2.2) g2 (k.toNat + p1.2) (by omega)
    have t3 := gnS_take (n := p3.1) (i := p3.2) g3 (k.toNat + (p1.2 + p2.2)) (by omega)
    have t4 := gnS_take (n := p4.1) (i := p4.2) g4 (k.toNat + (p1.2 + p2.2 + p3.2)) (by omega)
    have t5 := gtS_take (t := p5.1) (i := p5.2) g5 (k.toNat + (p1.2 + p2.2 + p3.2 + p4.2)) (by omega)
    have t6 := gtS_take (t := p6.1) (i := p6.2) g6 (k.toNat + (p1.2 + p2.2 + p3.2 + p4.2 + p5.2)) (by omega)
    have t7 := gtS_take (t := p7.1) (i := p7.2) g7 (k.toNat + (p1.2 + p2.2 + p3.2 + p4.2 + p5.2 + p6.2)) (by omega)
    have t8 := gtS_take (t := p8.1) (i := p8.2) g8 (k.toNat + (p1.2 + p2.2 + p3.2 + p4.2 + p5.2 + p6.2 + p7.2)) (by omega)
    unfold bytS
    simp only [List.take_add, List.drop_drop, t1.1, t2.1, t3.1, t4.1, t5.1, t6.1, t7.1, t8.1]
    rfl
theorem stR {s : List UInt8} (hs : s.length ≤ 1000000) {q : Int × Bool} (h : inS s q) : Step s q (q.1 + (rS' s q.1).2, q.2 || !(decS s q.1).isSome) (encS (rS' s q.1).1) := by
  intro hb
  dsimp only at hb ⊢
  rw [Bool.or_eq_false_iff, Bool.not_eq_false'] at hb
  refine ⟨hb.1, ?_⟩
  unfold rS'
  cases hg : decS s q.1 with
  | none => rw [hg] at hb; cases hb.2
  | some p => exact take_step' h.1 (decS_take hg h.1)
theorem stO {s : List UInt8} {q : Int × Bool} (h : inS s q) (hg : (opN (rdO s q).1).2 = true) : Step s q (rdO s q).2 (encRO (rdO s q).1) := by
  have hy := stY h
  have iy := rdY_in h
  unfold rdO at hg ⊢
  generalize rdY s q = y at hy hg iy
  obtain ⟨k, q1⟩ := y
  dsimp only at hy hg iy
  have hk : (k = 1 ∨ k = 2 ∨ k = 3 ∨ k = 4 ∨ k = 5) ∨ (¬ k = 1 ∧ ¬ k = 2 ∧ ¬ k = 3 ∧ ¬ k = 4 ∧ ¬ k = 5) := by omega
  rcases hk with (rfl | rfl | rfl | rfl | rfl) | ⟨b1, b2, b3, b4, b5⟩
  · exact hy.trans (stT iy)
  · have h2 := (hy.trans (stN (most := 4611686018427387903) (by decide) iy)).trans (stY (rdN_in iy))
    intro hb
    have hb' : ((rdY s (rdN s 4611686018427387903 q1).2).2.2 || decide (1 < (rdY s (rdN s 4611686018427387903 q1).2).1)) = false := hb
    rw [Bool.or_eq_false_iff, decide_eq_false_iff_not] at hb'
    obtain ⟨e1, e2⟩ := h2 hb'.1
    refine ⟨e1, ?_⟩
    show s.take (rdY s (rdN s 4611686018427387903 q1).2).2.1.toNat = s.take q.1.toNat ++ (kb 2 ++ Num.putN (u64 (rdN s 4611686018427387903 q1).1) ++ (if decide ((rdY s (rdN s 4611686018427387903 q1).2).1 = 1) = true then kb 1 else kb 0))
    rw [e2]
    congr 2
    have h0 : 0 ≤ (rdY s (rdN s 4611686018427387903 q1).2).1 := by
      unfold rdY
      split
      · exact Int.le_refl 0
      · exact (bt_rng _ _).1
    have : (rdY s (rdN s 4611686018427387903 q1).2).1 = 0 ∨ (rdY s (rdN s 4611686018427387903 q1).2).1 = 1 := by omega
    rcases this with e | e <;> rw [e] <;> rfl
  · have h2 := ((hy.trans (stT iy)).trans (stN (most := 4611686018427387903) (by decide) (rdT_in iy))).trans (stN (most := 4611686018427387903) (by decide) (rdN_in (rdT_in iy)))
    exact h2
  · exact hy.trans (stN (most := 4611686018427387903) (by decide) iy)
  · have h2 := ((hy.trans (stN (most := 4611686018427387903) (by decide) iy)).trans (stT (rdN_in iy))).trans (stV (rdT_in (rdN_in iy)))
    exact h2
  · exfalso
    rw [show opk k = [] by unfold opk; rw [if_neg b1, if_neg b2, if_neg b3, if_neg b4, if_neg b5]] at hg
    have : opN (o0 k) = (o0 k, false) := by simp [opN, o0, b1, b2, b3, b4, b5]
    have hg : (opN (o0 k)).2 = true := hg
    rw [this] at hg
    cases hg
theorem known_of {m : MD.T} (h : refgood m = true) : ∃ K : Int, m.1 = K ∧ (1 ≤ K ∧ K < 21) := by
  refine ⟨m.1, rfl, Decidable.byContradiction fun hn => ?_⟩
  have hk : ∀ K : Int, ¬ (1 ≤ K ∧ K < 21) → ¬ K = 1 ∧ ¬ K = 2 ∧ ¬ K = 3 ∧ ¬ K = 4 ∧ ¬ K = 5 ∧ ¬ K = 6 ∧ ¬ K = 7 ∧ ¬ K = 8 ∧ ¬ K = 9 ∧ ¬ K = 10 ∧ ¬ K = 11 ∧ ¬ K = 12 ∧ ¬ K = 13 ∧ ¬ K = 14 ∧ ¬ K = 15 ∧ ¬ K = 16 ∧ ¬ K = 17 ∧ ¬ K = 18 ∧ ¬ K = 19 ∧ ¬ K = 20 := fun K h => by omega
  obtain ⟨a1, a2, a3, a4, a5, a6, a7, a8, a9, a10, a11, a12, a13, a14, a15, a16, a17, a18, a19, a20⟩ := hk m.1 hn
  have : cmN m = (m0 m.1, false) := by simp [cmN, a1, a2, a3, a4, a5, a6, a7, a8, a9, a10, a11, a12, a13, a14, a15, a16, a17, a18, a19, a20]
  unfold refgood at h
  rw [this] at h
  cases h
theorem fold_kind (s : List UInt8) : ∀ (l : List UInt8) (st : MD.T × Int × Bool), (l.foldl (fun st f => rdMf s st f.toNat) st).1.1 = st.1.1
  | [], _ => rfl
  | f :: l, st => by
    rw [List.foldl_cons, fold_kind s l]
    unfold rdMf
    repeat' split
    all_goals rfl
/-- the bytes of what was read are what stood there -/
theorem rt2 {s : List UInt8} (hs : s.length ≤ 1000000) (hg : refgood (rdM s).1 = true) (hb : (rdM s).2.2 = false) (ha : (rdM s).2.1 = (s.length : Int)) : encR (rdM s).1 = s := by
  have h0 : inS s (0, false) := ⟨Int.le_refl 0, Int.natCast_nonneg _⟩
  have hy := stY h0
  have iy := rdY_in h0
  unfold rdM at hg hb ha ⊢
  generalize rdY s (0, false) = y at hy hg hb ha iy
  obtain ⟨k, q⟩ := y
  dsimp only at hy hg hb ha iy ⊢
  have hk : 1 ≤ k ∧ k < 21 := by
    obtain ⟨K, e, hK⟩ := known_of hg
    rw [fold_kind] at e
    rw [show k = K from e]
    exact hK
  have done : ∀ (q' : Int × Bool) (t : List UInt8), Step s (0, false) q' t → q'.2 = false → q'.1 = (s.length : Int) → t = s := fun q' t h hb ha => by
    have e := (h hb).2
    rw [ha] at e
    simp at e
    exact e.symm
  have hk' : k = 1 ∨ k = 2 ∨ k = 3 ∨ k = 4 ∨ k = 5 ∨ k = 6 ∨ k = 7 ∨ k = 8 ∨ k = 9 ∨ k = 10 ∨ k = 11 ∨ k = 12 ∨ k = 13 ∨ k = 14 ∨ k = 15 ∨ k = 16 ∨ k = 17 ∨ k = 18 ∨ k = 19 ∨ k = 20 := by omega
  rcases hk' with rfl | rfl | rfl | rfl | rfl | rfl | rfl | rfl | rfl | rfl | rfl | rfl | rfl | rfl | rfl | rfl | rfl | rfl | rfl | rfl
  · exact done _ _ hy hb ha
  · exact done _ _ hy hb ha
  · exact done _ _ hy hb ha
  · exact done _ _ (hy.trans (stT iy)) hb ha
  · exact done _ _ (hy.trans (stT iy)) hb ha
  · have hgo : (opN (rdO s q).1).2 = true := by
      have h1 : goodO (rdO s q).1 = true := by
        unfold refgood at hg
        rw [Bool.and_eq_true] at hg
        exact hg.1
      unfold goodO at h1
      rw [Bool.and_eq_true] at h1
      exact h1.1
    exact done _ _ (hy.trans (stO iy hgo)) hb ha
  · exact done _ _ (hy.trans (stN (most := 4611686018427387903) (by decide) iy)) hb ha
  · exact done _ _ (hy.trans (stN (most := 4611686018427387903) (by decide) iy)) hb ha
  · exact done _ _ (hy.trans ((stN (most := 4611686018427387903) (by decide) iy).trans (stT (rdN_in iy)))) hb ha
  · exact done _ _ (hy.trans ((stN (most := 4611686018427387903) (by decide) iy).trans (stT (rdN_in iy)))) hb ha
  · exact done _ _ (hy.trans (stT iy)) hb ha
  · exact done _ _ (hy.trans (((stT iy).trans (stT (rdT_in iy))).trans (stV (rdT_in (rdT_in iy))))) hb ha
  · exact done _ _ (hy.trans ((((stT iy).trans (stT (rdT_in iy))).trans (stV (rdT_in (rdT_in iy)))).trans (stV (rdV_in (rdT_in (rdT_in iy)))))) hb ha
  · exact done _ _ (hy.trans ((stT iy).trans (stN (most := 2) (by decide) (rdT_in iy)))) hb ha
  · exact done _ _ (hy.trans ((stT iy).trans (stN (most := 2) (by decide) (rdT_in iy)))) hb ha
  · exact done _ _ (hy.trans (stR hs iy)) hb ha
  · exact done _ _ (hy.trans (stN (most := 1000000) (by decide) iy)) hb ha
  · exact done _ _ (hy.trans ((stT iy).trans (stT (rdT_in iy)))) hb ha
  · exact done _ _ (hy.trans ((stT iy).trans (stT (rdT_in iy)))) hb ha
  · exact done _ _ hy hb ha
end Go.Proofs.YtnldokebmfojeaaDoor
