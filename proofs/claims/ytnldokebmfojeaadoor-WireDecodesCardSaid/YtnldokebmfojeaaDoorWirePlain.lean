/- Commands' bytes, field by field: what is put is got; no program in sight. Own work. -/
import Derived.Test.YtnldokebmfojeaaDoorWireRefEnc
import Derived.Test.YtnldokebmfojeaaDoorWireTop
import Derived.Test.YtnldokebmfojeaaDoorRuleTurn
set_option linter.unusedVariables false
set_option maxRecDepth 100000
namespace Go.Proofs.YtnldokebmfojeaaDoor
open Go Go.RowKit OE

theorem tx_get {t : List UInt8} {e : Bool} (h : (txS t e).2 = true) {s p r : List UInt8} {k : Int} (hs : s = p ++ (txS t e).1 ++ r) (hk : k = p.length) : Num.getT s k 16 = some (t, (txS t e).1.length) := by
  have hl : t.length ≤ 16 := by
    simp only [txS, Bool.or_eq_true, Bool.and_eq_true, decide_eq_true_eq] at h
    rcases h with h | h
    · exact nameS_len h
    · rw [h.2]; decide
  exact gtS_at p t r hl hs hk
theorem and_id (n : Nat) (h : n ≤ 4611686018427387903) : idN n = (n : Int) := by
  unfold idN
  have := u64_and_nat n 4611686018427387903 (by omega) (by omega)
  rw [show ((4611686018427387903 : Nat) : Int) = 4611686018427387903 from rfl] at this
  rw [this, show (4611686018427387903 : Nat) = 2 ^ 62 - 1 from rfl, Nat.and_two_pow_sub_one_eq_mod, Nat.mod_eq_of_lt (by omega), wr64 _ (by omega) (by omega)]
theorem nu_get {n a b : Int} (h : (nuS n a b).2 = true) (ha : 0 ≤ a) (hb : b ≤ 4611686018427387903) {s p r : List UInt8} {k : Int} (hs : s = p ++ (nuS n a b).1 ++ r) (hk : k = p.length) : Num.getN s k = some (n.toNat, (nuS n a b).1.length) ∧ 0 ≤ n ∧ n ≤ b := by
  simp only [nuS, Bool.and_eq_true, decide_eq_true_eq] at h
  have e : u64 n = n.toNat := u64_of (by omega) (by omega)
  refine ⟨?_, by omega, h.2⟩
  unfold nuS at hs ⊢
  rw [e] at hs ⊢
  rw [hs, hk]
  exact Num.getN_put n.toNat p r (by omega)
theorem nu_id {n a b : Int} (h : (nuS n a b).2 = true) (ha : 0 ≤ a) (hb : b ≤ 4611686018427387903) {s p r : List UInt8} {k : Int} (hs : s = p ++ (nuS n a b).1 ++ r) (hk : k = p.length) : idN (nS s k).1 = n ∧ (nS s k).2 = (nuS n a b).1.length ∧ (Num.getN s k).isSome = true := by
  obtain ⟨g, g0, g1⟩ := nu_get h ha hb hs hk
  have e : nS s k = (n.toNat, (nuS n a b).1.length) := by unfold nS; rw [g]; rfl
  refine ⟨?_, by rw [e], by rw [g]; rfl⟩
  rw [e]
  show idN n.toNat = n
  rw [and_id _ (by omega)]
  omega
theorem va_form {v : VD.T} (h : encV v ≠ []) : blankV v = true ∨ goodV v = true := by
  unfold encV at h
  split at h
  · exact .inl (by assumption)
  · split at h
    · exact .inr (by assumption)
    · exact (h rfl).elim
theorem va_get {v : VD.T} {e : Bool} (hv : Wf VD v) (h : (vaS v e).2 = true) {s p r : List UInt8} {k : Int} (hs : s = p ++ (vaS v e).1 ++ r) (hk : k = p.length) : decV s k = some (v, (vaS v e).1.length) := by
  simp only [vaS, Bool.and_eq_true, Bool.not_eq_true', decide_eq_false_iff_not] at h
  exact decV_enc hv (va_form h.1) p r hs hk
theorem back1p (r : RD.T) (h : okS r = true) (p q : List UInt8) {s : List UInt8} {k : Int} (hs : s = p ++ encS r ++ q) (hk : k = p.length) : decS s k = some (r, (encS r).length) := by
  subst hk
  obtain ⟨i0, i1, k0, k1, n0, n1, s0, s1, t0, t1, t2, t3⟩ := okR h
  have k1 : r.2.1 ≤ 1000000 := Int.le_trans k1 (by decide)
  have n1 : r.2.2.2.2.2.2.1 ≤ 1000000 := Int.le_trans n1 (by decide)
  have s1 : r.2.2.2.2.2.2.2 ≤ 1000000 := Int.le_trans s1 (by decide)
  have k0 : 0 ≤ r.2.1 := Int.le_trans (by decide) k0
  have e : encS r = bytS r := by unfold encS; rw [if_pos h]
  rw [e] at hs ⊢
  have hd : decP s (p.length : Int) = some (r, (bytS r).length) := by
    obtain ⟨x1, x2, x3, x4, x5, x6, x7, x8⟩ := r
    dsimp only at *
    unfold bytS at hs ⊢
    dsimp only at hs ⊢
    have y1 := Int.toNat_of_nonneg i0
    have y2 := Int.toNat_of_nonneg k0
    have y7 := Int.toNat_of_nonneg n0
    have y8 := Int.toNat_of_nonneg s0
    have g1 := gnS_at (s := s) (k := p.length) p x1.toNat (Num.putN x2.toNat ++ Num.putN x8.toNat ++ Num.putN x7.toNat ++ Num.putT x3 ++ Num.putT x4 ++ Num.putT x5 ++ Num.putT x6 ++ q) (toNat_le _ i1) (by rw [hs]; simp only [List.append_assoc]) rfl
    have g2 := gnS_at (s := s) (k := p.length + ((Num.putN x1.toNat).length : Int)) (p ++ Num.putN x1.toNat) x2.toNat (Num.putN x8.toNat ++ Num.putN x7.toNat ++ Num.putT x3 ++ Num.putT x4 ++ Num.putT x5 ++ Num.putT x6 ++ q) (toNat_le _ k1) (by rw [hs]; simp only [List.append_assoc]) (by simp only [List.length_append]; omega)
    have g3 := gnS_at (s := s) (k := p.length + ((Num.putN x1.toNat).length : Int) + ((Num.putN x2.toNat).length : Int)) (p ++ Num.putN x1.toNat ++ Num.putN x2.toNat) x8.toNat (Num.putN x7.toNat ++ Num.putT x3 ++ Num.putT x4 ++ Num.putT x5 ++ Num.putT x6 ++ q) (toNat_le _ s1) (by rw [hs]; simp only [List.append_assoc]) (by simp only [List.length_append]; omega)
    have g4 := gnS_at (s := s) (k := p.length + ((Num.putN x1.toNat).length : Int) + ((Num.putN x2.toNat).length : Int) + ((Num.putN x8.toNat).length : Int)) (p ++ Num.putN x1.toNat ++ Num.putN x2.toNat ++ Num.putN x8.toNat) x7.toNat (Num.putT x3 ++ Num.putT x4 ++ Num.putT x5 ++ Num.putT x6 ++ q) (toNat_le _ n1) (by rw [hs]; simp only [List.append_assoc]) (by simp only [List.length_append]; omega)
    have g5 := gtS_at (s := s) (k := p.length + ((Num.putN x1.toNat).length : Int) + ((Num.putN x2.toNat).length : Int) + ((Num.putN x8.toNat).length : Int) + ((Num.putN x7.toNat).length : Int)) (p ++ Num.putN x1.toNat ++ Num.putN x2.toNat ++ Num.putN x8.toNat ++ Num.putN x7.toNat) x3 (Num.putT x4 ++ Num.putT x5 ++ Num.putT x6 ++ q) t0 (by rw [hs]; simp only [List.append_assoc]) (by simp only [List.length_append]; omega)
    have g6 := gtS_at (s := s) (k := p.length + ((Num.putN x1.toNat).length : Int) + ((Num.putN x2.toNat).length : Int) + ((Num.putN x8.toNat).length : Int) + ((Num.putN x7.toNat).length : Int) + ((Num.putT x3).length : Int)) (p ++ Num.putN x1.toNat ++ Num.putN x2.toNat ++ Num.putN x8.toNat ++ Num.putN x7.toNat ++ Num.putT x3) x4 (Num.putT x5 ++ Num.putT x6 ++ q) t1 (by rw [hs]; simp only [List.append_assoc]) (by simp only [List.length_append]; omega)
    have g7 := gtS_at (s := s) (k := p.length + ((Num.putN x1.toNat).length : Int) + ((Num.putN x2.toNat).length : Int) + ((Num.putN x8.toNat).length : Int) + ((Num.putN x7.toNat).length : Int) + ((Num.putT x3).length : Int) + ((Num.putT x4).length : Int)) (p ++ Num.putN x1.toNat ++ Num.putN x2.toNat ++ Num.putN x8.toNat ++ Num.putN x7.toNat ++ Num.putT x3 ++ Num.putT x4) x5 (Num.putT x6 ++ q) t2 (by rw [hs]; simp only [List.append_assoc]) (by simp only [List.length_append]; omega)
    have g8 := gtS_at (s := s) (k := p.length + ((Num.putN x1.toNat).length : Int) + ((Num.putN x2.toNat).length : Int) + ((Num.putN x8.toNat).length : Int) + ((Num.putN x7.toNat).length : Int) + ((Num.putT x3).length : Int) + ((Num.putT x4).length : Int) + ((Num.putT x5).length : Int)) (p ++ Num.putN x1.toNat ++ Num.putN x2.toNat ++ Num.putN x8.toNat ++ Num.putN x7.toNat ++ Num.putT x3 ++ Num.putT x4 ++ Num.putT x5) x6 q t3 (by rw [hs]; simp only [List.append_assoc]) (by simp only [List.length_append]; omega)
    simp only [decP, g1, g2, g3, g4, g5, g6, g7, g8, List.length_append]
    rw [y1, y2, y7, y8]
  simp only [decS, hd, h, if_true]
theorem ru_ok {r : RD.T} (h : (ruS r).2 = true) : okS r = true ∧ r.1 = 0 ∧ r.2.2.2.2.2.2.2 = 0 := by
  simp only [ruS, Bool.and_eq_true, decide_eq_true_eq] at h
  refine ⟨Decidable.byContradiction fun hn => ?_, h.1.2, h.2⟩
  have := h.1.1
  rw [show errS r = 11 from if_neg hn] at this
  cases this
theorem ru_get {r : RD.T} (h : (ruS r).2 = true) {s p q : List UInt8} {k : Int} (hs : s = p ++ (ruS r).1 ++ q) (hk : k = p.length) : decS s k = some (r, (ruS r).1.length) :=
  back1p r (ru_ok h).1 p q hs hk

/-! a change's fields -/
def setO (x : OD.T) (f : Int) (o : OD.T) : OD.T :=
  if f = 116 ∨ f = 101 then oT x o.2.2.1
  else if f = 110 then oN x o.2.2.2.2.2.1
  else if f = 105 then oI x o.2.1
  else if f = 97 then oF x o.2.2.2.1
  else if f = 98 then oE x o.2.2.2.2.1
  else if f = 118 ∨ f = 119 then oVl x (oV o)
  else oC x o.2.2.2.2.2.2.2
theorem gO_put {o : OD.T} (hv : Wf VD (oV o)) (x : OD.T) {f : Int} (h : (putO o f).2 = true) {s p r : List UInt8} {k : Int} (hs : s = p ++ (putO o f).1 ++ r) (hk : k = p.length) : gO x f s k = (setO x f o, ((putO o f).1.length : Int), true) := by
  unfold gO setO
  generalize hq : putO o f = q at h hs
  unfold putO at hq
  by_cases h1 : f = 116 ∨ f = 101
  · rw [if_pos h1] at hq ⊢; rw [if_pos h1]; subst hq
    have g := tx_get h hs hk
    unfold tS; rw [g]; rfl
  rw [if_neg h1] at hq ⊢; rw [if_neg h1]
  by_cases h2 : f = 110
  · rw [if_pos h2] at hq ⊢; rw [if_pos h2]; subst hq
    have g := tx_get h hs hk
    unfold tS; rw [g]; rfl
  rw [if_neg h2] at hq ⊢; rw [if_neg h2]
  by_cases h3 : f = 105
  · rw [if_pos h3] at hq ⊢; rw [if_pos h3]; subst hq
    obtain ⟨g1, g2, g3⟩ := nu_id h (by decide) (by decide) hs hk
    rw [g1, g2, g3]
  rw [if_neg h3] at hq ⊢; rw [if_neg h3]
  by_cases h4 : f = 97
  · rw [if_pos h4] at hq ⊢; rw [if_pos h4]; subst hq
    obtain ⟨g1, g2, g3⟩ := nu_id h (by decide) (by decide) hs hk
    rw [g1, g2, g3]
  rw [if_neg h4] at hq ⊢; rw [if_neg h4]
  by_cases h5 : f = 98
  · rw [if_pos h5] at hq ⊢; rw [if_pos h5]; subst hq
    obtain ⟨g1, g2, g3⟩ := nu_id h (by decide) (by decide) hs hk
    rw [g1, g2, g3]
  rw [if_neg h5] at hq ⊢; rw [if_neg h5]
  by_cases h6 : f = 118 ∨ f = 119
  · rw [if_pos h6] at hq ⊢; rw [if_pos h6]; subst hq
    have g := va_get hv h hs hk
    unfold vS'; rw [g]; rfl
  rw [if_neg h6] at hq ⊢; rw [if_neg h6]
  have hb : ∃ b : UInt8, q.1 = [b] ∧ decide ((b.toNat : Int) = 1) = o.2.2.2.2.2.2.2 := by
    subst hq
    cases hc : o.2.2.2.2.2.2.2 with
    | true => exact ⟨1, by simp, by decide⟩
    | false => exact ⟨0, by simp, by decide⟩
  obtain ⟨b, hb, hc⟩ := hb
  rw [hb] at hs ⊢
  have hbt := bt_at' p b r (s := s) (k := k) (by rw [hs]; simp) hk
  rw [if_pos (by rw [hs, hk]; simp; omega), hbt, hc]
  rfl
/-! a command's fields -/
theorem fld_put {G : MD.T → Int → Int → MD.T × Int × Bool} {P : Int → List UInt8 × Bool} {S : MD.T → Int → MD.T} {s : List UInt8}
    (hG : ∀ (a : MD.T) (f : Int) (p r : List UInt8) (k : Int), (P f).2 = true → s = p ++ (P f).1 ++ r → k = p.length → G a f k = (S a f, ((P f).1.length : Int), true)) :
    ∀ (l : List UInt8) (a : MD.T) (p r : List UInt8) (k z : Int), (∀ f ∈ l, (P f.toNat).2 = true) → s = p ++ l.flatMap (fun f => (P f.toNat).1) ++ r → k + z = p.length → fldS G l a k z = (l.foldl (fun a f => S a f.toNat) a, z + ((l.flatMap fun f => (P f.toNat).1).length : Int), true)
  | [], a, p, r, k, z, _, _, _ => by simp [fldS]
  | f :: l, a, p, r, k, z, h, hs, hk => by
    have h1 := hG a f.toNat p (l.flatMap (fun f => (P f.toNat).1) ++ r) (k + z) (h f List.mem_cons_self) (by rw [hs]; simp only [List.flatMap_cons, List.append_assoc]) hk
    unfold fldS
    rw [h1, if_pos rfl]
    rw [fld_put hG l _ (p ++ (P f.toNat).1) r k _ (fun g hg => h g (List.mem_cons_of_mem _ hg)) (by rw [hs]; simp only [List.flatMap_cons, List.append_assoc]) (by rw [List.length_append]; dsimp only; omega)]
    simp only [List.flatMap_cons, List.length_append, List.foldl_cons]
    congr 2
    omega
def proO (a : OD.T) (o : OD.T) : OD.T := (gt (d := .str) opsL o.1).foldl (fun x f => setO x f.toNat o) (oK a o.1)
theorem fold_sO (o : OD.T) : ∀ (l : List UInt8) (m : MD.T), l.foldl (fun (a : MD.T) f => sO a (setO (mOp a) f.toNat o)) m = sO m (l.foldl (fun x f => setO x f.toNat o) (mOp m))
  | [], m => rfl
  | f :: l, m => by
    simp only [List.foldl_cons]
    rw [fold_sO o l]
    rfl
theorem bt_first (k : Int) (h0 : 0 ≤ k) (h1 : k < 256) (p r : List UInt8) : bt (p ++ byl [IntKind.wrap .u8 k] ++ r) p.length = k := by
  have e : byl [IntKind.wrap .u8 k] = [UInt8.ofNat k.toNat] := by
    have h : IntKind.wrap .u8 k = k := by rw [wru8]; omega
    show [UInt8.ofNat (IntKind.wrap .u8 k).toNat] = _
    rw [h]
  rw [e, bt_at' p (UInt8.ofNat k.toNat) r (by simp) rfl]
  simp
  omega
theorem chg_form {o : OD.T} (h : (chgS o).2 = true) : ∃ K : Int, o.1 = K ∧ 0 ≤ K ∧ K < 6 ∧ (∀ f ∈ gt (d := .str) opsL K, (putO o f.toNat).2 = true) ∧ (chgS o).1 = byl [IntKind.wrap .u8 K] ++ (gt (d := .str) opsL K).flatMap fun f => (putO o f.toNat).1 := by
  unfold chgS at h ⊢
  split at h
  · cases h
  rename_i hc
  rw [if_neg hc]
  have h0 : 0 ≤ (o.1 : Int) := Int.not_lt.1 fun h => hc (.inl h)
  have h1 : (o.1 : Int) < 6 := Int.not_le.1 fun h => hc (.inr (.inl h))
  unfold allS at h ⊢
  split at h
  · rename_i hall
    rw [if_pos hall]
    exact ⟨o.1, rfl, h0, h1, List.all_eq_true.1 hall, rfl⟩
  · cases h
theorem ch_put {o : OD.T} (hv : Wf VD (oV o)) (m : MD.T) (h : (chgS o).2 = true) {s p r : List UInt8} {k : Int} (hs : s = p ++ (chgS o).1 ++ r) (hk : k = p.length) : chR s m k = (sO m (proO (mOp m) o), ((chgS o).1.length : Int), true) := by
  obtain ⟨K, hK, h0, h1, h2, h3⟩ := chg_form h
  have hP : proO (mOp m) o = (gt (d := .str) opsL K).foldl (fun x f => setO x f.toNat o) (oK (mOp m) K) := by unfold proO; rw [hK]
  rw [h3] at hs ⊢
  have hl : (byl [IntKind.wrap .u8 K]).length = 1 := rfl
  have hb : bt s k = K := by
    have := bt_first K h0 (by omega) p ((gt (d := .str) opsL K).flatMap (fun f => (putO o f.toNat).1) ++ r)
    rw [hs, hk, ← List.append_assoc, List.append_assoc (p ++ byl [IntKind.wrap .u8 K])]
    exact this
  have hf := fld_put (G := goM s) (P := putO o) (S := fun a f => sO a (setO (mOp a) f o)) (s := s) (fun a f p r k h hs hk => by
    unfold goM
    rw [gO_put hv (mOp a) h hs hk]) (gt (d := .str) opsL K) (sO m (oK (mOp m) K)) (p ++ byl [IntKind.wrap .u8 K]) r (k + 1) 0 h2 (by rw [hs]; simp only [List.append_assoc]) (by rw [List.length_append, hl, hk]; omega)
  have hlen : k < s.length := by rw [hs, hk]; simp only [List.length_append, hl]; omega
  unfold chR
  rw [hb, if_neg (by omega), hf, fold_sO, hP]
  simp only [List.length_append, hl]
  have e : (0 : Int) + (((gt (d := .str) opsL K).flatMap fun f => (putO o f.toNat).1).length : Int) + 1 = ((1 + ((gt (d := .str) opsL K).flatMap fun f => (putO o f.toNat).1).length : Nat) : Int) := by omega
  rw [e]
  rfl
def setM (a : MD.T) (f : Int) (m : MD.T) : MD.T :=
  if f = 116 ∨ f = 101 then mT a (mType m)
  else if f = 110 then mNm a (mName m)
  else if f = 105 then mI a m.2.1
  else if f = 118 ∨ f = 119 then mVl a (mV m)
  else if f = 120 then mW a (mTo m)
  else if f = 107 ∨ f = 109 then mM a (mN m)
  else if f = 114 then mR a (mRule m)
  else sO a (proO (mOp a) (mOp m))
theorem mi_id {n : Int} (h0 : 0 ≤ n) (h1 : n ≤ 1000000) : miN n.toNat = n := by
  unfold miN
  rw [if_neg (by omega), wr64 _ (by omega) (by omega)]
  omega
theorem nu_mi {n a b : Int} (h : (nuS n a b).2 = true) (ha : 0 ≤ a) (hb : b ≤ 1000000) {s p r : List UInt8} {k : Int} (hs : s = p ++ (nuS n a b).1 ++ r) (hk : k = p.length) : miN (nS s k).1 = n ∧ (nS s k).2 = (nuS n a b).1.length ∧ (Num.getN s k).isSome = true := by
  obtain ⟨g, g0, g1⟩ := nu_get h ha (by omega) hs hk
  have e : nS s k = (n.toNat, (nuS n a b).1.length) := by unfold nS; rw [g]; rfl
  refine ⟨?_, by rw [e], by rw [g]; rfl⟩
  rw [e]
  exact mi_id g0 (by omega)
theorem gM_put {m : MD.T} (hm : SmC m) (a : MD.T) {f : Int} (h : (putM m f).2 = true) {s p r : List UInt8} {k : Int} (hs : s = p ++ (putM m f).1 ++ r) (hk : k = p.length) : gM s a f k = (setM a f m, ((putM m f).1.length : Int), true) := by
  unfold gM setM
  generalize hq : putM m f = q at h hs
  unfold putM at hq
  by_cases h1 : f = 116 ∨ f = 101
  · rw [if_pos h1] at hq ⊢; rw [if_pos h1]; subst hq
    have g := tx_get h hs hk
    unfold tS; rw [g]; rfl
  rw [if_neg h1] at hq ⊢; rw [if_neg h1]
  by_cases h2 : f = 110
  · rw [if_pos h2] at hq ⊢; rw [if_pos h2]; subst hq
    have g := tx_get h hs hk
    unfold tS; rw [g]; rfl
  rw [if_neg h2] at hq ⊢; rw [if_neg h2]
  by_cases h3 : f = 105
  · rw [if_pos h3] at hq ⊢; rw [if_pos h3]; subst hq
    obtain ⟨g1, g2, g3⟩ := nu_id h (by decide) (by decide) hs hk
    rw [g1, g2, g3]
  rw [if_neg h3] at hq ⊢; rw [if_neg h3]
  by_cases h6 : f = 118 ∨ f = 119
  · rw [if_pos h6] at hq ⊢; rw [if_pos h6]; subst hq
    have g := va_get hm.v h hs hk
    unfold vS'; rw [g]; rfl
  rw [if_neg h6] at hq ⊢; rw [if_neg h6]
  by_cases h7 : f = 120
  · rw [if_pos h7] at hq ⊢; rw [if_pos h7]; subst hq
    have g := va_get hm.to h hs hk
    unfold vS'; rw [g]; rfl
  rw [if_neg h7] at hq ⊢; rw [if_neg h7]
  by_cases h8 : f = 107
  · rw [if_pos h8] at hq; rw [if_pos (.inl h8), if_pos (.inl h8)]; subst hq
    obtain ⟨g1, g2, g3⟩ := nu_mi h (by decide) (by decide) hs hk
    rw [g1, g2, g3]
  rw [if_neg h8] at hq
  by_cases h9 : f = 109
  · rw [if_pos h9] at hq; rw [if_pos (.inr h9), if_pos (.inr h9)]; subst hq
    obtain ⟨g1, g2, g3⟩ := nu_mi h (by decide) (by decide) hs hk
    rw [g1, g2, g3]
  have h89 : ¬ (f = 107 ∨ f = 109) := fun h => h.elim h8 h9
  rw [if_neg h9] at hq
  rw [if_neg h89, if_neg h89]
  by_cases h10 : f = 114
  · rw [if_pos h10] at hq ⊢; rw [if_pos h10]; subst hq
    have g := ru_get h hs hk
    unfold rS'; rw [g]; rfl
  rw [if_neg h10] at hq ⊢; rw [if_neg h10]
  subst hq
  exact ch_put hm.ov a h hs hk
/-- what a command's bytes are read as: its kind's fields alone -/
def proM (m : MD.T) : MD.T := (gt (d := .str) cmdL m.1).foldl (fun a f => setM a f.toNat m) (m0 m.1)
theorem byt_form {m : MD.T} (h : (bytM m).2 = true) : ∃ K : Int, m.1 = K ∧ 1 ≤ K ∧ K < 21 ∧ (∀ f ∈ gt (d := .str) cmdL K, (putM m f.toNat).2 = true) ∧ (bytM m).1 = byl [IntKind.wrap .u8 K] ++ (gt (d := .str) cmdL K).flatMap fun f => (putM m f.toNat).1 := by
  unfold bytM at h ⊢
  split at h
  · cases h
  rename_i hc
  rw [if_neg hc]
  have hk : knownM m.1 = true := by
    cases hh : knownM m.1 with
    | true => rfl
    | false => exact (hc hh).elim
  have hk : 1 ≤ (m.1 : Int) ∧ (m.1 : Int) < 21 := by simpa [knownM] using hk
  unfold allS at h ⊢
  split at h
  · rename_i hall
    rw [if_pos hall]
    exact ⟨m.1, rfl, hk.1, hk.2, List.all_eq_true.1 hall, rfl⟩
  · cases h
theorem read_put {m : MD.T} (hm : SmC m) (h : (bytM m).2 = true) : readS (bytM m).1 = (proM m, true) := by
  obtain ⟨K, hK, h0, h1, h2, h3⟩ := byt_form h
  have hP : proM m = (gt (d := .str) cmdL K).foldl (fun a f => setM a f.toNat m) (m0 K) := by unfold proM; rw [hK]
  have hl : (byl [IntKind.wrap .u8 K]).length = 1 := rfl
  generalize (bytM m).1 = s at h3
  have hb : bt s 0 = K := by
    have := bt_first K (by omega) (by omega) [] ((gt (d := .str) cmdL K).flatMap (fun f => (putM m f.toNat).1))
    rw [h3]; exact this
  have hf := fld_put (G := gM s) (P := putM m) (S := fun a f => setM a f m) (s := s) (fun a f p r k h hs hk => gM_put hm a h hs hk) (gt (d := .str) cmdL K) (m0 K) (byl [IntKind.wrap .u8 K]) [] 1 0 h2 (by rw [h3]; simp) (by rw [hl]; rfl)
  have hc : ¬ (s = [] ∨ knownM (bt s 0) = false) := by
    rintro (e | e)
    · have := congrArg List.length h3
      rw [e, List.length_append, hl] at this
      simp at this
      omega
    · rw [hb] at e
      have : knownM K = true := by simp [knownM]; omega
      rw [this] at e; cases e
  unfold readS
  rw [if_neg hc, hb, hf, hP]
theorem good_pro {m : MD.T} (hm : SmC m) : goodM m = ((bytM m).2 && MD.eqb (proM m) m) := by
  unfold goodM
  cases h : (bytM m).2 with
  | false => rfl
  | true => rw [read_put hm h]; rfl
end Go.Proofs.YtnldokebmfojeaaDoor
