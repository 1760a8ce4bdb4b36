/- The reference's Decode of commands is the program's; no program in sight. Own work. -/
import Derived.Test.YtnldokebmfojeaaDoorWireRt
set_option linter.unusedVariables false
set_option maxRecDepth 100000
namespace Go.Proofs.YtnldokebmfojeaaDoor
open Go Go.RowKit OE

/-! what was put is read so -/
theorem rdT_put {t : List UInt8} {e : Bool} (h : (txS t e).2 = true) {s p r : List UInt8} (hs : s = p ++ (txS t e).1 ++ r) : rdT s ((p.length : Int), false) = (t, ((p.length + (txS t e).1.length : Nat) : Int), false) := by
  have g := tx_get h hs rfl
  unfold rdT tS
  dsimp only
  rw [g, if_neg (by rintro (h | h) <;> cases h)]
  simp
theorem rdN_put {n a b : Int} (h : (nuS n a b).2 = true) (ha : 0 ≤ a) {most : Int} (hm : most ≤ 4611686018427387903) (hb : b ≤ most) {s p r : List UInt8} (hs : s = p ++ (nuS n a b).1 ++ r) : rdN s most ((p.length : Int), false) = (n, ((p.length + (nuS n a b).1.length : Nat) : Int), false) := by
  obtain ⟨g, g0, g1⟩ := nu_get h ha (by omega) hs rfl
  have e : nS s (p.length : Int) = (n.toNat, (nuS n a b).1.length) := by unfold nS; rw [g]; rfl
  unfold rdN
  dsimp only
  rw [e, g, if_neg (by
    rintro (h | h | h)
    · cases h
    · cases h
    · dsimp only at h; omega)]
  dsimp only
  rw [wr64 _ (by omega) (by omega), Int.toNat_of_nonneg g0]
  simp
theorem rdV_put {v : VD.T} {e : Bool} (hv : Wf VD v) (h : (vaS v e).2 = true) {s p r : List UInt8} (hs : s = p ++ (vaS v e).1 ++ r) : rdV s ((p.length : Int), false) = (v, ((p.length + (vaS v e).1.length : Nat) : Int), false) := by
  have g := va_get hv h hs rfl
  unfold rdV vS'
  dsimp only
  rw [g, if_neg (by rintro (h | h) <;> cases h)]
  simp
theorem rdY_put {s p r : List UInt8} {K : Int} (h0 : 0 ≤ K) (h1 : K < 256) (hs : s = p ++ byl [IntKind.wrap .u8 K] ++ r) : rdY s ((p.length : Int), false) = (K, ((p.length + 1 : Nat) : Int), false) := by
  have hb : bt s (p.length : Int) = K := by rw [hs]; exact bt_first K h0 h1 p r
  have hl : (byl [IntKind.wrap .u8 K]).length = 1 := rfl
  have hlt : p.length < s.length := by rw [hs]; simp only [List.length_append, hl]; omega
  unfold rdY
  rw [if_neg (by
    rintro (h | h)
    · cases h
    · dsimp only at h; omega), hb]
  rfl
theorem fold_put {α : Type} {g : α × Int × Bool → Int → α × Int × Bool} {P : Int → List UInt8 × Bool} {S : α → Int → α} {F : Int → Prop} {s : List UInt8}
    (hG : ∀ (a : α) (f : Int) (p r : List UInt8), F f → (P f).2 = true → s = p ++ (P f).1 ++ r → g (a, (p.length : Int), false) f = (S a f, ((p.length + (P f).1.length : Nat) : Int), false)) :
    ∀ (l : List UInt8) (a : α) (p r : List UInt8), (∀ f ∈ l, F f.toNat) → (∀ f ∈ l, (P f.toNat).2 = true) → s = p ++ l.flatMap (fun f => (P f.toNat).1) ++ r → l.foldl (fun st f => g st f.toNat) (a, (p.length : Int), false) = (l.foldl (fun a f => S a f.toNat) a, ((p.length + (l.flatMap fun f => (P f.toNat).1).length : Nat) : Int), false)
  | [], a, p, r, _, _, _ => by simp
  | f :: l, a, p, r, hf, h, hs => by
    rw [List.foldl_cons, hG a f.toNat p (l.flatMap (fun f => (P f.toNat).1) ++ r) (hf f List.mem_cons_self) (h f List.mem_cons_self) (by rw [hs]; simp only [List.flatMap_cons, List.append_assoc]), ← List.length_append]
    rw [fold_put hG l _ (p ++ (P f.toNat).1) r (fun g hg => hf g (List.mem_cons_of_mem _ hg)) (fun g hg => h g (List.mem_cons_of_mem _ hg)) (by rw [hs]; simp only [List.flatMap_cons, List.append_assoc])]
    simp only [List.flatMap_cons, List.length_append, List.foldl_cons, Nat.add_assoc]
/-- the fields of changes -/
def fQ (f : Int) : Prop := f = 116 ∨ f = 110 ∨ f = 105 ∨ f = 97 ∨ f = 98 ∨ f = 119 ∨ f = 99
theorem rdOf_put {o : OD.T} (hv : Wf VD (oV o)) {s : List UInt8} (x : OD.T) (f : Int) (p r : List UInt8) (hf : fQ f) (h : (putO o f).2 = true) (hs : s = p ++ (putO o f).1 ++ r) : rdOf s (x, (p.length : Int), false) f = (setO x f o, ((p.length + (putO o f).1.length : Nat) : Int), false) := by
  rcases hf with rfl | rfl | rfl | rfl | rfl | rfl | rfl
  · have e := rdT_put (e := false) h hs
    show (oT x (rdT s ((p.length : Int), false)).1, (rdT s ((p.length : Int), false)).2) = _
    rw [e]; rfl
  · have e := rdT_put (e := false) h hs
    show (oN x (rdT s ((p.length : Int), false)).1, (rdT s ((p.length : Int), false)).2) = _
    rw [e]; rfl
  · have e := rdN_put (most := 4611686018427387903) h (by decide) (by decide) (by decide) hs
    show (oI x (rdN s 4611686018427387903 ((p.length : Int), false)).1, (rdN s 4611686018427387903 ((p.length : Int), false)).2) = _
    rw [e]; rfl
  · have e := rdN_put (most := 4611686018427387903) h (by decide) (by decide) (by decide) hs
    show (oF x (rdN s 4611686018427387903 ((p.length : Int), false)).1, (rdN s 4611686018427387903 ((p.length : Int), false)).2) = _
    rw [e]; rfl
  · have e := rdN_put (most := 4611686018427387903) h (by decide) (by decide) (by decide) hs
    show (oE x (rdN s 4611686018427387903 ((p.length : Int), false)).1, (rdN s 4611686018427387903 ((p.length : Int), false)).2) = _
    rw [e]; rfl
  · have e := rdV_put (e := true) hv h hs
    show (oVl x (rdV s ((p.length : Int), false)).1, (rdV s ((p.length : Int), false)).2) = _
    rw [e]; rfl
  · have hq : (putO o 99).1 = byl [IntKind.wrap .u8 (if o.2.2.2.2.2.2.2 = true then 1 else 0)] := by
      show (if o.2.2.2.2.2.2.2 = true then (([1] : List UInt8), true) else ([0], true)).1 = _
      cases o.2.2.2.2.2.2.2 <;> rfl
    rw [hq] at hs ⊢
    have e := rdY_put (by split <;> decide) (by split <;> decide) hs
    show (oC x (decide ((rdY s ((p.length : Int), false)).1 = 1)), (rdY s ((p.length : Int), false)).2.1, (rdY s ((p.length : Int), false)).2.2 || decide (1 < (rdY s ((p.length : Int), false)).1)) = (oC x o.2.2.2.2.2.2.2, _, false)
    rw [e]
    cases o.2.2.2.2.2.2.2 <;> rfl
theorem ops_fin2 : ∀ n : Fin 6, opk (n.1 : Int) = opsL.getD n.1 [] ∧ ∀ f ∈ opsL.getD n.1 [], ((f.toNat : Int) = 116 ∨ (f.toNat : Int) = 110 ∨ (f.toNat : Int) = 105 ∨ (f.toNat : Int) = 97 ∨ (f.toNat : Int) = 98 ∨ (f.toNat : Int) = 119 ∨ (f.toNat : Int) = 99) := by decide
theorem ops_of {K : Int} (h0 : 0 ≤ K) (h1 : K < 6) : opk K = gt (d := .str) opsL K ∧ ∀ f ∈ gt (d := .str) opsL K, fQ f.toNat := by
  obtain ⟨n, rfl⟩ := Int.eq_ofNat_of_zero_le h0
  exact ops_fin2 ⟨n, by omega⟩
theorem rdO_put {o : OD.T} (hv : Wf VD (oV o)) {s p r : List UInt8} (h : (chgS o).2 = true) (hs : s = p ++ (chgS o).1 ++ r) : rdO s ((p.length : Int), false) = (proO OD.df o, ((p.length + (chgS o).1.length : Nat) : Int), false) := by
  obtain ⟨K, hK, h0, h1, h2, h3⟩ := chg_form h
  have hP : proO OD.df o = (gt (d := .str) opsL K).foldl (fun x f => setO x f.toNat o) (oK OD.df K) := by unfold proO; rw [hK]
  have hl : (byl [IntKind.wrap .u8 K]).length = 1 := rfl
  rw [h3] at hs ⊢
  have hy := rdY_put h0 (by omega) (p := p) (r := (gt (d := .str) opsL K).flatMap (fun f => (putO o f.toNat).1) ++ r) (s := s) (by rw [hs]; simp only [List.append_assoc])
  obtain ⟨o1, o2⟩ := ops_of h0 h1
  unfold rdO
  rw [hy]
  dsimp only
  rw [o1, show p.length + 1 = (p ++ byl [IntKind.wrap .u8 K]).length by rw [List.length_append, hl]]
  have hf := fold_put (g := rdOf s) (P := putO o) (S := fun x f => setO x f o) (F := fQ) (s := s) (fun x f p r hf h hs => rdOf_put hv x f p r hf h hs) (gt (d := .str) opsL K) (o0 K) (p ++ byl [IntKind.wrap .u8 K]) r o2 h2 (by rw [hs]; simp only [List.append_assoc])
  rw [hf, hP]
  simp only [List.length_append, hl, Nat.add_assoc]
  rfl
theorem rdMf_put {m : MD.T} (hm : SmC m) {s : List UInt8} (a : MD.T) (f : Int) (ha : f = 111 → mOp a = OD.df) (p r : List UInt8) (hf : fM f) (h : (putM m f).2 = true) (hs : s = p ++ (putM m f).1 ++ r) : rdMf s (a, (p.length : Int), false) f = (setM a f m, ((p.length + (putM m f).1.length : Nat) : Int), false) := by
  rcases hf with rfl | rfl | rfl | rfl | rfl | rfl | rfl | rfl | rfl | rfl | rfl
  · have e := rdT_put (e := false) h hs
    show (mT a (rdT s ((p.length : Int), false)).1, (rdT s ((p.length : Int), false)).2) = _
    rw [e]; rfl
  · have e := rdT_put (e := true) h hs
    show (mT a (rdT s ((p.length : Int), false)).1, (rdT s ((p.length : Int), false)).2) = _
    rw [e]; rfl
  · have e := rdT_put (e := false) h hs
    show (mNm a (rdT s ((p.length : Int), false)).1, (rdT s ((p.length : Int), false)).2) = _
    rw [e]; rfl
  · have e := rdN_put (most := 4611686018427387903) h (by decide) (by decide) (by decide) hs
    show (mI a (rdN s 4611686018427387903 ((p.length : Int), false)).1, (rdN s 4611686018427387903 ((p.length : Int), false)).2) = _
    rw [e]; rfl
  · have e := rdV_put (e := false) hm.v h hs
    show (mVl a (rdV s ((p.length : Int), false)).1, (rdV s ((p.length : Int), false)).2) = _
    rw [e]; rfl
  · have e := rdV_put (e := true) hm.v h hs
    show (mVl a (rdV s ((p.length : Int), false)).1, (rdV s ((p.length : Int), false)).2) = _
    rw [e]; rfl
  · have e := rdV_put (e := true) hm.to h hs
    show (mW a (rdV s ((p.length : Int), false)).1, (rdV s ((p.length : Int), false)).2) = _
    rw [e]; rfl
  · have e := rdN_put (most := 2) h (by decide) (by decide) (by decide) hs
    show (mM a (rdN s 2 ((p.length : Int), false)).1, (rdN s 2 ((p.length : Int), false)).2) = _
    rw [e]; rfl
  · have e := rdN_put (most := 1000000) h (by decide) (by decide) (by decide) hs
    show (mM a (rdN s 1000000 ((p.length : Int), false)).1, (rdN s 1000000 ((p.length : Int), false)).2) = _
    rw [e]; rfl
  · have e := ru_get (r := mRule m) h hs rfl
    show (mR a (rS' s (p.length : Int)).1, (p.length : Int) + (rS' s (p.length : Int)).2, false || !(decS s (p.length : Int)).isSome) = _
    unfold rS'
    rw [e]
    show (mR a (mRule m), _, _) = (mR a (mRule m), _, _)
    simp
    rfl
  · have e := rdO_put hm.ov (o := mOp m) h hs
    show (sO a (rdO s ((p.length : Int), false)).1, (rdO s ((p.length : Int), false)).2) = (sO a (proO (mOp a) (mOp m)), _, _)
    rw [e, ha rfl]; rfl
theorem cmd_no6 : ∀ n : Fin 21, n.1 ≠ 6 → ∀ f ∈ cmdL.getD n.1 [], (f.toNat : Int) ≠ 111 := by decide
theorem cmd_not {K : Int} (h1 : 1 ≤ K) (h2 : K < 21) (h6 : ¬ K = 6) : ∀ f ∈ gt (d := .str) cmdL K, (f.toNat : Int) ≠ 111 :=
  cmd_no6 ⟨K.toNat, by omega⟩ (by dsimp only; omega)
/-- a command's bytes are read as its kind's fields -/
theorem rdM_put {m : MD.T} (hm : SmC m) (h : (bytM m).2 = true) : rdM (bytM m).1 = (proM m, ((bytM m).1.length : Int), false) := by
  obtain ⟨K, hK, h0, h1, h2, h3⟩ := byt_form h
  have hP : proM m = (gt (d := .str) cmdL K).foldl (fun a f => setM a f.toNat m) (m0 K) := by unfold proM; rw [hK]
  have hl : (byl [IntKind.wrap .u8 K]).length = 1 := rfl
  generalize (bytM m).1 = s at h3
  have hy := rdY_put (p := []) (K := K) (by omega) (by omega) (s := s) (r := (gt (d := .str) cmdL K).flatMap (fun f => (putM m f.toNat).1)) (by rw [h3]; rfl)
  have hy : rdY s (0, false) = (K, ((1 : Nat) : Int), false) := hy
  have hlen : s.length = 1 + ((gt (d := .str) cmdL K).flatMap fun f => (putM m f.toNat).1).length := by rw [h3, List.length_append, hl]
  unfold rdM
  rw [hy]
  dsimp only
  rw [hP, hlen]
  by_cases h6 : K = 6
  · subst h6
    have hc : (putM m 111).2 = true := h2 111 (by decide)
    have hs : s = byl [IntKind.wrap .u8 6] ++ (putM m 111).1 ++ [] := by rw [h3]; rfl
    have e := rdMf_put hm (m0 6) 111 (fun _ => rfl) (byl [IntKind.wrap .u8 6]) [] (by unfold fM; omega) hc hs
    show rdMf s (m0 6, ((1 : Nat) : Int), false) 111 = (setM (m0 6) 111 m, ((1 + ((putM m 111).1 ++ []).length : Nat) : Int), false)
    rw [List.append_nil]
    exact e
  · have hf := fold_put (g := rdMf s) (P := putM m) (S := fun a f => setM a f m) (F := fun f => fM f ∧ f ≠ 111) (s := s) (fun a f p r hf h hs => rdMf_put hm a f (fun e => (hf.2 e).elim) p r hf.1 h hs) (gt (d := .str) cmdL K) (m0 K) (byl [IntKind.wrap .u8 K]) [] (fun f hf => ⟨(cmd_ok K).2 f hf, cmd_not h0 h1 h6 f hf⟩) h2 (by rw [h3, List.append_nil])
    rw [hl] at hf
    exact hf

/-! what is read is small -/
theorem rdT_sm (s : List UInt8) (q : Int × Bool) : (rdT s q).1.length ≤ 1000 := by
  unfold rdT
  split
  · exact Nat.zero_le _
  · exact tS_sm s q.1
theorem rdV_sm (s : List UInt8) (q : Int × Bool) : Wf VD (rdV s q).1 := by
  unfold rdV
  split
  · exact wf0
  · exact vS_sm s q.1
structure SmO (o : OD.T) : Prop where
  t : o.2.2.1.length ≤ 1000
  n : o.2.2.2.2.2.1.length ≤ 1000
  v : Wf VD (oV o)
theorem rdOf_sm {s : List UInt8} {st : OD.T × Int × Bool} {f : Int} (h : SmO st.1) : SmO (rdOf s st f).1 := by
  unfold rdOf
  repeat' split
  · exact ⟨rdT_sm s st.2, h.n, h.v⟩
  · exact ⟨h.t, rdT_sm s st.2, h.v⟩
  · exact ⟨h.t, h.n, h.v⟩
  · exact ⟨h.t, h.n, h.v⟩
  · exact ⟨h.t, h.n, h.v⟩
  · exact ⟨h.t, h.n, rdV_sm s st.2⟩
  · exact ⟨h.t, h.n, h.v⟩
theorem fold_sm {α : Type} {Q : α → Prop} {g : α × Int × Bool → UInt8 → α × Int × Bool} (hg : ∀ st f, Q st.1 → Q (g st f).1) : ∀ (l : List UInt8) (st : α × Int × Bool), Q st.1 → Q (l.foldl g st).1
  | [], _, h => h
  | f :: l, st, h => fold_sm hg l _ (hg st f h)
theorem rdO_sm (s : List UInt8) (q : Int × Bool) : SmO (rdO s q).1 := fold_sm (fun st f h => rdOf_sm h) _ _ ⟨Nat.zero_le _, Nat.zero_le _, wf0⟩
theorem rdMf_sm {s : List UInt8} {st : MD.T × Int × Bool} {f : Int} (h : SmC st.1) : SmC (rdMf s st f).1 := by
  unfold rdMf
  repeat' split
  · exact ⟨rdT_sm s st.2, h.nm, h.v, h.to, h.oty, h.onm, h.ov⟩
  · exact ⟨h.ty, rdT_sm s st.2, h.v, h.to, h.oty, h.onm, h.ov⟩
  · exact ⟨h.ty, h.nm, h.v, h.to, h.oty, h.onm, h.ov⟩
  · exact ⟨h.ty, h.nm, rdV_sm s st.2, h.to, h.oty, h.onm, h.ov⟩
  · exact ⟨h.ty, h.nm, h.v, rdV_sm s st.2, h.oty, h.onm, h.ov⟩
  · exact ⟨h.ty, h.nm, h.v, h.to, h.oty, h.onm, h.ov⟩
  · exact ⟨h.ty, h.nm, h.v, h.to, h.oty, h.onm, h.ov⟩
  · exact ⟨h.ty, h.nm, h.v, h.to, h.oty, h.onm, h.ov⟩
  · have ho := rdO_sm s st.2
    exact ⟨h.ty, h.nm, h.v, h.to, ho.t, ho.n, ho.v⟩
theorem rdM_sm (s : List UInt8) : SmC (rdM s).1 := fold_sm (fun st f h => rdMf_sm h) _ _ (m0_sm _)

/-- the reference reads what the program reads -/
theorem dec_fwd {s : List UInt8} (hs : s.length ≤ 1000000) (h : okRD s (rdM s) = true) : decOk s = true ∧ decM s = (rdM s).1 := by
  unfold okRD at h
  rw [Bool.not_eq_true', Bool.or_eq_false_iff, Bool.or_eq_false_iff, Bool.not_eq_false', Bool.not_eq_false', decide_eq_true_eq] at h
  obtain ⟨⟨hb, ha⟩, hg⟩ := h
  have e := rt2 hs hg hb ha
  have hm := rdM_sm s
  generalize (rdM s).1 = c at hg e hm
  rw [← good_eq hm] at hg
  have hb := enc_eq hg
  rw [e] at hb
  have h2 := back_enc hg
  rw [hb] at h2
  exact h2
theorem dec_bwd {s : List UInt8} (h : decOk s = true) : okRD s (rdM s) = true := by
  obtain ⟨g1, g2⟩ := back_dec h
  have hm : SmC (decM s) := by rw [show decM s = (readS s).1 from if_pos h]; exact read_sm s
  generalize decM s = m at g1 g2 hm
  have hb : (bytM m).2 = true := by
    unfold goodM at g1
    rw [Bool.and_eq_true] at g1
    exact g1.1
  have hp : proM m = m := by
    have g1' := g1
    rw [good_pro hm, Bool.and_eq_true] at g1'
    exact (D.eqb_iff MD _ _).1 g1'.2
  have e := rdM_put hm hb
  rw [show encM m = (bytM m).1 from if_pos g1] at g2
  rw [g2, hp] at e
  rw [e]
  unfold okRD
  rw [← good_eq hm, g1]
  simp
theorem dec_eq {s : List UInt8} (hs : s.length ≤ 1000000) : decRP s (rdM s) = decM s ∧ derRP s (rdM s) = derM s := by
  by_cases h : okRD s (rdM s) = true
  · obtain ⟨h1, h2⟩ := dec_fwd hs h
    exact ⟨by rw [h2]; exact if_pos h, by rw [show derM s = 0 from if_pos h1]; exact if_pos h⟩
  · have h1 : ¬ decOk s = true := fun h1 => h (dec_bwd h1)
    exact ⟨by rw [show decM s = MD.df from if_neg h1]; exact if_neg h, by rw [show derM s = 11 from if_neg h1]; exact if_neg h⟩
end Go.Proofs.YtnldokebmfojeaaDoor
