/- What is small of a command, and of one that was read. Own work. -/
import Derived.Test.YtnldokebmfojeaaDoorWireGet
import Derived.Test.YtnldokebmfojeaaDoorValTurn
set_option linter.unusedVariables false
namespace Go.Proofs.YtnldokebmfojeaaDoor
open Go Go.RowKit OE

structure SmC (m : MD.T) : Prop where
  ty : (mType m).length ≤ 1000
  nm : (mName m).length ≤ 1000
  v : Wf VD (mV m)
  to : Wf VD (mTo m)
  oty : (mOp m).2.2.1.length ≤ 1000
  onm : (mOp m).2.2.2.2.2.1.length ≤ 1000
  ov : Wf VD (oV (mOp m))
theorem putT_1000 {t : List UInt8} (h : t.length ≤ 1000) : (Num.putT t).length ≤ 1010 := by
  unfold Num.putT
  have := Num.putN_ten (n := t.length) (Nat.lt_of_le_of_lt h (by decide))
  rw [List.length_append]; omega
theorem txS_len {t : List UInt8} {e : Bool} (h : t.length ≤ 1000) : (txS t e).1.length ≤ 1010 := putT_1000 h
theorem nuS_len (n a b : Int) : (nuS n a b).1.length ≤ 10 := Num.putN_ten (wrap_u64 n).2
theorem vaS_len {v : VD.T} {e : Bool} (h : Wf VD v) : (vaS v e).1.length ≤ 1040 := encV_len h
theorem encS_144 (r : RD.T) : (encS r).length ≤ 144 := by
  unfold encS
  split
  · rename_i h; exact bytS_len h
  · simp
theorem putO_len {m : MD.T} (h : SmC m) (f : Int) : (putO (mOp m) f).1.length ≤ 1040 := by
  generalize hr : putO (mOp m) f = r
  unfold putO at hr
  repeat' split at hr
  all_goals subst hr
  all_goals first | exact Nat.le_trans (txS_len h.oty) (by decide) | exact Nat.le_trans (txS_len h.onm) (by decide) | exact Nat.le_trans (nuS_len _ _ _) (by decide) | exact vaS_len h.ov | (show 1 ≤ 1040; decide)
theorem allS_len {P : Int → List UInt8 × Bool} {B : Nat} (h : ∀ f, (P f).1.length ≤ B) (k : Int) (l : List UInt8) : (allS P k l).1.length ≤ 1 + l.length * B := by
  unfold allS
  split
  · have := flat_len h l
    rw [List.length_append]
    show 1 + _ ≤ _
    omega
  · exact Nat.zero_le _
theorem ops_three (k : Int) : (gt (d := .str) opsL k).length ≤ 3 := by
  show (opsL.getD k.toNat []).length ≤ 3
  rcases Nat.lt_or_ge k.toNat 6 with h | h
  · exact (by decide : ∀ n : Fin 6, (opsL.getD n.1 []).length ≤ 3) ⟨k.toNat, h⟩
  · have : opsL.getD k.toNat [] = [] := by rw [List.getD_eq_getElem?_getD, List.getElem?_eq_none h]; rfl
    rw [this]; decide
theorem cmd_four (k : Int) : (gt (d := .str) cmdL k).length ≤ 4 := by
  show (cmdL.getD k.toNat []).length ≤ 4
  rcases Nat.lt_or_ge k.toNat 21 with h | h
  · exact (by decide : ∀ n : Fin 21, (cmdL.getD n.1 []).length ≤ 4) ⟨k.toNat, h⟩
  · have : cmdL.getD k.toNat [] = [] := by rw [List.getD_eq_getElem?_getD, List.getElem?_eq_none h]; rfl
    rw [this]; decide
theorem chgS_len {m : MD.T} (h : SmC m) : (chgS (mOp m)).1.length ≤ 4000 := by
  unfold chgS
  split
  · exact Nat.zero_le _
  · refine Nat.le_trans (allS_len (putO_len h) _ _) ?_
    have := Nat.mul_le_mul_right 1040 (ops_three (mOp m).1)
    omega
theorem putM_len {m : MD.T} (h : SmC m) (f : Int) : (putM m f).1.length ≤ 4000 := by
  generalize hr : putM m f = r
  unfold putM at hr
  repeat' split at hr
  all_goals subst hr
  all_goals first | exact Nat.le_trans (txS_len h.ty) (by decide) | exact Nat.le_trans (txS_len h.nm) (by decide) | exact Nat.le_trans (nuS_len _ _ _) (by decide) | exact Nat.le_trans (vaS_len h.v) (by decide) | exact Nat.le_trans (vaS_len h.to) (by decide) | exact Nat.le_trans (encS_144 _) (by decide) | exact chgS_len h
theorem bytM_len {m : MD.T} (h : SmC m) : (bytM m).1.length ≤ 16001 := by
  unfold bytM
  split
  · exact Nat.zero_le _
  · refine Nat.le_trans (allS_len (putM_len h) _ _) ?_
    have := Nat.mul_le_mul_right 4000 (cmd_four m.1)
    omega
theorem SmC.m {m : MD.T} (h : SmC m) : SmM m := by
  have hl : (1000 : Nat) ≤ 140737488355327 := by decide
  exact ⟨h.ty, h.nm, h.v, h.to, fun f => Nat.le_trans (putO_len h f) (by decide), Nat.le_trans h.oty hl, Nat.le_trans h.onm hl, h.ov⟩
theorem small_bytes {m : MD.T} (h : SmC m) : FnD Tryd.prog 25 [.agg (mc m)] (· = paR (bytM m)) := wire_bytes m (fun f => Nat.le_trans (putM_len h f) (by decide)) h.m

/-! what was read is small -/
theorem tS_sm (s : List UInt8) (k : Int) : (tS s k).1.length ≤ 1000 := by
  unfold tS
  cases hg : Num.getT s k 16 with
  | none => exact Nat.zero_le _
  | some p =>
    obtain ⟨t, i⟩ := p
    unfold Num.getT at hg
    split at hg
    · cases hg
    · split at hg
      · cases hg
      · rename_i hc
        simp only [Option.some.injEq, Prod.mk.injEq] at hg
        simp only [Option.getD_some]
        rw [← hg.1, List.length_take]
        omega
theorem vS_sm (s : List UInt8) (k : Int) : Wf VD (vS' s k).1 := by
  unfold vS'
  cases hg : decV s k with
  | none => exact ⟨by decide, by decide, by decide⟩
  | some p => exact decV_wf hg
theorem gO_sm {m : MD.T} {f : Int} {s : List UInt8} {k : Int} (h : SmC m) : SmC (sO m (gO (mOp m) f s k).1) := by
  generalize hr : gO (mOp m) f s k = r
  unfold gO at hr
  repeat' split at hr
  all_goals subst hr
  · exact ⟨h.ty, h.nm, h.v, h.to, tS_sm s k, h.onm, h.ov⟩
  · exact ⟨h.ty, h.nm, h.v, h.to, h.oty, tS_sm s k, h.ov⟩
  · exact ⟨h.ty, h.nm, h.v, h.to, h.oty, h.onm, h.ov⟩
  · exact ⟨h.ty, h.nm, h.v, h.to, h.oty, h.onm, h.ov⟩
  · exact ⟨h.ty, h.nm, h.v, h.to, h.oty, h.onm, h.ov⟩
  · exact ⟨h.ty, h.nm, h.v, h.to, h.oty, h.onm, vS_sm s k⟩
  · exact ⟨h.ty, h.nm, h.v, h.to, h.oty, h.onm, h.ov⟩
  · exact ⟨h.ty, h.nm, h.v, h.to, h.oty, h.onm, h.ov⟩
theorem fld_sm {G : MD.T → Int → Int → MD.T × Int × Bool} (hG : ∀ m f k, SmC m → SmC (G m f k).1) : ∀ (l : List UInt8) (m : MD.T) (k z : Int), SmC m → SmC (fldS G l m k z).1
  | [], m, _, _, h => h
  | f :: l, m, k, z, h => by
    unfold fldS
    split
    · exact fld_sm hG l _ _ _ (hG _ _ _ h)
    · exact hG _ _ _ h
theorem gM_sm {m : MD.T} {f : Int} {s : List UInt8} {k : Int} (h : SmC m) : SmC (gM s m f k).1 := by
  generalize hr : gM s m f k = r
  unfold gM at hr
  repeat' split at hr
  all_goals subst hr
  · exact ⟨tS_sm s k, h.nm, h.v, h.to, h.oty, h.onm, h.ov⟩
  · exact ⟨h.ty, tS_sm s k, h.v, h.to, h.oty, h.onm, h.ov⟩
  · exact ⟨h.ty, h.nm, h.v, h.to, h.oty, h.onm, h.ov⟩
  · exact ⟨h.ty, h.nm, vS_sm s k, h.to, h.oty, h.onm, h.ov⟩
  · exact ⟨h.ty, h.nm, h.v, vS_sm s k, h.oty, h.onm, h.ov⟩
  · exact ⟨h.ty, h.nm, h.v, h.to, h.oty, h.onm, h.ov⟩
  · exact ⟨h.ty, h.nm, h.v, h.to, h.oty, h.onm, h.ov⟩
  · unfold chR
    split
    · exact h
    · exact fld_sm (fun m f k h => gO_sm h) _ _ _ _ ⟨h.ty, h.nm, h.v, h.to, h.oty, h.onm, h.ov⟩
theorem wf0 : Wf VD ((0, 0, []) : VD.T) := ⟨by decide, by decide, Nat.zero_le _⟩
theorem m0_sm (k : Int) : SmC (m0 k) := ⟨Nat.zero_le _, Nat.zero_le _, wf0, wf0, Nat.zero_le _, Nat.zero_le _, wf0⟩
theorem read_sm (s : List UInt8) : SmC (readS s).1 := by
  unfold readS
  split
  · exact m0_sm 0
  · exact fld_sm (fun m f k h => gM_sm h) _ _ _ _ (m0_sm _)
end Go.Proofs.YtnldokebmfojeaaDoor
