/- The walk of the law WireBack. Own work. -/
import Derived.Test.YtnldokebmfojeaaDoorWireWakes
set_option linter.unusedVariables false
set_option maxRecDepth 100000
namespace Go.Proofs.YtnldokebmfojeaaDoor
open Go Go.RowKit OE

def largeOp (o : OD.T) : Bool := decide ((1000 : Int) < o.2.2.1.length) || decide ((1000 : Int) < o.2.2.2.2.2.1.length) || decide ((5000 : Int) < (oV o).2.2.length)
def largeCmd (m : MD.T) : Bool := decide ((1000 : Int) < (mType m).length) || decide ((1000 : Int) < (mName m).length) || decide ((5000 : Int) < (mV m).2.2.length) || decide ((5000 : Int) < (mTo m).2.2.length) || largeOp (mOp m) || largeRule (mRule m)
theorem keep_LargeOp (o : OD.T) : FnD Tryd.prog 23 [.agg (oc o)] (· = .c (.bool (.sym (largeOp o)))) := by
  refine fn0 Tryd.func23 rfl rfl rfl ?_
  conv => whnf
  refine callg0 (fun _ => keep_LargeValue (oV o)) rfl ?_
  conv => whnf
  rfl
theorem keep_LargeCmd (m : MD.T) : FnD Tryd.prog 8 [.agg (mc m)] (· = .c (.bool (.sym (largeCmd m)))) := by
  refine fn0 Tryd.func8 rfl rfl rfl ?_
  conv => whnf
  refine callg0 (fun _ => keep_LargeValue (mV m)) rfl ?_
  conv => whnf
  refine callg0 (fun _ => keep_LargeValue (mTo m)) rfl ?_
  conv => whnf
  refine callg0 (fun _ => keep_LargeOp (mOp m)) rfl ?_
  conv => whnf
  refine callg0 (fun _ => keep_LargeRule (mRule m)) rfl ?_
  conv => whnf
  rfl
theorem small_cmd {m : MD.T} (hm : Wf MD m) (h : largeCmd m = false) : SmC m := by
  simp only [largeCmd, largeOp, Bool.or_eq_false_iff, decide_eq_false_iff_not] at h
  obtain ⟨⟨⟨⟨⟨h1, h2⟩, h3⟩, h4⟩, ⟨⟨h5, h6⟩, h7⟩⟩, h8⟩ := h
  exact ⟨by omega, by omega, hm.2.2.2.2.1, hm.2.2.2.2.2.1, by omega, by omega, hm.2.2.2.2.2.2.2.1.2.2.2.2.2.2.1⟩
theorem eqM_same (m : MD.T) : MD.eqb m m = true := (D.eqb_iff MD m m).2 rfl
/-- what was encoded is decoded as it was -/
theorem back_enc {m : MD.T} (h : goodM m = true) : decOk (bytM m).1 = true ∧ decM (bytM m).1 = m := by
  unfold goodM at h
  simp only [Bool.and_eq_true] at h
  obtain ⟨h1, h2, h3⟩ := h
  have e : (readS (bytM m).1).1 = m := (D.eqb_iff MD _ _).1 h3
  have ho : decOk (bytM m).1 = true := by
    unfold decOk
    rw [e, h1, h2]
    simp
  exact ⟨ho, by unfold decM; rw [if_pos ho, e]⟩
/-- what was decoded is encoded as it stood -/
theorem back_dec {s : List UInt8} (h : decOk s = true) : goodM (decM s) = true ∧ encM (decM s) = s := by
  have hd : decM s = (readS s).1 := by unfold decM; rw [if_pos h]
  unfold decOk at h
  simp only [Bool.and_eq_true, decide_eq_true_eq] at h
  obtain ⟨h1, h2, h3⟩ := h
  have hg : goodM (decM s) = true := by
    rw [hd]; unfold goodM
    rw [h2, h3, h1, eqM_same]; rfl
  exact ⟨hg, by unfold encM; rw [if_pos hg, hd, h3]⟩
theorem row_WireBack (m : MD.T) (hm : Wf MD m) (s : List UInt8) (hs : s.length ≤ 140737488351232) :
    FnD Tryd.prog 6 [.agg (mc m), .c (.str s)] (· = .c (.bool (.sym true))) := by
  refine fn0 Tryd.func6 rfl rfl rfl ?_
  conv => whnf
  refine call1 (keep_LargeCmd m) rfl ?_
  conv => whnf
  refine ⟨fun a => ?_, fun a => ?_⟩
  · conv => whnf
    refine call1 (wire_wakes) rfl ?_
    conv => whnf
  rw [Bool.or_eq_false_iff, decide_eq_false_iff_not] at a
  have hl : s.length ≤ 1000000 := by have := a.2; omega
  have hc := small_cmd hm a.1
  conv => whnf
  refine call1 (wire_Encode m hc) rfl ?_
  conv => whnf
  refine ⟨fun b => ?_, fun b => ?_⟩
  · have b : goodM m = true := Decidable.byContradiction fun hg => by rw [show errM m = 11 from if_neg hg] at b; cases b
    obtain ⟨d1, d2⟩ := back_enc b
    conv => whnf
    rw [show encM m = (bytM m).1 from if_pos b]
    refine call1 (wire_Decode (bytM m).1 (Nat.le_trans (bytM_len hc) (by decide))) rfl ?_
    conv => whnf
    refine callg0 (fun _ => keep_Cmd m (decM (bytM m).1)) rfl ?_
    conv => whnf
    rw [d2, show derM (bytM m).1 = 0 from if_pos d1, eqM_same]
    refine fk rfl ?_
    conv => whnf
    refine call1 (wire_Decode s hl) rfl ?_
    conv => whnf
    refine ⟨fun c => ?_, fun c => ?_⟩
    · have c : ¬ decOk s = true := fun h => by rw [show derM s = 0 from if_pos h] at c; cases c
      rw [show decM s = MD.df from if_neg c, show derM s = 11 from if_neg c]
      conv => whnf
      refine callg0 (fun _ => wire_wakes) rfl ?_
      conv => whnf
      rfl
    have c : decOk s = true := Decidable.byContradiction fun h => by rw [show derM s = 11 from if_neg h] at c; cases c
    obtain ⟨g1, g2⟩ := back_dec c
    have hd : SmC (decM s) := by rw [show decM s = (readS s).1 from if_pos c]; exact read_sm s
    conv => whnf
    refine call1 (wire_Encode (decM s) hd) rfl ?_
    conv => whnf
    refine callg0 (fun _ => wire_Good (decM s) hd) rfl ?_
    conv => whnf
    refine callg0 (fun _ => wire_wakes) rfl ?_
    conv => whnf
    rw [g1, g2, show errM (decM s) = 0 from if_pos g1]
    simp
  · conv => whnf
    refine call1 (wire_Decode s hl) rfl ?_
    conv => whnf
    refine ⟨fun c => ?_, fun c => ?_⟩
    · have c : ¬ decOk s = true := fun h => by rw [show derM s = 0 from if_pos h] at c; cases c
      rw [show decM s = MD.df from if_neg c, show derM s = 11 from if_neg c]
      conv => whnf
      refine callg0 (fun _ => wire_wakes) rfl ?_
      conv => whnf
      rfl
    have c : decOk s = true := Decidable.byContradiction fun h => by rw [show derM s = 11 from if_neg h] at c; cases c
    obtain ⟨g1, g2⟩ := back_dec c
    have hd : SmC (decM s) := by rw [show decM s = (readS s).1 from if_pos c]; exact read_sm s
    conv => whnf
    refine call1 (wire_Encode (decM s) hd) rfl ?_
    conv => whnf
    refine callg0 (fun _ => wire_Good (decM s) hd) rfl ?_
    conv => whnf
    refine callg0 (fun _ => wire_wakes) rfl ?_
    conv => whnf
    rw [g1, g2, show errM (decM s) = 0 from if_pos g1]
    simp
end Go.Proofs.YtnldokebmfojeaaDoor
