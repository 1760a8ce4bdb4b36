/- The walk of the laws' wakes (wire). Own work. -/
import Derived.Test.YtnldokebmfojeaaDoorWireNext
set_option linter.unusedVariables false
set_option maxRecDepth 100000
namespace Go.Proofs.YtnldokebmfojeaaDoor
open Go Go.RowKit OE

theorem keep_Op (v w : OD.T) : FnD Tryd.prog 47 [.agg (oc v), .agg (oc w)] (· = .c (.bool (.sym (OD.eqb v w)))) := by
  refine fn0 Tryd.func47 rfl rfl rfl ?_
  conv => whnf
  refine callg0 (fun _ => keep_Value (oV v) (oV w)) rfl ?_
  conv => whnf
  simp [D.eqb, oV, Bool.and_assoc, Bool.beq_eq_decide_eq]
  rfl
theorem keep_Cmd (v w : MD.T) : FnD Tryd.prog 18 [.agg (mc v), .agg (mc w)] (· = .c (.bool (.sym (MD.eqb v w)))) := by
  refine fn0 Tryd.func18 rfl rfl rfl ?_
  conv => whnf
  refine callg0 (fun _ => keep_Value (mV v) (mV w)) rfl ?_
  conv => whnf
  refine callg0 (fun _ => keep_Value (mTo v) (mTo w)) rfl ?_
  conv => whnf
  refine callg0 (fun _ => keep_Op (mOp v) (mOp w)) rfl ?_
  conv => whnf
  refine callg0 (fun _ => keep_Rule (mRule v) (mRule w)) rfl ?_
  conv => whnf
  simp [D.eqb, mV, mTo, mOp, mRule, Bool.and_assoc]
  rfl
def wW : MD.T := (6, 0, [], [], (0, 0, []), (0, 0, []), 0, (5, 300, [], 0, 0, [97], (1, 1, []), false), RD.df)
def wB : MD.T := (1, MD.df.2)
theorem putN_300 : Num.putN 300 = [172, 2] := by rw [Num.putN_ge (by decide), Num.putN_lt (by decide)]; rfl
theorem putN_1 : Num.putN 1 = [1] := by rw [Num.putN_lt (by decide)]; rfl
theorem wW_bytes : bytM wW = ([6, 5, 172, 2, 1, 97, 1, 1], true) := by
  have h : bytM wW = (byl [6] ++ (byl [5] ++ (Num.putN 300 ++ ((Num.putN 1 ++ [97]) ++ ([1, 1] ++ []))) ++ []), true) := rfl
  rw [h, putN_300, putN_1]
  rfl
theorem wW_read : readS [6, 5, 172, 2, 1, 97, 1, 1] = (wW, true) := by rfl
theorem wW_good : goodM wW = true := by unfold goodM; rw [wW_bytes, wW_read]; rfl
theorem wB_bytes : bytM wB = ([1], true) := rfl
theorem wB_good : goodM wB = true := rfl
theorem wW_sm : SmC wW := ⟨by decide, by decide, wf0, wf0, by decide, by decide, ⟨by decide, by decide, Nat.zero_le _⟩⟩
theorem wire_wakes : FnD Tryd.prog 9 [] (· = .c (.bool (.sym true))) := by
  have e1 : encM wW = [6, 5, 172, 2, 1, 97, 1, 1] := by unfold encM; rw [if_pos wW_good, wW_bytes]
  have e2 : errM wW = 0 := by unfold errM; rw [if_pos wW_good]
  have e3 : decOk [6, 5, 172, 2, 1, 97, 1, 1] = true := by unfold decOk; rw [wW_read, wW_bytes]; rfl
  have e4 : decM [6, 5, 172, 2, 1, 97, 1, 1] = wW := by unfold decM; rw [if_pos e3, wW_read]
  have e5 : derM [6, 5, 172, 2, 1, 97, 1, 1] = 0 := by unfold derM; rw [if_pos e3]
  have e6 : msgM wB = [1, 1] := by unfold msgM; rw [if_pos wB_good, wB_bytes]; show Num.putN 1 ++ [1] = _; rw [putN_1]; rfl
  have e7 : errM wB = 0 := by unfold errM; rw [if_pos wB_good]
  refine fn0 Tryd.func9 rfl rfl rfl ?_
  conv => whnf
  refine call1 (wire_Encode wW wW_sm) rfl ?_
  conv => whnf
  rw [e1, e2]
  refine call1 (wire_Decode [6, 5, 172, 2, 1, 97, 1, 1] (by decide)) rfl ?_
  conv => whnf
  rw [e4, e5]
  conv => whnf
  refine call1 (wire_Message wB (m0_sm 1)) rfl ?_
  conv => whnf
  rw [e6, e7]
  refine ⟨by decide, ?_⟩
  conv => whnf
  refine call1 (wire_Next [1, 1, 109, 111, 114, 101] (by decide)) rfl ?_
  conv => whnf
  rw [show nextM [1, 1, 109, 111, 114, 101] = ([1], 2, 0) from rfl]
  refine callg0 (fun _ => keep_Cmd wW wW) rfl ?_
  conv => whnf
  rfl
end Go.Proofs.YtnldokebmfojeaaDoor
