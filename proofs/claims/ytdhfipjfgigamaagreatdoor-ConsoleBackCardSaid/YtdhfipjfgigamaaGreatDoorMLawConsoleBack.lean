/- The walk of the law ConsoleBack. Own work. -/
import Derived.Test.YtdhfipjfgigamaaGreatDoorPart8
set_option linter.unusedVariables false
set_option maxRecDepth 100000
namespace Go.Proofs.YtdhfipjfgigamaaGreatDoor.Con
open Go Go.RowKit Go.Lib OE

theorem row_ConsoleBack (m : MD.T) (hm : Wf MD m) (line : List UInt8) (hs : line.length ≤ 140737488351232) :
    FnD Tryz.prog 6 [.agg (mc m), .c (.str line)] (· = .c (.bool (.sym true))) := by
  refine fn0 Tryz.func6 rfl rfl rfl ?_
  conv => whnf
  refine call1 (keep_LargeCmd m) rfl ?_
  conv => whnf
  refine ⟨fun a => ?_, fun a => ?_⟩
  · conv => whnf
    refine call1 (console_wakes) rfl ?_
    conv => whnf
  rw [Bool.or_eq_false_iff, decide_eq_false_iff_not] at a
  obtain ⟨a1, a2⟩ := a
  have hl : line.length ≤ 20000 := by omega
  have hsh := sh_cmd hm a1
  conv => whnf
  cases hL : lineS m with
  | none =>
    refine call1 (console_Line' m hsh (line_no hL)) rfl ?_
    conv => whnf
    refine fk rfl ?_
    conv => whnf
    cases hq : parseS line with
    | none =>
      refine call1 (console_Parse' line (by omega) (parse_no hq)) rfl ?_
      conv => whnf
      refine tk rfl ?_
      conv => whnf
      refine callg0 (fun _ => console_wakes) rfl ?_
      conv => whnf
      rfl
    | some d =>
      have hd := parse_sh hl hq
      refine call1 (console_Parse' line (by omega) (parse_ok hq)) rfl ?_
      conv => whnf
      refine fk rfl ?_
      conv => whnf
      refine call1 (console_Line' d hd (line_ok (line_back hd.sm hq))) rfl ?_
      conv => whnf
      refine callg0 (fun _ => console_wakes) rfl ?_
      conv => whnf
      simp
  | some l =>
    have hp : parseS l = some m := lF_some hL
    have hlen : l.length ≤ 100000 := by
      rw [line_R hsh.sm] at hL
      split at hL
      · rename_i g
        cases hL
        obtain ⟨_, x, hx, _, h3⟩ := good_line hsh.sm g
        rw [← h3]
        exact lineX_len hsh x hx
      · cases hL
    refine call1 (console_Line' m hsh (line_ok hL)) rfl ?_
    conv => whnf
    refine tk rfl ?_
    conv => whnf
    refine call1 (console_Parse' l hlen (parse_ok hp)) rfl ?_
    conv => whnf
    refine callg0 (fun _ => keep_Cmd m m) rfl ?_
    conv => whnf
    rw [eq_same]
    refine fk rfl ?_
    conv => whnf
    cases hq : parseS line with
    | none =>
      refine call1 (console_Parse' line (by omega) (parse_no hq)) rfl ?_
      conv => whnf
      refine tk rfl ?_
      conv => whnf
      refine callg0 (fun _ => console_wakes) rfl ?_
      conv => whnf
      rfl
    | some d =>
      have hd := parse_sh hl hq
      refine call1 (console_Parse' line (by omega) (parse_ok hq)) rfl ?_
      conv => whnf
      refine fk rfl ?_
      conv => whnf
      refine call1 (console_Line' d hd (line_ok (line_back hd.sm hq))) rfl ?_
      conv => whnf
      refine callg0 (fun _ => console_wakes) rfl ?_
      conv => whnf
      simp
end Go.Proofs.YtdhfipjfgigamaaGreatDoor.Con
