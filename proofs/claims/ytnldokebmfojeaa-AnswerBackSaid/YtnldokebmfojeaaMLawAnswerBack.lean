/- The walk of the law AnswerBack. Own work. -/
import Derived.Test.YtnldokebmfojeaaPart7
set_option linter.unusedVariables false
set_option maxRecDepth 100000
namespace Go.Proofs.Ytnldokebmfojeaa
open Go Go.RowKit OE

theorem not_ok {a b : Prop} [Decidable a] (h : ¬ a) : (if a then (0 : Int) else 11) = 11 := if_neg h
theorem row_AnswerBack (r : AD.T) (hr : Wf AD r) (s : List UInt8) (hs : s.length ≤ 140737488351232) :
    FnD Try.prog 3 [.agg (ac r), .c (.str s)] (· = .c (.bool (.sym true))) := by
  refine fn0 Try.func3 rfl rfl rfl ?_
  conv => whnf
  refine call1 (law_Large r) rfl ?_
  conv => whnf
  refine ⟨fun h1 => ?_, fun h1 => ?_⟩
  · conv => whnf
    refine call1 (ans_wakes) rfl ?_
    conv => whnf
  rw [Bool.or_eq_false_iff, decide_eq_false_iff_not] at h1
  have hm := smallA h1.1
  have hl : s.length ≤ 100000000 := by have := h1.2; omega
  conv => whnf
  refine call1 (law_copied r hm) rfl ?_
  conv => whnf
  refine call1 (ans_Encode r hr hm.c3) rfl ?_
  conv => whnf
  by_cases hg : goodA r = true
  · obtain ⟨d1, d2⟩ := rep_encA hr hg
    rw [show encAS r = encA r from if_pos hg, show errA r = 0 from if_pos hg]
    refine tk rfl ?_
    conv => whnf
    refine call1 (ans_Decode (encA r) (encA_len hr hg)) rfl ?_
    conv => whnf
    rw [show repE (encA r) = 0 from if_pos d2, show repA (encA r) = r from (if_pos d2).trans d1]
    refine callg0 (fun _ => keep_Reply r r) rfl ?_
    conv => whnf
    rw [eqA_same]
    refine fk rfl ?_
    conv => whnf
    refine call1 (ans_Decode s hl) rfl ?_
    conv => whnf
    by_cases hk : okA s = true
    · obtain ⟨g1, g2⟩ := enc_repA hk
      obtain ⟨w1, w2⟩ := repA_wf s
      rw [show repE s = 0 from if_pos hk, show repA s = rawA s from if_pos hk]
      refine fk rfl ?_
      conv => whnf
      refine call1 (ans_Encode (rawA s) w1 w2) rfl ?_
      conv => whnf
      refine callg0 (fun _ => ans_Good (rawA s) w1 w2) rfl ?_
      conv => whnf
      refine callg0 (fun _ => ans_wakes) rfl ?_
      conv => whnf
      rw [g1, show encAS (rawA s) = s from (if_pos g1).trans g2, show errA (rawA s) = 0 from if_pos g1]
      simp
    · rw [show repE s = 11 from if_neg hk, show repA s = A0 from if_neg hk]
      refine tk rfl ?_
      conv => whnf
      refine callg0 (fun _ => (keep_Reply A0 A0).args fun w ok => ⟨fun _ h => h, nilReply, trivial⟩) rfl ?_
      conv => whnf
      refine callg0 (fun _ => ans_wakes) rfl ?_
      conv => whnf
      rw [eqA_same]
      rfl
  · rw [show encAS r = [] from if_neg hg, show errA r = 11 from if_neg hg]
    refine fk rfl ?_
    conv => whnf
    refine call1 (ans_Decode s hl) rfl ?_
    conv => whnf
    by_cases hk : okA s = true
    · obtain ⟨g1, g2⟩ := enc_repA hk
      obtain ⟨w1, w2⟩ := repA_wf s
      rw [show repE s = 0 from if_pos hk, show repA s = rawA s from if_pos hk]
      refine fk rfl ?_
      conv => whnf
      refine call1 (ans_Encode (rawA s) w1 w2) rfl ?_
      conv => whnf
      refine callg0 (fun _ => ans_Good (rawA s) w1 w2) rfl ?_
      conv => whnf
      refine callg0 (fun _ => ans_wakes) rfl ?_
      conv => whnf
      rw [g1, show encAS (rawA s) = s from (if_pos g1).trans g2, show errA (rawA s) = 0 from if_pos g1]
      simp
    · rw [show repE s = 11 from if_neg hk, show repA s = A0 from if_neg hk]
      refine tk rfl ?_
      conv => whnf
      refine callg0 (fun _ => (keep_Reply A0 A0).args fun w ok => ⟨fun _ h => h, nilReply, trivial⟩) rfl ?_
      conv => whnf
      refine callg0 (fun _ => ans_wakes) rfl ?_
      conv => whnf
      rw [eqA_same]
      rfl
end Go.Proofs.Ytnldokebmfojeaa
