/- The walk of the law ConsoleParses. Own work. -/
import Derived.Test.YtdhfipjfgigamaaGreatDoorPart8
/- The walks of the reference's op, rule, two, three, four. Printed by a program of the session (genconof.py). Own work. -/
set_option linter.unusedVariables false
set_option maxRecDepth 100000
namespace Go.Proofs.YtdhfipjfgigamaaGreatDoor.Con
open Go Go.RowKit Go.Lib OE

theorem ref_op (o : OD.T) : FnD Tryz.prog 90 [.agg (oc o)] (· = .agg (mc (opM o))) := by
  refine fn0 Tryz.func90 rfl rfl rfl ?_
  conv => whnf
  rfl
theorem ref_rule (r : RD.T) : FnD Tryz.prog 91 [.agg (rc r)] (· = .agg (mc (ruM r))) := by
  refine fn0 Tryz.func91 rfl rfl rfl ?_
  conv => whnf
  rfl
theorem ref_two (w a : List UInt8) (ha : a.length ≤ 100000) : FnD Tryz.prog 58 [.c (.str w), .c (.str a)] (· = .tup [(true, mc (twoS w a).1), (false, [.bool (.sym (twoS w a).2)])]) := by
  refine FnD_be (L := [(true, mc (twoS w a).1)]) ?_
  refine fn0 Tryz.func58 rfl rfl rfl ?_
  conv => whnf
  refine call1 (ref_number a ha) rfl ?_
  conv => whnf
  refine ⟨fun h => ?_, fun h => ?_⟩
  · have h : w = [115, 97, 118, 101] := of_decide_eq_true h
    rw [show twoS w a = (mNm (m0 4) a, true) by unfold twoS; rw [if_pos h]]
    conv => whnf
    exact ⟨_, rfl, rfl⟩
  have n_save : ¬ w = [115, 97, 118, 101] := of_decide_eq_false h
  clear h
  conv => whnf
  refine ⟨fun h => ?_, fun h => ?_⟩
  · have h : w = [98, 97, 99, 107] := of_decide_eq_true h
    rw [show twoS w a = (mNm (m0 5) a, true) by unfold twoS; rw [if_neg n_save, if_pos h]]
    conv => whnf
    exact ⟨_, rfl, rfl⟩
  have n_back : ¬ w = [98, 97, 99, 107] := of_decide_eq_false h
  clear h
  conv => whnf
  refine ⟨fun h => ?_, fun h => ?_⟩
  · have h : w = [110, 111, 100, 101] := of_decide_eq_true h
    rw [show twoS w a = (opM (oT (o0 1) a), true) by unfold twoS; rw [if_neg n_save, if_neg n_back, if_pos h]]
    conv => whnf
    refine call1 (ref_op (oT (o0 1) a)) rfl ?_
    conv => whnf
    exact ⟨_, rfl, rfl⟩
  have n_node : ¬ w = [110, 111, 100, 101] := of_decide_eq_false h
  clear h
  conv => whnf
  refine ⟨fun h => ?_, fun h => ?_⟩
  · have h : w = [100, 114, 111, 112] := of_decide_eq_true h
    rw [show twoS w a = (opM (oI (o0 2) (numR a)), decide (0 ≤ numR a)) by unfold twoS; rw [if_neg n_save, if_neg n_back, if_neg n_node, if_pos h]]
    conv => whnf
    refine call1 (ref_op (oI (o0 2) (numR a))) rfl ?_
    conv => whnf
    exact ⟨_, rfl, rfl⟩
  have n_drop : ¬ w = [100, 114, 111, 112] := of_decide_eq_false h
  clear h
  conv => whnf
  refine ⟨fun h => ?_, fun h => ?_⟩
  · have h : w = [99, 97, 115, 99, 97, 100, 101] := of_decide_eq_true h
    rw [show twoS w a = (opM (oC (oI (o0 2) (numR a)) true), decide (0 ≤ numR a)) by unfold twoS; rw [if_neg n_save, if_neg n_back, if_neg n_node, if_neg n_drop, if_pos h]]
    conv => whnf
    refine call1 (ref_op (oC (oI (o0 2) (numR a)) true)) rfl ?_
    conv => whnf
    exact ⟨_, rfl, rfl⟩
  have n_cascade : ¬ w = [99, 97, 115, 99, 97, 100, 101] := of_decide_eq_false h
  clear h
  conv => whnf
  refine ⟨fun h => ?_, fun h => ?_⟩
  · have h : w = [99, 117, 116] := of_decide_eq_true h
    rw [show twoS w a = (opM (oI (o0 4) (numR a)), decide (0 ≤ numR a)) by unfold twoS; rw [if_neg n_save, if_neg n_back, if_neg n_node, if_neg n_drop, if_neg n_cascade, if_pos h]]
    conv => whnf
    refine call1 (ref_op (oI (o0 4) (numR a))) rfl ?_
    conv => whnf
    exact ⟨_, rfl, rfl⟩
  have n_cut : ¬ w = [99, 117, 116] := of_decide_eq_false h
  clear h
  conv => whnf
  refine ⟨fun h => ?_, fun h => ?_⟩
  · have h : w = [103, 101, 116] := of_decide_eq_true h
    rw [show twoS w a = (mI (m0 7) (numR a), decide (0 ≤ numR a)) by unfold twoS; rw [if_neg n_save, if_neg n_back, if_neg n_node, if_neg n_drop, if_neg n_cascade, if_neg n_cut, if_pos h]]
    conv => whnf
    exact ⟨_, rfl, rfl⟩
  have n_get : ¬ w = [103, 101, 116] := of_decide_eq_false h
  clear h
  conv => whnf
  refine ⟨fun h => ?_, fun h => ?_⟩
  · have h : w = [97, 114, 99] := of_decide_eq_true h
    rw [show twoS w a = (mI (m0 8) (numR a), decide (0 ≤ numR a)) by unfold twoS; rw [if_neg n_save, if_neg n_back, if_neg n_node, if_neg n_drop, if_neg n_cascade, if_neg n_cut, if_neg n_get, if_pos h]]
    conv => whnf
    exact ⟨_, rfl, rfl⟩
  have n_arc : ¬ w = [97, 114, 99] := of_decide_eq_false h
  clear h
  conv => whnf
  refine ⟨fun h => ?_, fun h => ?_⟩
  · have h : w = [111, 117, 116] := of_decide_eq_true h
    rw [show twoS w a = (mI (m0 9) (numR a), decide (0 ≤ numR a)) by unfold twoS; rw [if_neg n_save, if_neg n_back, if_neg n_node, if_neg n_drop, if_neg n_cascade, if_neg n_cut, if_neg n_get, if_neg n_arc, if_pos h]]
    conv => whnf
    exact ⟨_, rfl, rfl⟩
  have n_out : ¬ w = [111, 117, 116] := of_decide_eq_false h
  clear h
  conv => whnf
  refine ⟨fun h => ?_, fun h => ?_⟩
  · have h : w = [105, 110] := of_decide_eq_true h
    rw [show twoS w a = (mI (m0 10) (numR a), decide (0 ≤ numR a)) by unfold twoS; rw [if_neg n_save, if_neg n_back, if_neg n_node, if_neg n_drop, if_neg n_cascade, if_neg n_cut, if_neg n_get, if_neg n_arc, if_neg n_out, if_pos h]]
    conv => whnf
    exact ⟨_, rfl, rfl⟩
  have n_in : ¬ w = [105, 110] := of_decide_eq_false h
  clear h
  conv => whnf
  refine ⟨fun h => ?_, fun h => ?_⟩
  · have h : w = [115, 99, 97, 110] := of_decide_eq_true h
    rw [show twoS w a = (mT (m0 11) a, true) by unfold twoS; rw [if_neg n_save, if_neg n_back, if_neg n_node, if_neg n_drop, if_neg n_cascade, if_neg n_cut, if_neg n_get, if_neg n_arc, if_neg n_out, if_neg n_in, if_pos h]]
    conv => whnf
    exact ⟨_, rfl, rfl⟩
  have n_scan : ¬ w = [115, 99, 97, 110] := of_decide_eq_false h
  clear h
  conv => whnf
  refine ⟨fun h => ?_, fun h => ?_⟩
  · have h : w = [110, 111, 114, 117, 108, 101] := of_decide_eq_true h
    rw [show twoS w a = (mM (m0 17) (numR a), decide (0 ≤ numR a)) by unfold twoS; rw [if_neg n_save, if_neg n_back, if_neg n_node, if_neg n_drop, if_neg n_cascade, if_neg n_cut, if_neg n_get, if_neg n_arc, if_neg n_out, if_neg n_in, if_neg n_scan, if_pos h]]
    conv => whnf
    exact ⟨_, rfl, rfl⟩
  have n_norule : ¬ w = [110, 111, 114, 117, 108, 101] := of_decide_eq_false h
  clear h
  conv => whnf
  rw [show twoS w a = (MD.df, false) by unfold twoS; rw [if_neg n_save, if_neg n_back, if_neg n_node, if_neg n_drop, if_neg n_cascade, if_neg n_cut, if_neg n_get, if_neg n_arc, if_neg n_out, if_neg n_in, if_neg n_scan, if_neg n_norule]]
  exact ⟨_, rfl, rfl⟩
theorem ref_three (w a b : List UInt8) (ha : a.length ≤ 100000) (hb : b.length ≤ 100000) : FnD Tryz.prog 59 [.c (.str w), .c (.str a), .c (.str b)] (· = .tup [(true, mc (threeS w a b).1), (false, [.bool (.sym (threeS w a b).2)])]) := by
  refine FnD_be (L := [(true, mc (threeS w a b).1)]) ?_
  refine fn0 Tryz.func59 rfl rfl rfl ?_
  conv => whnf
  refine call1 (ref_number a ha) rfl ?_
  conv => whnf
  refine call1 (ref_number b hb) rfl ?_
  conv => whnf
  refine ⟨fun h => ?_, fun h => ?_⟩
  · have h : w = [111, 117, 116] := of_decide_eq_true h
    rw [show threeS w a b = (mT (mI (m0 9) (numR a)) b, decide (0 ≤ numR a) && !decide (b = [])) by unfold threeS; rw [if_pos h]]
    conv => whnf
    exact ⟨_, rfl, rfl⟩
  have n_out : ¬ w = [111, 117, 116] := of_decide_eq_false h
  clear h
  conv => whnf
  refine ⟨fun h => ?_, fun h => ?_⟩
  · have h : w = [105, 110] := of_decide_eq_true h
    rw [show threeS w a b = (mT (mI (m0 10) (numR a)) b, decide (0 ≤ numR a) && !decide (b = [])) by unfold threeS; rw [if_neg n_out, if_pos h]]
    conv => whnf
    exact ⟨_, rfl, rfl⟩
  have n_in : ¬ w = [105, 110] := of_decide_eq_false h
  clear h
  conv => whnf
  refine ⟨fun h => ?_, fun h => ?_⟩
  · have h : w = [116, 121, 112, 101] := of_decide_eq_true h
    rw [show threeS w a b = (mM (mT (m0 14) a) (numR b), decide (0 ≤ numR b)) by unfold threeS; rw [if_neg n_out, if_neg n_in, if_pos h]]
    conv => whnf
    exact ⟨_, rfl, rfl⟩
  have n_type : ¬ w = [116, 121, 112, 101] := of_decide_eq_false h
  clear h
  conv => whnf
  refine ⟨fun h => ?_, fun h => ?_⟩
  · have h : w = [110, 111, 116, 121, 112, 101] := of_decide_eq_true h
    rw [show threeS w a b = (mM (mT (m0 15) a) (numR b), decide (0 ≤ numR b)) by unfold threeS; rw [if_neg n_out, if_neg n_in, if_neg n_type, if_pos h]]
    conv => whnf
    exact ⟨_, rfl, rfl⟩
  have n_notype : ¬ w = [110, 111, 116, 121, 112, 101] := of_decide_eq_false h
  clear h
  conv => whnf
  refine ⟨fun h => ?_, fun h => ?_⟩
  · have h : w = [117, 110, 105, 113, 117, 101] := of_decide_eq_true h
    rw [show threeS w a b = (ruM (rN (rT (rule0 1) a) b), true) by unfold threeS; rw [if_neg n_out, if_neg n_in, if_neg n_type, if_neg n_notype, if_pos h]]
    conv => whnf
    refine call1 (ref_rule (rN (rT (rule0 1) a) b)) rfl ?_
    conv => whnf
    exact ⟨_, rfl, rfl⟩
  have n_unique : ¬ w = [117, 110, 105, 113, 117, 101] := of_decide_eq_false h
  clear h
  conv => whnf
  refine ⟨fun h => ?_, fun h => ?_⟩
  · have h : w = [101, 120, 105, 115, 116, 115] := of_decide_eq_true h
    rw [show threeS w a b = (ruM (rN (rT (rule0 2) a) b), true) by unfold threeS; rw [if_neg n_out, if_neg n_in, if_neg n_type, if_neg n_notype, if_neg n_unique, if_pos h]]
    conv => whnf
    refine call1 (ref_rule (rN (rT (rule0 2) a) b)) rfl ?_
    conv => whnf
    exact ⟨_, rfl, rfl⟩
  have n_exists : ¬ w = [101, 120, 105, 115, 116, 115] := of_decide_eq_false h
  clear h
  conv => whnf
  refine ⟨fun h => ?_, fun h => ?_⟩
  · have h : w = [109, 111, 115, 116] := of_decide_eq_true h
    rw [show threeS w a b = (ruM (rM (rT (rule0 4) a) (numR b)), decide (0 ≤ numR b)) by unfold threeS; rw [if_neg n_out, if_neg n_in, if_neg n_type, if_neg n_notype, if_neg n_unique, if_neg n_exists, if_pos h]]
    conv => whnf
    refine call1 (ref_rule (rM (rT (rule0 4) a) (numR b))) rfl ?_
    conv => whnf
    exact ⟨_, rfl, rfl⟩
  have n_most : ¬ w = [109, 111, 115, 116] := of_decide_eq_false h
  clear h
  conv => whnf
  refine ⟨fun h => ?_, fun h => ?_⟩
  · have h : w = [105, 110, 100, 101, 120] := of_decide_eq_true h
    rw [show threeS w a b = (mNm (mT (m0 18) a) b, true) by unfold threeS; rw [if_neg n_out, if_neg n_in, if_neg n_type, if_neg n_notype, if_neg n_unique, if_neg n_exists, if_neg n_most, if_pos h]]
    conv => whnf
    exact ⟨_, rfl, rfl⟩
  have n_index : ¬ w = [105, 110, 100, 101, 120] := of_decide_eq_false h
  clear h
  conv => whnf
  refine ⟨fun h => ?_, fun h => ?_⟩
  · have h : w = [110, 111, 105, 110, 100, 101, 120] := of_decide_eq_true h
    rw [show threeS w a b = (mNm (mT (m0 19) a) b, true) by unfold threeS; rw [if_neg n_out, if_neg n_in, if_neg n_type, if_neg n_notype, if_neg n_unique, if_neg n_exists, if_neg n_most, if_neg n_index, if_pos h]]
    conv => whnf
    exact ⟨_, rfl, rfl⟩
  have n_noindex : ¬ w = [110, 111, 105, 110, 100, 101, 120] := of_decide_eq_false h
  clear h
  conv => whnf
  rw [show threeS w a b = (MD.df, false) by unfold threeS; rw [if_neg n_out, if_neg n_in, if_neg n_type, if_neg n_notype, if_neg n_unique, if_neg n_exists, if_neg n_most, if_neg n_index, if_neg n_noindex]]
  exact ⟨_, rfl, rfl⟩
theorem ref_four (w a b c : List UInt8) (ha : a.length ≤ 100000) (hb : b.length ≤ 100000) (hc : c.length ≤ 100000) : FnD Tryz.prog 60 [.c (.str w), .c (.str a), .c (.str b), .c (.str c)] (· = .tup [(true, mc (fourS w a b c).1), (false, [.bool (.sym (fourS w a b c).2)])]) := by
  refine FnD_be (L := [(true, mc (fourS w a b c).1)]) ?_
  refine fn0 Tryz.func60 rfl rfl rfl ?_
  conv => whnf
  refine ⟨fun h => ?_, fun h => ?_⟩
  · have h : w = [101, 100, 103, 101] := of_decide_eq_true h
    rw [show fourS w a b c = (opM (oE (oF (oT (o0 3) a) (numR b)) (numR c)), decide (0 ≤ numR b) && decide (0 ≤ numR c)) by unfold fourS; rw [if_pos h]]
    conv => whnf
    refine call1 (ref_number b hb) rfl ?_
    conv => whnf
    refine call1 (ref_number c hc) rfl ?_
    conv => whnf
    refine call1 (ref_op (oE (oF (oT (o0 3) a) (numR b)) (numR c))) rfl ?_
    conv => whnf
    exact ⟨_, rfl, rfl⟩
  have n_edge : ¬ w = [101, 100, 103, 101] := of_decide_eq_false h
  clear h
  conv => whnf
  refine ⟨fun h => ?_, fun h => ?_⟩
  · have h : w = [115, 101, 116] := of_decide_eq_true h
    rw [show fourS w a b c = (opM (oVl (oN (oI (o0 5) (numR a)) b) (valR c).1), decide (0 ≤ numR a) && (valR c).2) by unfold fourS; rw [if_neg n_edge, if_pos h]]
    conv => whnf
    refine call1 (ref_number a ha) rfl ?_
    conv => whnf
    refine call1 (ref_Value c hc) rfl ?_
    conv => whnf
    refine any0 ?_
    conv => whnf
    refine callr0 (ref_op (oVl (oN (oI (o0 5) (numR a)) b) (valR c).1)) rfl ?_
    conv => whnf
    refine ⟨.inl (by kernel_rfl), after0 ?_⟩
    conv => whnf
    exact ⟨_, rfl, rfl⟩
  have n_set : ¬ w = [115, 101, 116] := of_decide_eq_false h
  clear h
  conv => whnf
  refine ⟨fun h => ?_, fun h => ?_⟩
  · have h : w = [102, 105, 110, 100] := of_decide_eq_true h
    rw [show fourS w a b c = (mVl (mNm (mT (m0 12) a) b) (valR c).1, (valR c).2) by unfold fourS; rw [if_neg n_edge, if_neg n_set, if_pos h]]
    conv => whnf
    refine call1 (ref_Value c hc) rfl ?_
    conv => whnf
    refine any0 ?_
    conv => whnf
    refine ⟨.inl (by kernel_rfl), after0 ?_⟩
    conv => whnf
    exact ⟨_, rfl, rfl⟩
  have n_find : ¬ w = [102, 105, 110, 100] := of_decide_eq_false h
  clear h
  conv => whnf
  refine ⟨fun h => ?_, fun h => ?_⟩
  · have h : w = [101, 110, 100, 115] := of_decide_eq_true h
    rw [show fourS w a b c = (ruM (rG (rF (rT (rule0 3) a) b) c), true) by unfold fourS; rw [if_neg n_edge, if_neg n_set, if_neg n_find, if_pos h]]
    conv => whnf
    refine call1 (ref_rule (rG (rF (rT (rule0 3) a) b) c)) rfl ?_
    conv => whnf
    exact ⟨_, rfl, rfl⟩
  have n_ends : ¬ w = [101, 110, 100, 115] := of_decide_eq_false h
  clear h
  conv => whnf
  rw [show fourS w a b c = (MD.df, false) by unfold fourS; rw [if_neg n_edge, if_neg n_set, if_neg n_find, if_neg n_ends]]
  exact ⟨_, rfl, rfl⟩
theorem ref_of (ws : List (List UInt8)) (hl : ∀ w ∈ ws, w.length ≤ 100000) : FnD Tryz.prog 25 [.c (.dat .str ws)] (· = .tup [(true, mc (ofR ws).1), (false, [.bool (.sym (ofR ws).2)])]) := by
  refine FnD_be (L := [(true, mc (ofR ws).1)]) ?_
  match ws, hl with
  | [], hl =>
    refine fn0 Tryz.func25 rfl rfl rfl ?_
    conv => whnf
    intro _
    conv => whnf
    refine fk rfl ?_
    conv => whnf
    refine fk rfl ?_
    conv => whnf
    refine fk rfl ?_
    conv => whnf
    refine fk rfl ?_
    conv => whnf
    intro _
    conv => whnf
    refine ⟨fun h => absurd (of_decide_eq_true h) (by decide), ?_⟩
    conv => whnf
    refine fk rfl ?_
    conv => whnf
    exact ⟨_, rfl, rfl⟩
  | [w], hl =>
    refine fn0 Tryz.func25 rfl rfl rfl ?_
    conv => whnf
    intro _
    conv => whnf
    refine tk rfl ?_
    conv => whnf
    intro _
    conv => whnf
    refine ⟨⟨by decide, by show (0 : Int) < 1; decide⟩, ?_⟩
    conv => whnf
    refine ⟨fun h => ?_, fun h => ?_⟩
    · have h : w = [98, 101, 103, 105, 110] := of_decide_eq_true h
      rw [show ofR [w] = (m0 1, true) by show (if w = _ then _ else _) = _; rw [if_pos h]]
      conv => whnf
      exact ⟨_, rfl, rfl⟩
    have n0 : ¬ w = [98, 101, 103, 105, 110] := of_decide_eq_false h
    clear h
    conv => whnf
    refine ⟨fun h => ?_, fun h => ?_⟩
    · have h : w = [99, 111, 109, 109, 105, 116] := of_decide_eq_true h
      rw [show ofR [w] = (m0 2, true) by show (if w = _ then _ else _) = _; rw [if_neg n0, if_pos h]]
      conv => whnf
      exact ⟨_, rfl, rfl⟩
    have n1 : ¬ w = [99, 111, 109, 109, 105, 116] := of_decide_eq_false h
    clear h
    conv => whnf
    refine ⟨fun h => ?_, fun h => ?_⟩
    · have h : w = [97, 98, 111, 114, 116] := of_decide_eq_true h
      rw [show ofR [w] = (m0 3, true) by show (if w = _ then _ else _) = _; rw [if_neg n0, if_neg n1, if_pos h]]
      conv => whnf
      exact ⟨_, rfl, rfl⟩
    have n2 : ¬ w = [97, 98, 111, 114, 116] := of_decide_eq_false h
    clear h
    conv => whnf
    refine ⟨fun h => ?_, fun h => ?_⟩
    · have h : w = [99, 97, 116, 97, 108, 111, 103] := of_decide_eq_true h
      rw [show ofR [w] = (m0 20, true) by show (if w = _ then _ else _) = _; rw [if_neg n0, if_neg n1, if_neg n2, if_pos h]]
      conv => whnf
      exact ⟨_, rfl, rfl⟩
    have n3 : ¬ w = [99, 97, 116, 97, 108, 111, 103] := of_decide_eq_false h
    clear h
    conv => whnf
    rw [show ofR [w] = (MD.df, false) by show (if w = _ then _ else _) = _; rw [if_neg n0, if_neg n1, if_neg n2, if_neg n3]]
    exact ⟨_, rfl, rfl⟩
  | [w, a], hl =>
    have ha := hl a (by simp)
    refine fn0 Tryz.func25 rfl rfl rfl ?_
    conv => whnf
    intro _
    conv => whnf
    refine fk rfl ?_
    conv => whnf
    refine tk rfl ?_
    conv => whnf
    refine any0 ?_
    conv => whnf
    refine ⟨⟨by decide, by show (0 : Int) < 2; decide⟩, ?_⟩
    conv => whnf
    refine ⟨⟨by decide, by show (1 : Int) < 2; decide⟩, ?_⟩
    conv => whnf
    refine callr0 (ref_two w a ha) rfl ?_
    conv => whnf
    refine ⟨.inl (by kernel_rfl), after0 ?_⟩
    conv => whnf
    exact ⟨_, rfl, rfl⟩
  | [w, a, b], hl =>
    have ha := hl a (by simp)
    have hb := hl b (by simp)
    refine fn0 Tryz.func25 rfl rfl rfl ?_
    conv => whnf
    intro _
    conv => whnf
    refine fk rfl ?_
    conv => whnf
    refine fk rfl ?_
    conv => whnf
    refine tk rfl ?_
    conv => whnf
    refine any0 ?_
    conv => whnf
    refine ⟨⟨by decide, by show (0 : Int) < 3; decide⟩, ?_⟩
    conv => whnf
    refine ⟨⟨by decide, by show (1 : Int) < 3; decide⟩, ?_⟩
    conv => whnf
    refine ⟨⟨by decide, by show (2 : Int) < 3; decide⟩, ?_⟩
    conv => whnf
    refine callr0 (ref_three w a b ha hb) rfl ?_
    conv => whnf
    refine ⟨.inl (by kernel_rfl), after0 ?_⟩
    conv => whnf
    exact ⟨_, rfl, rfl⟩
  | [w, a, b, c], hl =>
    have ha := hl a (by simp)
    have hb := hl b (by simp)
    have hc := hl c (by simp)
    refine fn0 Tryz.func25 rfl rfl rfl ?_
    conv => whnf
    intro _
    conv => whnf
    refine fk rfl ?_
    conv => whnf
    refine fk rfl ?_
    conv => whnf
    refine fk rfl ?_
    conv => whnf
    refine tk rfl ?_
    conv => whnf
    refine any0 ?_
    conv => whnf
    refine ⟨⟨by decide, by show (0 : Int) < 4; decide⟩, ?_⟩
    conv => whnf
    refine ⟨⟨by decide, by show (1 : Int) < 4; decide⟩, ?_⟩
    conv => whnf
    refine ⟨⟨by decide, by show (2 : Int) < 4; decide⟩, ?_⟩
    conv => whnf
    refine ⟨⟨by decide, by show (3 : Int) < 4; decide⟩, ?_⟩
    conv => whnf
    refine callr0 (ref_four w a b c ha hb hc) rfl ?_
    conv => whnf
    refine ⟨.inl (by kernel_rfl), after0 ?_⟩
    conv => whnf
    exact ⟨_, rfl, rfl⟩
  | [w, a, b, c, d], hl =>
    have hc := hl c (by simp)
    have hd := hl d (by simp)
    refine fn0 Tryz.func25 rfl rfl rfl ?_
    conv => whnf
    intro _
    conv => whnf
    refine fk rfl ?_
    conv => whnf
    refine fk rfl ?_
    conv => whnf
    refine fk rfl ?_
    conv => whnf
    refine fk rfl ?_
    conv => whnf
    intro _
    conv => whnf
    refine ⟨fun _ => ⟨by decide, by show (0 : Int) < 5; decide⟩, ?_⟩
    conv => whnf
    refine ⟨fun h => ?_, fun h => ?_⟩
    · have h : w = [114, 97, 110, 103, 101] := by
        rw [Bool.and_eq_true] at h
        exact of_decide_eq_true h.2
      rw [show ofR [w, a, b, c, d] = (mW (mVl (mNm (mT (m0 13) a) b) (valR c).1) (valR d).1, (valR c).2 && (valR d).2) from if_pos h]
      conv => whnf
      refine any0 ?_
      conv => whnf
      refine ⟨⟨by decide, by show (3 : Int) < 5; decide⟩, ?_⟩
      conv => whnf
      refine callr0 (ref_Value c hc) rfl ?_
      conv => whnf
      refine ⟨⟨by decide, by show (4 : Int) < 5; decide⟩, ?_⟩
      conv => whnf
      refine callr0 (ref_Value d hd) rfl ?_
      conv => whnf
      refine ⟨.inl (by kernel_rfl), after0 ?_⟩
      conv => whnf
      refine any0 ?_
      conv => whnf
      refine ⟨⟨by decide, by show (1 : Int) < 5; decide⟩, ?_⟩
      conv => whnf
      refine ⟨⟨by decide, by show (2 : Int) < 5; decide⟩, ?_⟩
      conv => whnf
      refine ⟨.inl (by kernel_rfl), after0 ?_⟩
      conv => whnf
      exact ⟨_, rfl, rfl⟩
    · have h : ¬ w = [114, 97, 110, 103, 101] := by
        rw [Bool.and_eq_false_iff] at h
        rcases h with h | h
        · exact absurd rfl (of_decide_eq_false h)
        · exact of_decide_eq_false h
      rw [show ofR [w, a, b, c, d] = (MD.df, false) from if_neg h]
      conv => whnf
      exact ⟨_, rfl, rfl⟩
  | w :: a :: b :: c :: d :: e :: r, hl =>
    have hn : ∀ k : Int, k ≤ 5 → ¬ (((w :: a :: b :: c :: d :: e :: r).length : Nat) : Int) = k := fun k hk => by
      simp only [List.length_cons]; omega
    refine fn0 Tryz.func25 rfl rfl rfl ?_
    conv => whnf
    intro _
    conv => whnf
    refine fk (decide_eq_false (hn 1 (by decide))) ?_
    conv => whnf
    refine fk (decide_eq_false (hn 2 (by decide))) ?_
    conv => whnf
    refine fk (decide_eq_false (hn 3 (by decide))) ?_
    conv => whnf
    refine fk (decide_eq_false (hn 4 (by decide))) ?_
    conv => whnf
    intro _
    conv => whnf
    refine ⟨fun h => absurd (of_decide_eq_true h) (hn 5 (by decide)), ?_⟩
    conv => whnf
    refine fk (by rw [decide_eq_false (hn 5 (by decide))]; rfl) ?_
    conv => whnf
    exact ⟨_, rfl, rfl⟩
theorem ref_Parse (line : List UInt8) (hl : line.length ≤ 100000) : FnD Tryz.prog 10 [.c (.str line)] (· = .tup [(true, mc (resM (finR (ofR (wordsL line))))), (false, [.int .i64 (resE (finR (ofR (wordsL line))))])]) := by
  obtain ⟨_, w2⟩ := words_len line
  refine fn0 Tryz.func10 rfl rfl rfl ?_
  conv => whnf
  refine call1 (ref_words line hl) rfl ?_
  conv => whnf
  refine call1 (ref_of (wordsL line) (fun w hw => Nat.le_trans (w2 w hw) hl)) rfl ?_
  conv => whnf
  refine callg0 (fun _ => ref24_Good (ofR (wordsL line)).1) rfl ?_
  conv => whnf
  generalize ofR (wordsL line) = p
  refine ⟨fun a => ?_, fun a => ?_⟩
  · have h : finR p = none := by
      unfold finR
      rw [if_neg]
      rintro ⟨h1, h2⟩
      rw [h1, h2] at a; cases a
    rw [h]
    conv => whnf
    rfl
  · have h : p.2 = true ∧ refgood p.1 = true := by
      cases h1 : p.2 <;> cases h2 : refgood p.1 <;> rw [h1, h2] at a <;> first | exact ⟨rfl, rfl⟩ | cases a
    rw [show finR p = some p.1 by unfold finR; rw [if_pos h]]
    conv => whnf
    rfl
end Go.Proofs.YtdhfipjfgigamaaGreatDoor.Con
set_option linter.unusedVariables false
set_option maxRecDepth 100000
namespace Go.Proofs.YtdhfipjfgigamaaGreatDoor.Con
open Go Go.RowKit Go.Lib OE

theorem row_ConsoleParses (line : List UInt8) (hs : line.length ≤ 140737488351232) :
    FnD Tryz.prog 3 [.c (.str line)] (· = .c (.bool (.sym true))) := by
  refine fn0 Tryz.func3 rfl rfl rfl ?_
  conv => whnf
  refine ⟨fun a => ?_, fun a => ?_⟩
  · conv => whnf
    refine call1 (console_wakes) rfl ?_
    conv => whnf
  have a : line.length ≤ 20000 := by have := of_decide_eq_false a; omega
  have h := ref_Parse line (by omega)
  rw [← parse_R] at h
  conv => whnf
  refine call1 (console_Parse line (by omega)) rfl ?_
  conv => whnf
  refine call1 (h) rfl ?_
  conv => whnf
  refine call1 (keep_Cmd (resM (parseS line)) (resM (parseS line))) rfl ?_
  conv => whnf
  refine callg0 (fun _ => console_wakes) rfl ?_
  conv => whnf
  rw [eq_same]
  simp
end Go.Proofs.YtdhfipjfgigamaaGreatDoor.Con
