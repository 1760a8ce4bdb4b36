/- The walks of the reference's Op, GoodOp, Good. Own work. -/
import Derived.Test.YtnldokebmfojeaaDoorWireWakes
set_option linter.unusedVariables false
set_option maxRecDepth 100000
namespace Go.Proofs.YtnldokebmfojeaaDoor
open Go Go.RowKit OE

def okId (n : Int) : Bool := decide (0 ≤ n) && decide (n ≤ 4611686018427387903)
def okVal (v : VD.T) : Bool := goodV v || blankV v
theorem ref24_id (n : Int) : FnD Tryd.prog 36 [.c (.int .i64 n)] (· = .c (.bool (.sym (okId n)))) := by
  refine fn0 Tryd.func36 rfl rfl rfl ?_
  conv => whnf
  rfl
theorem ref24_value (v : VD.T) : FnD Tryd.prog 38 [.agg (vc v)] (· = .c (.bool (.sym (okVal v)))) := by
  refine fn0 Tryd.func38 rfl rfl rfl ?_
  conv => whnf
  refine call1 (ref_Good v) rfl ?_
  conv => whnf
  refine callg0 (fun _ => ref_Blank v) rfl ?_
  conv => whnf
  rfl
def o0 (k : Int) : OD.T := (k, OD.df.2)
/-- of a change that has a form, just its fields -/
def opN (o : OD.T) : OD.T × Bool :=
  if (o.1 : Int) = 1 then (oT (o0 1) o.2.2.1, nameS o.2.2.1)
  else if (o.1 : Int) = 2 then (oC (oI (o0 2) o.2.1) o.2.2.2.2.2.2.2, okId o.2.1)
  else if (o.1 : Int) = 3 then (oE (oF (oT (o0 3) o.2.2.1) o.2.2.2.1) o.2.2.2.2.1, nameS o.2.2.1 && okId o.2.2.2.1 && okId o.2.2.2.2.1)
  else if (o.1 : Int) = 4 then (oI (o0 4) o.2.1, okId o.2.1)
  else if (o.1 : Int) = 5 then (oVl (oN (oI (o0 5) o.2.1) o.2.2.2.2.2.1) (oV o), okId o.2.1 && nameS o.2.2.2.2.2.1 && okVal (oV o))
  else (o0 o.1, false)
abbrev opR (p : OD.T × Bool) : SV := .tup [(true, oc p.1), (false, [.bool (.sym p.2)])]
theorem ref24_Op (o : OD.T) : FnD Tryd.prog 60 [.agg (oc o)] (· = opR (opN o)) := by
  obtain ⟨k, i, t, f, e, n, v, c⟩ := o
  refine fn0 Tryd.func60 rfl rfl rfl ?_
  conv => whnf
  refine ⟨fun a => ?_, fun a => ?_⟩
  · have a : k = 1 := of_decide_eq_true a
    subst a
    conv => whnf
    refine ⟨weaken (st := ⟨[(1, .c (.ptr 0 0)), (2, .c (.ptr 1 0)), (3, .c (.bool .ff)), (4, .c (.ptr 2 0))], [(0, .cells 25 (oc (1, i, t, f, e, n, v, c))), (1, .cells 25 (oc OD.df)), (2, .cells 25 (oc (oT (o0 1) t)))], 3⟩) ?_ (go0 ?_)⟩
    · (conv => whnf); refine ⟨rfl, ?_, ?_, ?_⟩ <;> (repeat' apply And.intro) <;> first | exact trivial | rfl | exact wr_succ _ (by omega) | assumption | exact decide_eq_false (by assumption) | exact decide_eq_true (by assumption)
    refine any0 ?_
    conv => whnf
    refine callr0 (ref_Name t) rfl ?_
    conv => whnf
    refine ⟨.inl (by kernel_rfl), after0 ?_⟩
    conv => whnf
    rfl
  have a1 : ¬ k = 1 := of_decide_eq_false a
  clear a
  conv => whnf
  refine ⟨fun a => ?_, fun a => ?_⟩
  · have a : k = 2 := of_decide_eq_true a
    subst a
    conv => whnf
    refine ⟨weaken (st := ⟨[(1, .c (.ptr 0 0)), (2, .c (.ptr 1 0)), (3, .c (.bool .ff)), (4, .c (.ptr 2 0))], [(0, .cells 25 (oc (2, i, t, f, e, n, v, c))), (1, .cells 25 (oc OD.df)), (2, .cells 25 (oc (o0 2)))], 3⟩) ?_ (go0 ?_)⟩
    · (conv => whnf); refine ⟨rfl, ?_, ?_, ?_⟩ <;> (repeat' apply And.intro) <;> first | exact trivial | rfl | exact wr_succ _ (by omega) | assumption | exact decide_eq_false (by assumption) | exact decide_eq_true (by assumption)
    refine any0 ?_
    conv => whnf
    refine ⟨.inl (by kernel_rfl), after0 ?_⟩
    conv => whnf
    refine any0 ?_
    conv => whnf
    refine callr0 (ref24_id i) rfl ?_
    conv => whnf
    refine ⟨.inl (by kernel_rfl), after0 ?_⟩
    conv => whnf
    rfl
  have a2 : ¬ k = 2 := of_decide_eq_false a
  clear a
  conv => whnf
  refine ⟨fun a => ?_, fun a => ?_⟩
  · have a : k = 3 := of_decide_eq_true a
    subst a
    conv => whnf
    refine ⟨weaken (st := ⟨[(1, .c (.ptr 0 0)), (2, .c (.ptr 1 0)), (3, .c (.bool .ff)), (4, .c (.ptr 2 0))], [(0, .cells 25 (oc (3, i, t, f, e, n, v, c))), (1, .cells 25 (oc OD.df)), (2, .cells 25 (oc (o0 3)))], 3⟩) ?_ (go0 ?_)⟩
    · (conv => whnf); refine ⟨rfl, ?_, ?_, ?_⟩ <;> (repeat' apply And.intro) <;> first | exact trivial | rfl | exact wr_succ _ (by omega) | assumption | exact decide_eq_false (by assumption) | exact decide_eq_true (by assumption)
    refine any0 ?_
    conv => whnf
    refine ⟨.inl (by kernel_rfl), after0 ?_⟩
    conv => whnf
    refine any0 ?_
    conv => whnf
    refine callr0 (ref_Name t) rfl ?_
    conv => whnf
    refine callrg0 (fun _ => ref24_id f) rfl ?_
    conv => whnf
    refine callrg0 (fun _ => ref24_id e) rfl ?_
    conv => whnf
    refine ⟨.inl (by kernel_rfl), after0 ?_⟩
    conv => whnf
    rfl
  have a3 : ¬ k = 3 := of_decide_eq_false a
  clear a
  conv => whnf
  refine ⟨fun a => ?_, fun a => ?_⟩
  · have a : k = 4 := of_decide_eq_true a
    subst a
    conv => whnf
    refine ⟨weaken (st := ⟨[(1, .c (.ptr 0 0)), (2, .c (.ptr 1 0)), (3, .c (.bool .ff)), (4, .c (.ptr 2 0))], [(0, .cells 25 (oc (4, i, t, f, e, n, v, c))), (1, .cells 25 (oc OD.df)), (2, .cells 25 (oc (oI (o0 4) i)))], 3⟩) ?_ (go0 ?_)⟩
    · (conv => whnf); refine ⟨rfl, ?_, ?_, ?_⟩ <;> (repeat' apply And.intro) <;> first | exact trivial | rfl | exact wr_succ _ (by omega) | assumption | exact decide_eq_false (by assumption) | exact decide_eq_true (by assumption)
    refine any0 ?_
    conv => whnf
    refine callr0 (ref24_id i) rfl ?_
    conv => whnf
    refine ⟨.inl (by kernel_rfl), after0 ?_⟩
    conv => whnf
    rfl
  have a4 : ¬ k = 4 := of_decide_eq_false a
  clear a
  conv => whnf
  refine ⟨fun a => ?_, fun a => ?_⟩
  · have a : k = 5 := of_decide_eq_true a
    subst a
    conv => whnf
    refine ⟨weaken (st := ⟨[(1, .c (.ptr 0 0)), (2, .c (.ptr 1 0)), (3, .c (.bool .ff)), (4, .c (.ptr 2 0))], [(0, .cells 25 (oc (5, i, t, f, e, n, v, c))), (1, .cells 25 (oc OD.df)), (2, .cells 25 (oc (o0 5)))], 3⟩) ?_ (go0 ?_)⟩
    · (conv => whnf); refine ⟨rfl, ?_, ?_, ?_⟩ <;> (repeat' apply And.intro) <;> first | exact trivial | rfl | exact wr_succ _ (by omega) | assumption | exact decide_eq_false (by assumption) | exact decide_eq_true (by assumption)
    refine any0 ?_
    conv => whnf
    refine ⟨.inl (by kernel_rfl), after0 ?_⟩
    conv => whnf
    refine any0 ?_
    conv => whnf
    refine callr0 (ref24_id i) rfl ?_
    conv => whnf
    refine callrg0 (fun _ => ref_Name n) rfl ?_
    conv => whnf
    refine callrg0 (fun _ => ref24_value v) rfl ?_
    conv => whnf
    refine ⟨.inl (by kernel_rfl), after0 ?_⟩
    conv => whnf
    rfl
  have a5 : ¬ k = 5 := of_decide_eq_false a
  rw [show opN (k, i, t, f, e, n, v, c) = (o0 k, false) by unfold opN; rw [if_neg a1, if_neg a2, if_neg a3, if_neg a4, if_neg a5]]
  conv => whnf
  rfl
def goodO (o : OD.T) : Bool := (opN o).2 && OD.eqb (opN o).1 o
theorem ref24_GoodOp (o : OD.T) : FnD Tryd.prog 35 [.agg (oc o)] (· = .c (.bool (.sym (goodO o)))) := by
  refine fn0 Tryd.func35 rfl rfl rfl ?_
  conv => whnf
  refine call1 (ref24_Op o) rfl ?_
  conv => whnf
  refine callg0 (fun _ => keep_Op (opN o).1 o) rfl ?_
  conv => whnf
  rfl
/-- of a command, just its kind's fields; whether they have a form -/
def cmN (m : MD.T) : MD.T × Bool :=
  if (m.1 : Int) = 1 ∨ (m.1 : Int) = 2 ∨ (m.1 : Int) = 3 ∨ (m.1 : Int) = 20 then (m0 m.1, true)
  else if (m.1 : Int) = 4 ∨ (m.1 : Int) = 5 then (mNm (m0 m.1) (mName m), nameS (mName m))
  else if (m.1 : Int) = 6 then (sO (m0 m.1) (mOp m), goodO (mOp m))
  else if (m.1 : Int) = 7 ∨ (m.1 : Int) = 8 then (mI (m0 m.1) m.2.1, okId m.2.1)
  else if (m.1 : Int) = 9 ∨ (m.1 : Int) = 10 then (mT (mI (m0 m.1) m.2.1) (mType m), okId m.2.1 && (decide (mType m = []) || nameS (mType m)))
  else if (m.1 : Int) = 11 then (mT (m0 m.1) (mType m), nameS (mType m))
  else if (m.1 : Int) = 12 then (mVl (mNm (mT (m0 m.1) (mType m)) (mName m)) (mV m), nameS (mType m) && nameS (mName m) && goodV (mV m))
  else if (m.1 : Int) = 13 then (mW (mVl (mNm (mT (m0 m.1) (mType m)) (mName m)) (mV m)) (mTo m), nameS (mType m) && nameS (mName m) && okVal (mV m) && okVal (mTo m))
  else if (m.1 : Int) = 14 ∨ (m.1 : Int) = 15 then (mM (mT (m0 m.1) (mType m)) (mN m), nameS (mType m) && (decide (mN m = 1) || decide (mN m = 2)))
  else if (m.1 : Int) = 16 then (mR (m0 m.1) (mRule m), formS (mRule m) && decide ((mRule m).1 = 0) && decide ((mRule m).2.2.2.2.2.2.2 = 0))
  else if (m.1 : Int) = 17 then (mM (m0 m.1) (mN m), decide (0 ≤ mN m) && decide (mN m ≤ 1000000))
  else if (m.1 : Int) = 18 ∨ (m.1 : Int) = 19 then (mNm (mT (m0 m.1) (mType m)) (mName m), nameS (mType m) && nameS (mName m))
  else (m0 m.1, false)
def refgood (m : MD.T) : Bool := (cmN m).2 && MD.eqb (cmN m).1 m
theorem ref24_Good (m : MD.T) : FnD Tryd.prog 15 [.agg (mc m)] (· = .c (.bool (.sym (refgood m)))) := by
  obtain ⟨k, i, t, n, v, w, N, o, r⟩ := m
  refine fn0 Tryd.func15 rfl rfl rfl ?_
  conv => whnf
  refine ⟨fun a => ?_, fun a => ?_⟩
  · have a : k = 1 := of_decide_eq_true a
    subst a
    conv => whnf
    refine call1 (keep_Cmd (m0 1) (1, i, t, n, v, w, N, o, r)) rfl ?_
    conv => whnf
    rfl
  have a1 : ¬ k = 1 := of_decide_eq_false a
  clear a
  conv => whnf
  refine ⟨fun a => ?_, fun a => ?_⟩
  · have a : k = 2 := of_decide_eq_true a
    subst a
    conv => whnf
    refine call1 (keep_Cmd (m0 2) (2, i, t, n, v, w, N, o, r)) rfl ?_
    conv => whnf
    rfl
  have a2 : ¬ k = 2 := of_decide_eq_false a
  clear a
  conv => whnf
  refine ⟨fun a => ?_, fun a => ?_⟩
  · have a : k = 3 := of_decide_eq_true a
    subst a
    conv => whnf
    refine call1 (keep_Cmd (m0 3) (3, i, t, n, v, w, N, o, r)) rfl ?_
    conv => whnf
    rfl
  have a3 : ¬ k = 3 := of_decide_eq_false a
  clear a
  conv => whnf
  refine ⟨fun a => ?_, fun a => ?_⟩
  · have a : k = 20 := of_decide_eq_true a
    subst a
    conv => whnf
    refine call1 (keep_Cmd (m0 20) (20, i, t, n, v, w, N, o, r)) rfl ?_
    conv => whnf
    rfl
  have a20 : ¬ k = 20 := of_decide_eq_false a
  clear a
  conv => whnf
  refine ⟨fun a => ?_, fun a => ?_⟩
  · have a : k = 4 := of_decide_eq_true a
    subst a
    conv => whnf
    refine call1 (ref_Name n) rfl ?_
    conv => whnf
    refine callg0 (fun _ => keep_Cmd (mNm (m0 4) n) (4, i, t, n, v, w, N, o, r)) rfl ?_
    conv => whnf
    rfl
  have a4 : ¬ k = 4 := of_decide_eq_false a
  clear a
  conv => whnf
  refine ⟨fun a => ?_, fun a => ?_⟩
  · have a : k = 5 := of_decide_eq_true a
    subst a
    conv => whnf
    refine call1 (ref_Name n) rfl ?_
    conv => whnf
    refine callg0 (fun _ => keep_Cmd (mNm (m0 5) n) (5, i, t, n, v, w, N, o, r)) rfl ?_
    conv => whnf
    rfl
  have a5 : ¬ k = 5 := of_decide_eq_false a
  clear a
  conv => whnf
  refine ⟨fun a => ?_, fun a => ?_⟩
  · have a : k = 6 := of_decide_eq_true a
    subst a
    conv => whnf
    refine call1 (ref24_GoodOp o) rfl ?_
    conv => whnf
    refine callg0 (fun _ => keep_Cmd (sO (m0 6) o) (6, i, t, n, v, w, N, o, r)) rfl ?_
    conv => whnf
    rfl
  have a6 : ¬ k = 6 := of_decide_eq_false a
  clear a
  conv => whnf
  refine ⟨fun a => ?_, fun a => ?_⟩
  · have a : k = 7 := of_decide_eq_true a
    subst a
    conv => whnf
    refine call1 (ref24_id i) rfl ?_
    conv => whnf
    refine callg0 (fun _ => keep_Cmd (mI (m0 7) i) (7, i, t, n, v, w, N, o, r)) rfl ?_
    conv => whnf
    rfl
  have a7 : ¬ k = 7 := of_decide_eq_false a
  clear a
  conv => whnf
  refine ⟨fun a => ?_, fun a => ?_⟩
  · have a : k = 8 := of_decide_eq_true a
    subst a
    conv => whnf
    refine call1 (ref24_id i) rfl ?_
    conv => whnf
    refine callg0 (fun _ => keep_Cmd (mI (m0 8) i) (8, i, t, n, v, w, N, o, r)) rfl ?_
    conv => whnf
    rfl
  have a8 : ¬ k = 8 := of_decide_eq_false a
  clear a
  conv => whnf
  refine ⟨fun a => ?_, fun a => ?_⟩
  · have a : k = 9 := of_decide_eq_true a
    subst a
    conv => whnf
    refine any0 ?_
    conv => whnf
    refine ⟨.inl (by kernel_rfl), after0 ?_⟩
    conv => whnf
    refine call1 (ref24_id i) rfl ?_
    conv => whnf
    refine callg0 (fun _ => ref_Name t) rfl ?_
    conv => whnf
    refine callg0 (fun _ => keep_Cmd (mT (mI (m0 9) i) t) (9, i, t, n, v, w, N, o, r)) rfl ?_
    conv => whnf
    rfl
  have a9 : ¬ k = 9 := of_decide_eq_false a
  clear a
  conv => whnf
  refine ⟨fun a => ?_, fun a => ?_⟩
  · have a : k = 10 := of_decide_eq_true a
    subst a
    conv => whnf
    refine any0 ?_
    conv => whnf
    refine ⟨.inl (by kernel_rfl), after0 ?_⟩
    conv => whnf
    refine call1 (ref24_id i) rfl ?_
    conv => whnf
    refine callg0 (fun _ => ref_Name t) rfl ?_
    conv => whnf
    refine callg0 (fun _ => keep_Cmd (mT (mI (m0 10) i) t) (10, i, t, n, v, w, N, o, r)) rfl ?_
    conv => whnf
    rfl
  have a10 : ¬ k = 10 := of_decide_eq_false a
  clear a
  conv => whnf
  refine ⟨fun a => ?_, fun a => ?_⟩
  · have a : k = 11 := of_decide_eq_true a
    subst a
    conv => whnf
    refine call1 (ref_Name t) rfl ?_
    conv => whnf
    refine callg0 (fun _ => keep_Cmd (mT (m0 11) t) (11, i, t, n, v, w, N, o, r)) rfl ?_
    conv => whnf
    rfl
  have a11 : ¬ k = 11 := of_decide_eq_false a
  clear a
  conv => whnf
  refine ⟨fun a => ?_, fun a => ?_⟩
  · have a : k = 12 := of_decide_eq_true a
    subst a
    conv => whnf
    refine any0 ?_
    conv => whnf
    refine ⟨.inl (by kernel_rfl), after0 ?_⟩
    conv => whnf
    refine call1 (ref_Name t) rfl ?_
    conv => whnf
    refine callg0 (fun _ => ref_Name n) rfl ?_
    conv => whnf
    refine callg0 (fun _ => ref_Good v) rfl ?_
    conv => whnf
    refine callg0 (fun _ => keep_Cmd (mVl (mNm (mT (m0 12) t) n) v) (12, i, t, n, v, w, N, o, r)) rfl ?_
    conv => whnf
    rfl
  have a12 : ¬ k = 12 := of_decide_eq_false a
  clear a
  conv => whnf
  refine ⟨fun a => ?_, fun a => ?_⟩
  · have a : k = 13 := of_decide_eq_true a
    subst a
    conv => whnf
    refine any0 ?_
    conv => whnf
    refine ⟨.inl (by kernel_rfl), after0 ?_⟩
    conv => whnf
    refine call1 (ref_Name t) rfl ?_
    conv => whnf
    refine callg0 (fun _ => ref_Name n) rfl ?_
    conv => whnf
    refine callg0 (fun _ => ref24_value v) rfl ?_
    conv => whnf
    refine callg0 (fun _ => ref24_value w) rfl ?_
    conv => whnf
    refine callg0 (fun _ => keep_Cmd (mW (mVl (mNm (mT (m0 13) t) n) v) w) (13, i, t, n, v, w, N, o, r)) rfl ?_
    conv => whnf
    rfl
  have a13 : ¬ k = 13 := of_decide_eq_false a
  clear a
  conv => whnf
  refine ⟨fun a => ?_, fun a => ?_⟩
  · have a : k = 14 := of_decide_eq_true a
    subst a
    conv => whnf
    refine any0 ?_
    conv => whnf
    refine ⟨.inl (by kernel_rfl), after0 ?_⟩
    conv => whnf
    refine call1 (ref_Name t) rfl ?_
    conv => whnf
    refine callg0 (fun _ => keep_Cmd (mM (mT (m0 14) t) N) (14, i, t, n, v, w, N, o, r)) rfl ?_
    conv => whnf
    rfl
  have a14 : ¬ k = 14 := of_decide_eq_false a
  clear a
  conv => whnf
  refine ⟨fun a => ?_, fun a => ?_⟩
  · have a : k = 15 := of_decide_eq_true a
    subst a
    conv => whnf
    refine any0 ?_
    conv => whnf
    refine ⟨.inl (by kernel_rfl), after0 ?_⟩
    conv => whnf
    refine call1 (ref_Name t) rfl ?_
    conv => whnf
    refine callg0 (fun _ => keep_Cmd (mM (mT (m0 15) t) N) (15, i, t, n, v, w, N, o, r)) rfl ?_
    conv => whnf
    rfl
  have a15 : ¬ k = 15 := of_decide_eq_false a
  clear a
  conv => whnf
  refine ⟨fun a => ?_, fun a => ?_⟩
  · have a : k = 16 := of_decide_eq_true a
    subst a
    conv => whnf
    refine call1 (ref_Form r) rfl ?_
    conv => whnf
    refine callg0 (fun _ => keep_Cmd (mR (m0 16) r) (16, i, t, n, v, w, N, o, r)) rfl ?_
    conv => whnf
    rfl
  have a16 : ¬ k = 16 := of_decide_eq_false a
  clear a
  conv => whnf
  refine ⟨fun a => ?_, fun a => ?_⟩
  · have a : k = 17 := of_decide_eq_true a
    subst a
    conv => whnf
    refine callg0 (fun _ => keep_Cmd (mM (m0 17) N) (17, i, t, n, v, w, N, o, r)) rfl ?_
    conv => whnf
    rfl
  have a17 : ¬ k = 17 := of_decide_eq_false a
  clear a
  conv => whnf
  refine ⟨fun a => ?_, fun a => ?_⟩
  · have a : k = 18 := of_decide_eq_true a
    subst a
    conv => whnf
    refine any0 ?_
    conv => whnf
    refine ⟨.inl (by kernel_rfl), after0 ?_⟩
    conv => whnf
    refine call1 (ref_Name t) rfl ?_
    conv => whnf
    refine callg0 (fun _ => ref_Name n) rfl ?_
    conv => whnf
    refine callg0 (fun _ => keep_Cmd (mNm (mT (m0 18) t) n) (18, i, t, n, v, w, N, o, r)) rfl ?_
    conv => whnf
    rfl
  have a18 : ¬ k = 18 := of_decide_eq_false a
  clear a
  conv => whnf
  refine ⟨fun a => ?_, fun a => ?_⟩
  · have a : k = 19 := of_decide_eq_true a
    subst a
    conv => whnf
    refine any0 ?_
    conv => whnf
    refine ⟨.inl (by kernel_rfl), after0 ?_⟩
    conv => whnf
    refine call1 (ref_Name t) rfl ?_
    conv => whnf
    refine callg0 (fun _ => ref_Name n) rfl ?_
    conv => whnf
    refine callg0 (fun _ => keep_Cmd (mNm (mT (m0 19) t) n) (19, i, t, n, v, w, N, o, r)) rfl ?_
    conv => whnf
    rfl
  have a19 : ¬ k = 19 := of_decide_eq_false a
  clear a
  conv => whnf
  rw [show refgood (k, i, t, n, v, w, N, o, r) = false by
    have : cmN (k, i, t, n, v, w, N, o, r) = (m0 k, false) := by simp [cmN, a1, a2, a3, a4, a5, a6, a7, a8, a9, a10, a11, a12, a13, a14, a15, a16, a17, a18, a19, a20]
    unfold refgood; rw [this]; rfl]
end Go.Proofs.YtnldokebmfojeaaDoor
