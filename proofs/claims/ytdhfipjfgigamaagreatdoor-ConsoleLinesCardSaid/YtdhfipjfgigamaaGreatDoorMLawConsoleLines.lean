/- The walk of the law ConsoleLines. Own work. -/
import Derived.Test.YtdhfipjfgigamaaGreatDoorPart8
/- The walks of the reference's text, Line. Printed by a program of the session (gencontext.py). Own work. -/
set_option linter.unusedVariables false
set_option maxRecDepth 100000
namespace Go.Proofs.YtdhfipjfgigamaaGreatDoor.Con
open Go Go.RowKit Go.Lib OE

def okK (v : VD.T) : Prop := (v.1 : Int) = 0 ∨ (v.1 : Int) = 1 ∨ (v.1 : Int) = 2 ∨ (v.1 : Int) = 3
theorem ok_kind {v : VD.T} (h : okVal v = true) : okK v := by
  obtain ⟨k, n, s⟩ := v
  unfold okVal at h
  rw [Bool.or_eq_true] at h
  rcases h with h | h
  · unfold goodV at h
    split at h
    · rename_i g; exact .inr (.inl g)
    · split at h
      · rename_i g; exact .inr (.inr (.inl g))
      · split at h
        · rename_i g; exact .inr (.inr (.inr g))
        · cases h
  · unfold blankV at h
    simp only [Bool.and_eq_true, decide_eq_true_eq] at h
    exact .inl h.1.1
theorem ref_Val' (v : VD.T) (hk : okK v) (hw : Wf VD v) (hs : v.2.2.length ≤ 10000) : FnD Tryz.prog 72 [.agg (vc v)] (· = .c (.str (wordV v))) := by
  have := ref_Val v (wf_i64 hw.2.1).1 (wf_i64 hw.2.1).2 (by omega)
  rw [refV_eq hk] at this
  exact this
theorem ref_text (m : MD.T) (h : ShM m) (hv : okK (mV m)) (ht : okK (mTo m)) (hov : okK (oV (mOp m))) : FnD Tryz.prog 36 [.agg (mc m)] (· = .c (.str (textR m))) := by
  obtain ⟨k, i, t, n, v, w, N, o, r⟩ := m
  obtain ⟨hw, h1, h2, h3, h4, h5, h6, h7, h8, h9, h10, h11⟩ := h
  have lv : (wordV v).length ≤ 20001 := wordV_len2 hw.2.2.2.2.1 h3
  have lw : (wordV w).length ≤ 20001 := wordV_len2 hw.2.2.2.2.2.1 h4
  have lov : (wordV (oV o)).length ≤ 20001 := wordV_len2 hw.2.2.2.2.2.2.2.1.2.2.2.2.2.2.1 h7
  obtain ⟨q, oi, ot, ofr, oe, on, ov, oc⟩ := o
  obtain ⟨ri, rk, rt, rn, rf, rg, rm, rs⟩ := r
  have h1 : t.length ≤ 20000 := h1
  have h2 : n.length ≤ 20000 := h2
  have h5 : ot.length ≤ 20000 := h5
  have h6 : on.length ≤ 20000 := h6
  have h8 : rt.length ≤ 20000 := h8
  have h9 : rn.length ≤ 20000 := h9
  have h10 : rf.length ≤ 20000 := h10
  have h11 : rg.length ≤ 20000 := h11
  have lov : (wordV ov).length ≤ 20001 := lov
  have wi := wf_i64 hw.2.1
  have wN := wf_i64 hw.2.2.2.2.2.2.1
  have woi := wf_i64 hw.2.2.2.2.2.2.2.1.2.1
  have wof := wf_i64 hw.2.2.2.2.2.2.2.1.2.2.2.1
  have woe := wf_i64 hw.2.2.2.2.2.2.2.1.2.2.2.2.1
  have wrm := wf_i64 hw.2.2.2.2.2.2.2.2.2.2.2.2.2.2.1
  have li : (itoa i).length ≤ 20 := itoa_len wi.1 wi.2
  have lN : (itoa N).length ≤ 20 := itoa_len wN.1 wN.2
  have loi : (itoa oi).length ≤ 20 := itoa_len woi.1 woi.2
  have lof : (itoa ofr).length ≤ 20 := itoa_len wof.1 wof.2
  have loe : (itoa oe).length ≤ 20 := itoa_len woe.1 woe.2
  have lrm : (itoa rm).length ≤ 20 := itoa_len wrm.1 wrm.2
  refine fn0 Tryz.func36 rfl rfl rfl ?_
  conv => whnf
  refine any0 ?_
  conv => whnf
  refine ⟨.inl (by kernel_rfl), after0 ?_⟩
  conv => whnf
  refine ⟨fun a => ?_, fun a => ?_⟩
  · have a : k = 1 := of_decide_eq_true a
    subst a
    conv => whnf
    rfl
  have k1 : ¬ k = 1 := of_decide_eq_false a
  clear a
  conv => whnf
  refine ⟨fun a => ?_, fun a => ?_⟩
  · have a : k = 2 := of_decide_eq_true a
    subst a
    conv => whnf
    rfl
  have k2 : ¬ k = 2 := of_decide_eq_false a
  clear a
  conv => whnf
  refine ⟨fun a => ?_, fun a => ?_⟩
  · have a : k = 3 := of_decide_eq_true a
    subst a
    conv => whnf
    rfl
  have k3 : ¬ k = 3 := of_decide_eq_false a
  clear a
  conv => whnf
  refine ⟨fun a => ?_, fun a => ?_⟩
  · have a : k = 20 := of_decide_eq_true a
    subst a
    conv => whnf
    rfl
  have k20 : ¬ k = 20 := of_decide_eq_false a
  clear a
  conv => whnf
  refine ⟨fun a => ?_, fun a => ?_⟩
  · have a : k = 4 := of_decide_eq_true a
    subst a
    conv => whnf
    refine ⟨by simp; omega, ?_⟩
    conv => whnf
    refine congrArg (fun l => SV.c (C.str l)) ?_
    show _ = (sp [115, 97, 118, 101] n)
    simp [sp]
  have k4 : ¬ k = 4 := of_decide_eq_false a
  clear a
  conv => whnf
  refine ⟨fun a => ?_, fun a => ?_⟩
  · have a : k = 5 := of_decide_eq_true a
    subst a
    conv => whnf
    refine ⟨by simp; omega, ?_⟩
    conv => whnf
    refine congrArg (fun l => SV.c (C.str l)) ?_
    show _ = (sp [98, 97, 99, 107] n)
    simp [sp]
  have k5 : ¬ k = 5 := of_decide_eq_false a
  clear a
  conv => whnf
  refine ⟨fun a => ?_, fun a => ?_⟩
  · have a : k = 7 := of_decide_eq_true a
    subst a
    conv => whnf
    refine call1 (ref_dec i wi.1 wi.2) rfl ?_
    conv => whnf
    refine ⟨by simp; omega, ?_⟩
    conv => whnf
    refine congrArg (fun l => SV.c (C.str l)) ?_
    show _ = (sp [103, 101, 116] (itoa i))
    simp [sp]
  have k7 : ¬ k = 7 := of_decide_eq_false a
  clear a
  conv => whnf
  refine ⟨fun a => ?_, fun a => ?_⟩
  · have a : k = 8 := of_decide_eq_true a
    subst a
    conv => whnf
    refine call1 (ref_dec i wi.1 wi.2) rfl ?_
    conv => whnf
    refine ⟨by simp; omega, ?_⟩
    conv => whnf
    refine congrArg (fun l => SV.c (C.str l)) ?_
    show _ = (sp [97, 114, 99] (itoa i))
    simp [sp]
  have k8 : ¬ k = 8 := of_decide_eq_false a
  clear a
  conv => whnf
  refine ⟨fun a => ?_, fun a => ?_⟩
  · have a : k = 9 := of_decide_eq_true a
    subst a
    conv => whnf
    refine fk rfl ?_
    conv => whnf
    refine ⟨fun b => ?_, fun b => ?_⟩
    · have b : t = [] := of_decide_eq_true b
      subst b
      conv => whnf
      refine call1 (ref_dec i wi.1 wi.2) rfl ?_
      conv => whnf
      refine ⟨by simp; omega, ?_⟩
      conv => whnf
      refine congrArg (fun l => SV.c (C.str l)) ?_
      show _ = (sp [111, 117, 116] (itoa i))
      simp [sp]
    · have b : ¬ t = [] := of_decide_eq_false b
      conv => whnf
      refine any0 ?_
      conv => whnf
      refine callr0 (ref_dec i wi.1 wi.2) rfl ?_
      conv => whnf
      refine ⟨by simp; omega, ?_⟩
      conv => whnf
      refine ⟨by simp; omega, ?_⟩
      conv => whnf
      refine ⟨by simp; omega, ?_⟩
      conv => whnf
      refine ⟨.inl (by kernel_rfl), after0 ?_⟩
      conv => whnf
      refine congrArg (fun l => SV.c (C.str l)) ?_
      show _ = (if t = [] then (sp [111, 117, 116] (itoa i)) else (sp [111, 117, 116] (sp (itoa i) t)))
      rw [if_neg b]
      simp [sp]
  have k9 : ¬ k = 9 := of_decide_eq_false a
  clear a
  conv => whnf
  refine ⟨fun a => ?_, fun a => ?_⟩
  · have a : k = 10 := of_decide_eq_true a
    subst a
    conv => whnf
    refine tk rfl ?_
    conv => whnf
    refine ⟨fun b => ?_, fun b => ?_⟩
    · have b : t = [] := of_decide_eq_true b
      subst b
      conv => whnf
      refine call1 (ref_dec i wi.1 wi.2) rfl ?_
      conv => whnf
      refine ⟨by simp; omega, ?_⟩
      conv => whnf
      refine congrArg (fun l => SV.c (C.str l)) ?_
      show _ = (sp [105, 110] (itoa i))
      simp [sp]
    · have b : ¬ t = [] := of_decide_eq_false b
      conv => whnf
      refine any0 ?_
      conv => whnf
      refine callr0 (ref_dec i wi.1 wi.2) rfl ?_
      conv => whnf
      refine ⟨by simp; omega, ?_⟩
      conv => whnf
      refine ⟨by simp; omega, ?_⟩
      conv => whnf
      refine ⟨by simp; omega, ?_⟩
      conv => whnf
      refine ⟨.inl (by kernel_rfl), after0 ?_⟩
      conv => whnf
      refine congrArg (fun l => SV.c (C.str l)) ?_
      show _ = (if t = [] then (sp [105, 110] (itoa i)) else (sp [105, 110] (sp (itoa i) t)))
      rw [if_neg b]
      simp [sp]
  have k10 : ¬ k = 10 := of_decide_eq_false a
  clear a
  conv => whnf
  refine ⟨fun a => ?_, fun a => ?_⟩
  · have a : k = 11 := of_decide_eq_true a
    subst a
    conv => whnf
    refine ⟨by simp; omega, ?_⟩
    conv => whnf
    refine congrArg (fun l => SV.c (C.str l)) ?_
    show _ = (sp [115, 99, 97, 110] t)
    simp [sp]
  have k11 : ¬ k = 11 := of_decide_eq_false a
  clear a
  conv => whnf
  refine ⟨fun a => ?_, fun a => ?_⟩
  · have a : k = 12 := of_decide_eq_true a
    subst a
    conv => whnf
    refine any0 ?_
    conv => whnf
    refine ⟨by simp; omega, ?_⟩
    conv => whnf
    refine ⟨by simp; omega, ?_⟩
    conv => whnf
    refine ⟨by simp; omega, ?_⟩
    conv => whnf
    refine ⟨by simp; omega, ?_⟩
    conv => whnf
    refine callr0 (ref_Val' v hv hw.2.2.2.2.1 h3) rfl ?_
    conv => whnf
    refine ⟨by simp; omega, ?_⟩
    conv => whnf
    refine ⟨.inl (by kernel_rfl), after0 ?_⟩
    conv => whnf
    refine congrArg (fun l => SV.c (C.str l)) ?_
    show _ = (sp [102, 105, 110, 100] (sp t (sp n (wordV v))))
    simp [sp]
  have k12 : ¬ k = 12 := of_decide_eq_false a
  clear a
  conv => whnf
  refine ⟨fun a => ?_, fun a => ?_⟩
  · have a : k = 13 := of_decide_eq_true a
    subst a
    conv => whnf
    refine any0 ?_
    conv => whnf
    refine ⟨by simp; omega, ?_⟩
    conv => whnf
    refine ⟨by simp; omega, ?_⟩
    conv => whnf
    refine ⟨by simp; omega, ?_⟩
    conv => whnf
    refine ⟨by simp; omega, ?_⟩
    conv => whnf
    refine callr0 (ref_Val' v hv hw.2.2.2.2.1 h3) rfl ?_
    conv => whnf
    refine ⟨by simp; omega, ?_⟩
    conv => whnf
    refine ⟨by simp; omega, ?_⟩
    conv => whnf
    refine callr0 (ref_Val' w ht hw.2.2.2.2.2.1 h4) rfl ?_
    conv => whnf
    refine ⟨by simp; omega, ?_⟩
    conv => whnf
    refine ⟨.inl (by kernel_rfl), after0 ?_⟩
    conv => whnf
    refine congrArg (fun l => SV.c (C.str l)) ?_
    show _ = (sp [114, 97, 110, 103, 101] (sp t (sp n (sp (wordV v) (wordV w)))))
    simp [sp]
  have k13 : ¬ k = 13 := of_decide_eq_false a
  clear a
  conv => whnf
  refine ⟨fun a => ?_, fun a => ?_⟩
  · have a : k = 14 := of_decide_eq_true a
    subst a
    conv => whnf
    refine any0 ?_
    conv => whnf
    refine ⟨by simp; omega, ?_⟩
    conv => whnf
    refine ⟨by simp; omega, ?_⟩
    conv => whnf
    refine callr0 (ref_dec N wN.1 wN.2) rfl ?_
    conv => whnf
    refine ⟨by simp; omega, ?_⟩
    conv => whnf
    refine ⟨.inl (by kernel_rfl), after0 ?_⟩
    conv => whnf
    refine congrArg (fun l => SV.c (C.str l)) ?_
    show _ = (sp [116, 121, 112, 101] (sp t (itoa N)))
    simp [sp]
  have k14 : ¬ k = 14 := of_decide_eq_false a
  clear a
  conv => whnf
  refine ⟨fun a => ?_, fun a => ?_⟩
  · have a : k = 15 := of_decide_eq_true a
    subst a
    conv => whnf
    refine any0 ?_
    conv => whnf
    refine ⟨by simp; omega, ?_⟩
    conv => whnf
    refine ⟨by simp; omega, ?_⟩
    conv => whnf
    refine callr0 (ref_dec N wN.1 wN.2) rfl ?_
    conv => whnf
    refine ⟨by simp; omega, ?_⟩
    conv => whnf
    refine ⟨.inl (by kernel_rfl), after0 ?_⟩
    conv => whnf
    refine congrArg (fun l => SV.c (C.str l)) ?_
    show _ = (sp [110, 111, 116, 121, 112, 101] (sp t (itoa N)))
    simp [sp]
  have k15 : ¬ k = 15 := of_decide_eq_false a
  clear a
  conv => whnf
  refine ⟨fun a => ?_, fun a => ?_⟩
  · have a : k = 17 := of_decide_eq_true a
    subst a
    conv => whnf
    refine call1 (ref_dec N wN.1 wN.2) rfl ?_
    conv => whnf
    refine ⟨by simp; omega, ?_⟩
    conv => whnf
    refine congrArg (fun l => SV.c (C.str l)) ?_
    show _ = (sp [110, 111, 114, 117, 108, 101] (itoa N))
    simp [sp]
  have k17 : ¬ k = 17 := of_decide_eq_false a
  clear a
  conv => whnf
  refine ⟨fun a => ?_, fun a => ?_⟩
  · have a : k = 18 := of_decide_eq_true a
    subst a
    conv => whnf
    refine ⟨by simp; omega, ?_⟩
    conv => whnf
    refine ⟨by simp; omega, ?_⟩
    conv => whnf
    refine ⟨by simp; omega, ?_⟩
    conv => whnf
    refine congrArg (fun l => SV.c (C.str l)) ?_
    show _ = (sp [105, 110, 100, 101, 120] (sp t n))
    simp [sp]
  have k18 : ¬ k = 18 := of_decide_eq_false a
  clear a
  conv => whnf
  refine ⟨fun a => ?_, fun a => ?_⟩
  · have a : k = 19 := of_decide_eq_true a
    subst a
    conv => whnf
    refine ⟨by simp; omega, ?_⟩
    conv => whnf
    refine ⟨by simp; omega, ?_⟩
    conv => whnf
    refine ⟨by simp; omega, ?_⟩
    conv => whnf
    refine congrArg (fun l => SV.c (C.str l)) ?_
    show _ = (sp [110, 111, 105, 110, 100, 101, 120] (sp t n))
    simp [sp]
  have k19 : ¬ k = 19 := of_decide_eq_false a
  clear a
  conv => whnf
  refine ⟨fun a => ?_, fun a => ?_⟩
  · have a : k = 16 := of_decide_eq_true a
    subst a
    conv => whnf
    refine ⟨fun a => ?_, fun a => ?_⟩
    · have a : rk = 1 := of_decide_eq_true a
      subst a
      conv => whnf
      refine ⟨by simp; omega, ?_⟩
      conv => whnf
      refine ⟨by simp; omega, ?_⟩
      conv => whnf
      refine ⟨by simp; omega, ?_⟩
      conv => whnf
      refine congrArg (fun l => SV.c (C.str l)) ?_
      show _ = (sp [117, 110, 105, 113, 117, 101] (sp rt rn))
      simp [sp]
    have rk1 : ¬ rk = 1 := of_decide_eq_false a
    clear a
    conv => whnf
    refine ⟨fun a => ?_, fun a => ?_⟩
    · have a : rk = 2 := of_decide_eq_true a
      subst a
      conv => whnf
      refine ⟨by simp; omega, ?_⟩
      conv => whnf
      refine ⟨by simp; omega, ?_⟩
      conv => whnf
      refine ⟨by simp; omega, ?_⟩
      conv => whnf
      refine congrArg (fun l => SV.c (C.str l)) ?_
      show _ = (sp [101, 120, 105, 115, 116, 115] (sp rt rn))
      simp [sp]
    have rk2 : ¬ rk = 2 := of_decide_eq_false a
    clear a
    conv => whnf
    refine ⟨fun a => ?_, fun a => ?_⟩
    · have a : rk = 3 := of_decide_eq_true a
      subst a
      conv => whnf
      refine ⟨by simp; omega, ?_⟩
      conv => whnf
      refine ⟨by simp; omega, ?_⟩
      conv => whnf
      refine ⟨by simp; omega, ?_⟩
      conv => whnf
      refine ⟨by simp; omega, ?_⟩
      conv => whnf
      refine ⟨by simp; omega, ?_⟩
      conv => whnf
      refine congrArg (fun l => SV.c (C.str l)) ?_
      show _ = (sp [101, 110, 100, 115] (sp rt (sp rf rg)))
      simp [sp]
    have rk3 : ¬ rk = 3 := of_decide_eq_false a
    clear a
    conv => whnf
    refine any0 ?_
    conv => whnf
    refine ⟨by simp; omega, ?_⟩
    conv => whnf
    refine ⟨by simp; omega, ?_⟩
    conv => whnf
    refine callr0 (ref_dec rm wrm.1 wrm.2) rfl ?_
    conv => whnf
    refine ⟨by simp; omega, ?_⟩
    conv => whnf
    refine ⟨.inl (by kernel_rfl), after0 ?_⟩
    conv => whnf
    refine congrArg (fun l => SV.c (C.str l)) ?_
    show _ = textRu (ri, rk, rt, rn, rf, rg, rm, rs)
    unfold textRu
    rw [if_neg rk1, if_neg rk2, if_neg rk3]
    simp [sp]
  have k16 : ¬ k = 16 := of_decide_eq_false a
  clear a
  conv => whnf
  have e : textR (k, i, t, n, v, w, N, (q, oi, ot, ofr, oe, on, ov, oc), ri, rk, rt, rn, rf, rg, rm, rs) = textO (q, oi, ot, ofr, oe, on, ov, oc) := by
    unfold textR
    rw [if_neg k1, if_neg k2, if_neg k3, if_neg k20, if_neg k4, if_neg k5, if_neg k7, if_neg k8, if_neg k9, if_neg k10, if_neg k11, if_neg k12, if_neg k13, if_neg k14, if_neg k15, if_neg k17, if_neg k18, if_neg k19, if_neg k16]; rfl
  rw [e]
  conv => whnf
  refine ⟨fun a => ?_, fun a => ?_⟩
  · have a : q = 1 := of_decide_eq_true a
    subst a
    conv => whnf
    refine ⟨by simp; omega, ?_⟩
    conv => whnf
    refine congrArg (fun l => SV.c (C.str l)) ?_
    show _ = (sp [110, 111, 100, 101] ot)
    simp [sp]
  have q1 : ¬ q = 1 := of_decide_eq_false a
  clear a
  conv => whnf
  refine ⟨fun a => ?_, fun a => ?_⟩
  · have a : q = 2 := of_decide_eq_true a
    subst a
    conv => whnf
    refine ⟨fun b => ?_, fun b => ?_⟩
    · have b : oc = true := b
      subst b
      conv => whnf
      refine call1 (ref_dec oi woi.1 woi.2) rfl ?_
      conv => whnf
      refine ⟨by simp; omega, ?_⟩
      conv => whnf
      refine congrArg (fun l => SV.c (C.str l)) ?_
      show _ = (sp [99, 97, 115, 99, 97, 100, 101] (itoa oi))
      simp [sp]
    · have b : oc = false := b
      subst b
      conv => whnf
      refine call1 (ref_dec oi woi.1 woi.2) rfl ?_
      conv => whnf
      refine ⟨by simp; omega, ?_⟩
      conv => whnf
      refine congrArg (fun l => SV.c (C.str l)) ?_
      show _ = (sp [100, 114, 111, 112] (itoa oi))
      simp [sp]
  have q2 : ¬ q = 2 := of_decide_eq_false a
  clear a
  conv => whnf
  refine ⟨fun a => ?_, fun a => ?_⟩
  · have a : q = 3 := of_decide_eq_true a
    subst a
    conv => whnf
    refine any0 ?_
    conv => whnf
    refine ⟨by simp; omega, ?_⟩
    conv => whnf
    refine ⟨by simp; omega, ?_⟩
    conv => whnf
    refine callr0 (ref_dec ofr wof.1 wof.2) rfl ?_
    conv => whnf
    refine ⟨by simp; omega, ?_⟩
    conv => whnf
    refine ⟨by simp; omega, ?_⟩
    conv => whnf
    refine callr0 (ref_dec oe woe.1 woe.2) rfl ?_
    conv => whnf
    refine ⟨by simp; omega, ?_⟩
    conv => whnf
    refine ⟨.inl (by kernel_rfl), after0 ?_⟩
    conv => whnf
    refine congrArg (fun l => SV.c (C.str l)) ?_
    show _ = (sp [101, 100, 103, 101] (sp ot (sp (itoa ofr) (itoa oe))))
    simp [sp]
  have q3 : ¬ q = 3 := of_decide_eq_false a
  clear a
  conv => whnf
  refine ⟨fun a => ?_, fun a => ?_⟩
  · have a : q = 4 := of_decide_eq_true a
    subst a
    conv => whnf
    refine call1 (ref_dec oi woi.1 woi.2) rfl ?_
    conv => whnf
    refine ⟨by simp; omega, ?_⟩
    conv => whnf
    refine congrArg (fun l => SV.c (C.str l)) ?_
    show _ = (sp [99, 117, 116] (itoa oi))
    simp [sp]
  have q4 : ¬ q = 4 := of_decide_eq_false a
  clear a
  conv => whnf
  refine any0 ?_
  conv => whnf
  refine callr0 (ref_dec oi woi.1 woi.2) rfl ?_
  conv => whnf
  refine ⟨by simp; omega, ?_⟩
  conv => whnf
  refine ⟨by simp; omega, ?_⟩
  conv => whnf
  refine ⟨by simp; omega, ?_⟩
  conv => whnf
  refine ⟨by simp; omega, ?_⟩
  conv => whnf
  refine callr0 (ref_Val' ov hov hw.2.2.2.2.2.2.2.1.2.2.2.2.2.2.1 h7) rfl ?_
  conv => whnf
  refine ⟨by simp; omega, ?_⟩
  conv => whnf
  refine ⟨.inl (by kernel_rfl), after0 ?_⟩
  conv => whnf
  refine congrArg (fun l => SV.c (C.str l)) ?_
  show _ = textO (q, oi, ot, ofr, oe, on, ov, oc)
  unfold textO
  rw [if_neg q1, if_neg q2, if_neg q3, if_neg q4]
  simp [sp, oV]
def GVp (p : MD.T × Bool) : Prop := p.2 = true → okVal (mV p.1) = true ∧ okVal (mTo p.1) = true ∧ okVal (oV (mOp p.1)) = true
def GOp (p : OD.T × Bool) : Prop := p.2 = true → okVal (oV p.1) = true
theorem ite_gv {c : Prop} [Decidable c] {a b : MD.T × Bool} (ha : GVp a) (hb : GVp b) : GVp (if c then a else b) := by
  split <;> assumption
theorem ite_go {c : Prop} [Decidable c] {a b : OD.T × Bool} (ha : GOp a) (hb : GOp b) : GOp (if c then a else b) := by
  split <;> assumption
theorem opN_v (o : OD.T) : GOp (opN o) := by
  have b0 : okVal ((0, 0, []) : VD.T) = true := rfl
  unfold opN
  refine ite_go (fun _ => b0) (ite_go (fun _ => b0) (ite_go (fun _ => b0) (ite_go (fun _ => b0) (ite_go (fun g => ?_) (fun _ => b0)))))
  have g : (okId o.2.1 && nameS o.2.2.2.2.2.1 && okVal (oV o)) = true := g
  rw [Bool.and_eq_true] at g
  exact g.2
/-- of a good command, the values are values -/
theorem good_vals {m : MD.T} (h : refgood m = true) : okVal (mV m) = true ∧ okVal (mTo m) = true ∧ okVal (oV (mOp m)) = true := by
  obtain ⟨g1, g2⟩ := good_cmN h
  have b0 : okVal ((0, 0, []) : VD.T) = true := rfl
  have z : okVal ((0, 0, []) : VD.T) = true ∧ okVal ((0, 0, []) : VD.T) = true ∧ okVal ((0, 0, []) : VD.T) = true := ⟨b0, b0, b0⟩
  have key : GVp (cmN m) := by
    unfold cmN
    refine ite_gv (fun _ => z) (ite_gv (fun _ => z) (ite_gv (fun g => ?_) (ite_gv (fun _ => z) (ite_gv (fun _ => z) (ite_gv (fun _ => z) (ite_gv (fun g => ?_) (ite_gv (fun g => ?_) (ite_gv (fun _ => z) (ite_gv (fun _ => z) (ite_gv (fun _ => z) (ite_gv (fun _ => z) (fun _ => z))))))))))))
    · obtain ⟨p1, p2⟩ := good_opN g
      refine ⟨b0, b0, ?_⟩
      have := opN_v (mOp m) p1
      rw [p2] at this
      exact this
    · have g : (nameS (mType m) && nameS (mName m) && goodV (mV m)) = true := g
      rw [Bool.and_eq_true] at g
      exact ⟨val_ok g.2, b0, b0⟩
    · have g : (nameS (mType m) && nameS (mName m) && okVal (mV m) && okVal (mTo m)) = true := g
      rw [Bool.and_eq_true, Bool.and_eq_true] at g
      exact ⟨g.1.2, g.2, b0⟩
  have key := key g1
  rw [g2] at key
  exact key
theorem ref_Line (m : MD.T) (h : ShM m) : FnD Tryz.prog 14 [.agg (mc m)] (· = .tup [(false, [.str (linL m)]), (false, [.int .i64 (linE m)])]) := by
  unfold linL linE
  rw [line_R h.sm]
  refine fn0 Tryz.func14 rfl rfl rfl ?_
  conv => whnf
  refine call1 (ref24_Good m) rfl ?_
  conv => whnf
  refine ⟨fun a => ?_, fun a => ?_⟩
  · have a : refgood m = false := by
      cases hg : refgood m with
      | false => rfl
      | true => rw [hg] at a; cases a
    rw [a]
    conv => whnf
    rfl
  · have a : refgood m = true := by
      cases hg : refgood m with
      | true => rfl
      | false => rw [hg] at a; cases a
    obtain ⟨v1, v2, v3⟩ := good_vals a
    rw [a]
    conv => whnf
    refine call1 (ref_text m h (ok_kind v1) (ok_kind v2) (ok_kind v3)) rfl ?_
    conv => whnf
    rfl
end Go.Proofs.YtdhfipjfgigamaaGreatDoor.Con
set_option linter.unusedVariables false
set_option maxRecDepth 100000
namespace Go.Proofs.YtdhfipjfgigamaaGreatDoor.Con
open Go Go.RowKit Go.Lib OE

theorem row_ConsoleLines (m : MD.T) (hm : Wf MD m) :
    FnD Tryz.prog 4 [.agg (mc m)] (· = .c (.bool (.sym true))) := by
  refine fn0 Tryz.func4 rfl rfl rfl ?_
  conv => whnf
  refine call1 (keep_LargeCmd m) rfl ?_
  conv => whnf
  refine ⟨fun a => ?_, fun a => ?_⟩
  · conv => whnf
    refine call1 (console_wakes) rfl ?_
    conv => whnf
  have hsh := sh_cmd hm a
  conv => whnf
  refine call1 (console_Line m hsh.wr (lineX_len hsh)) rfl ?_
  conv => whnf
  refine call1 (ref_Line m hsh) rfl ?_
  conv => whnf
  refine callg0 (fun _ => console_wakes) rfl ?_
  conv => whnf
  simp
end Go.Proofs.YtdhfipjfgigamaaGreatDoor.Con
