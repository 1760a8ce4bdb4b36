/- The walks of the laws CatGoods, CatCodes and CatRules. Own work. -/
import Derived.Test.YthpllblcbbkfdaaCatWakes
set_option linter.unusedVariables false
set_option maxRecDepth 100000
namespace Go.Proofs.Ythpllblcbbkfdaa
open Go Go.RowKit OE

theorem eqC_same (c : CD.T) : CD.eqb c c = true := (D.eqb_iff CD c c).2 rfl
theorem row_CatGoods (c : CD.T) (hc : Wf CD c) :
    FnD Try.prog 8 [.agg (cc c)] (· = .c (.bool (.sym true))) := by
  refine fn0 Try.func8 rfl rfl rfl ?_
  conv => whnf
  refine call1 (keep_LargeCat c) rfl ?_
  conv => whnf
  refine ⟨fun h1 => ?_, fun h1 => ?_⟩
  · conv => whnf
    refine call1 (cat_wakes) rfl ?_
    conv => whnf
  obtain ⟨s1, s2, s3, s4⟩ := small_cat h1
  conv => whnf
  refine call1 (keep_CopyCat c s1 s2 s3 s4) rfl ?_
  conv => whnf
  refine any0 ?_
  conv => whnf
  refine callr0 (cat_Good c hc.2.2.1.2 s3) rfl ?_
  conv => whnf
  refine callr0 (ref16_Good c) rfl ?_
  conv => whnf
  refine callrg0 (fun _ => cat_Settle c hc s1 s2 s3 s4) rfl ?_
  conv => whnf
  refine callrg0 (fun _ => ref16_Settle c s1 s2 s3 s4) rfl ?_
  conv => whnf
  refine callrg0 (fun _ => keep_Cats (settleS c) (settleS c)) rfl ?_
  conv => whnf
  refine callrg0 (fun _ => keep_Cats c c) rfl ?_
  conv => whnf
  refine callrg0 (fun _ => cat_New) rfl ?_
  conv => whnf
  refine callrg0 (fun _ => ref16_New) rfl ?_
  conv => whnf
  refine callrg0 (fun _ => keep_Cats ([], [], [], [], 1) ([], [], [], [], 1)) rfl ?_
  conv => whnf
  refine callrg0 (fun _ => cat_wakes) rfl ?_
  conv => whnf
  refine ⟨.inl (by kernel_rfl), after0 ?_⟩
  conv => whnf
  rw [eqC_same, eqC_same, eqC_same]
  simp

theorem row_CatCodes (c : CD.T) (hc : Wf CD c) (s : List UInt8) (hs : s.length ≤ 140737488351232) :
    FnD Try.prog 9 [.agg (cc c), .c (.str s)] (· = .c (.bool (.sym true))) := by
  refine fn0 Try.func9 rfl rfl rfl ?_
  conv => whnf
  refine call1 (keep_LargeCat c) rfl ?_
  conv => whnf
  refine ⟨fun h1 => ?_, fun h1 => ?_⟩
  · conv => whnf
    refine call1 (cat_wakes) rfl ?_
    conv => whnf
  rw [Bool.or_eq_false_iff, decide_eq_false_iff_not] at h1
  obtain ⟨s1, s2, s3, s4⟩ := small_cat h1.1
  have hl : s.length ≤ 1000000 := by have := h1.2; omega
  conv => whnf
  refine call1 (keep_CopyCat c s1 s2 s3 s4) rfl ?_
  conv => whnf
  refine call1 (cat_Encode c hc s3) rfl ?_
  conv => whnf
  refine call1 (ref16_Encode c) rfl ?_
  conv => whnf
  refine call1 (cat_Decode s hl) rfl ?_
  conv => whnf
  refine call1 (ref16_Decode s hl) rfl ?_
  conv => whnf
  refine callg0 (fun _ => keep_Cats (decCS s) (decCS s)) rfl ?_
  conv => whnf
  refine callg0 (fun _ => cat_wakes) rfl ?_
  conv => whnf
  rw [eqC_same]
  simp

theorem row_CatRules (c : CD.T) (hc : Wf CD c) (r : RD.T) (hr : Wf RD r) (id : Int) (wi : (Lit.int .i64 id).wf = true) :
    FnD Try.prog 11 [.agg (cc c), .agg (rc r), .c (.int .i64 id)] (· = .c (.bool (.sym true))) := by
  refine fn0 Try.func11 rfl rfl rfl ?_
  conv => whnf
  refine call1 (keep_LargeCat c) rfl ?_
  conv => whnf
  refine callg0 (fun _ => keep_LargeRule r) rfl ?_
  conv => whnf
  refine ⟨fun h1 => ?_, fun h1 => ?_⟩
  · conv => whnf
    refine call1 (cat_wakes) rfl ?_
    conv => whnf
  rw [Bool.or_eq_false_iff] at h1
  obtain ⟨s1, s2, s3, s4⟩ := small_cat h1.1
  conv => whnf
  refine call1 (keep_CopyCat c s1 s2 s3 s4) rfl ?_
  conv => whnf
  refine call1 (cat_AddRule c r hc s1 s2 s3 s4) rfl ?_
  conv => whnf
  refine call1 (ref16_AddRule c r s1 s2 s3 s4) rfl ?_
  conv => whnf
  refine call1 (cat_Enable c id hc s1 s2 s3 s4) rfl ?_
  conv => whnf
  refine call1 (ref16_Enable c id s1 s2 s3 s4) rfl ?_
  conv => whnf
  refine call1 (cat_DropRule c id hc s1 s2 s3 s4) rfl ?_
  conv => whnf
  refine call1 (ref16_DropRule c id s1 s2 s3 s4) rfl ?_
  conv => whnf
  refine call1 (keep_Cats (addRS c r).1 (addRS c r).1) rfl ?_
  conv => whnf
  refine callg0 (fun _ => keep_Cats (enableS c id).1 (enableS c id).1) rfl ?_
  conv => whnf
  refine callg0 (fun _ => keep_Cats (dropRS c id).1 (dropRS c id).1) rfl ?_
  conv => whnf
  refine callg0 (fun _ => keep_Cats c c) rfl ?_
  conv => whnf
  refine callg0 (fun _ => cat_wakes) rfl ?_
  conv => whnf
  rw [eqC_same, eqC_same, eqC_same, eqC_same]
  simp
end Go.Proofs.Ythpllblcbbkfdaa
