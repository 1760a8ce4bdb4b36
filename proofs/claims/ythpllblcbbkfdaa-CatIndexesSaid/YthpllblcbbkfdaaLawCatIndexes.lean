/- The walk of the law CatIndexes. Own work. -/
import Derived.Test.YthpllblcbbkfdaaCatRefIndex
import Derived.Test.YthpllblcbbkfdaaLawCatGoods
set_option linter.unusedVariables false
set_option maxRecDepth 100000
namespace Go.Proofs.Ythpllblcbbkfdaa
open Go Go.RowKit OE

theorem row_CatIndexes (c : CD.T) (hc : Wf CD c) (x : ID.T) (hx : Wf ID x) :
    FnD Try.prog 13 [.agg (cc c), .agg (ic x)] (· = .c (.bool (.sym true))) := by
  refine fn0 Try.func13 rfl rfl rfl ?_
  conv => whnf
  refine call1 (keep_LargeCat c) rfl ?_
  conv => whnf
  refine ⟨fun h1 => ?_, fun h1 => ?_⟩
  · conv => whnf
    refine call1 (cat_wakes) rfl ?_
    conv => whnf
  rw [Bool.or_eq_false_iff, Bool.or_eq_false_iff] at h1
  obtain ⟨s1, s2, s3, s4⟩ := small_cat h1.1.1
  conv => whnf
  refine call1 (keep_CopyCat c s1 s2 s3 s4) rfl ?_
  conv => whnf
  refine call1 (cat_AddIndex c x hc s1 s2 s3 s4) rfl ?_
  conv => whnf
  refine call1 (ref16_AddIndex c x s1 s2 s3 s4) rfl ?_
  conv => whnf
  refine call1 (cat_DropIndex c x hc s1 s2 s3 s4) rfl ?_
  conv => whnf
  refine call1 (ref16_DropIndex c x s1 s2 s3 s4) rfl ?_
  conv => whnf
  refine call1 (keep_Cats (addIS c x).1 (addIS c x).1) rfl ?_
  conv => whnf
  refine callg0 (fun _ => keep_Cats (dropIS c x).1 (dropIS c x).1) rfl ?_
  conv => whnf
  refine callg0 (fun _ => keep_Cats c c) rfl ?_
  conv => whnf
  refine callg0 (fun _ => cat_wakes) rfl ?_
  conv => whnf
  rw [eqC_same, eqC_same, eqC_same]
  simp
end Go.Proofs.Ythpllblcbbkfdaa
