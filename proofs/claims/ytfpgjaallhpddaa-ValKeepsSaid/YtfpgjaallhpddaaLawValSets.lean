/- The walk of the law ValSets. Own work. -/
import Derived.Test.YtfpgjaallhpddaaValWakes
import Derived.Test.YtfpgjaallhpddaaValRefSet
import Derived.Test.YtfpgjaallhpddaaRuleForm
set_option linter.unusedVariables false
set_option maxRecDepth 100000
namespace Go.Proofs.Ytfpgjaallhpddaa
open Go Go.RowKit OE

theorem props_len {l : List PD.T} (h : largeProps l = false) : l.length ≤ 60 := by
  simp only [largeProps, Bool.or_eq_false_iff, decide_eq_false_iff_not] at h; omega
theorem eqP_self (a : List PD.T) : eqL PD.eqb a a = true := (D.eqb_iff (.list PD) a a).2 rfl
theorem eqV_self (a : VD.T) : VD.eqb a a = true := (D.eqb_iff VD a a).2 rfl

theorem row_ValSets (l : List PD.T) (hl : Wf (.list PD) l) (n : List UInt8) (hn : n.length ≤ 140737488351232) (v : VD.T) (hv : Wf VD v) :
    FnD Try.prog 10 [.c (.dat PD l), .c (.str n), .agg (vc v)] (· = .c (.bool (.sym true))) := by
  refine fn0 Try.func10 rfl rfl rfl ?_
  conv => whnf
  refine call1 (keep_LargeProps l) rfl ?_
  conv => whnf
  refine callg0 (fun _ => keep_LargeValue v) rfl ?_
  conv => whnf
  refine ⟨fun h1 => ?_, fun h1 => ?_⟩
  · conv => whnf
    refine call1 (val_wakes) rfl ?_
    conv => whnf
  simp only [Bool.or_eq_false_iff] at h1
  have h1 := props_len h1.1.1
  conv => whnf
  refine call1 (val_few l (by omega)) rfl ?_
  conv => whnf
  refine call1 (val_Get l n) rfl ?_
  conv => whnf
  refine call1 (ref_Get l n) rfl ?_
  conv => whnf
  refine any0 ?_
  conv => whnf
  refine callr0 (val_Set l n v (by omega)) rfl ?_
  conv => whnf
  refine callr0 (refval_Set l n v (by omega)) rfl ?_
  conv => whnf
  refine callr0 (keep_Props (setP l n v) (setP l n v)) rfl ?_
  conv => whnf
  refine callrg0 (fun _ => keep_Value (getS l n).1 (getS l n).1) rfl ?_
  conv => whnf
  refine callrg0 (fun _ => keep_Props l l) rfl ?_
  conv => whnf
  refine callrg0 (fun _ => val_wakes) rfl ?_
  conv => whnf
  refine ⟨.inl (by kernel_rfl), after0 ?_⟩
  conv => whnf
  rw [eqP_self, eqP_self, eqV_self]
  simp
end Go.Proofs.Ytfpgjaallhpddaa
