/- The walk of the law ValProps. Own work. -/
import Derived.Test.YtfpgjaallhpddaaValDecPropsR
import Derived.Test.YtfpgjaallhpddaaLawValSets
set_option linter.unusedVariables false
set_option maxRecDepth 100000
namespace Go.Proofs.Ytfpgjaallhpddaa
open Go Go.RowKit OE

theorem row_ValProps (l : List PD.T) (hl : Wf (.list PD) l) (s : List UInt8) (hs : s.length ≤ 140737488351232) (k : Int) (wk : (Lit.int .i64 k).wf = true) :
    FnD Try.prog 14 [.c (.dat PD l), .c (.str s), .c (.int .i64 k)] (· = .c (.bool (.sym true))) := by
  refine fn0 Try.func14 rfl rfl rfl ?_
  conv => whnf
  refine call1 (keep_LargeProps l) rfl ?_
  conv => whnf
  refine ⟨fun h1 => ?_, fun h1 => ?_⟩
  · conv => whnf
    refine call1 (val_wakes) rfl ?_
    conv => whnf
  simp only [Bool.or_eq_false_iff, decide_eq_false_iff_not] at h1
  have h2 := props_len h1.1
  have h1 : s.length ≤ 1000000 := by omega
  conv => whnf
  refine call1 (val_few l (by omega)) rfl ?_
  conv => whnf
  refine call1 (val_EncodeProps l hl) rfl ?_
  conv => whnf
  refine call1 (refval_EncodeProps l hl) rfl ?_
  conv => whnf
  refine call1 (val_DecodeProps s k h1) rfl ?_
  conv => whnf
  refine call1 (refval_DecodeProps s k h1) rfl ?_
  conv => whnf
  refine call1 (val_Props l (fun p hp => (hl.2 p hp).2.1)) rfl ?_
  conv => whnf
  refine call1 (refval_Props l) rfl ?_
  conv => whnf
  refine callg0 (fun _ => keep_Props ((decPs s k).getD ([], 0)).1 ((decPs s k).getD ([], 0)).1) rfl ?_
  conv => whnf
  refine callg0 (fun _ => keep_Props l l) rfl ?_
  conv => whnf
  refine callg0 (fun _ => val_wakes) rfl ?_
  conv => whnf
  rw [eqP_self, eqP_self]
  simp
end Go.Proofs.Ytfpgjaallhpddaa
