/- The walk of the law ValKeeps. Own work. -/
import Derived.Test.YtfpgjaallhpddaaValSorted
import Derived.Test.YtfpgjaallhpddaaLawValTurns
import Derived.Test.YtfpgjaallhpddaaLawValSets
set_option linter.unusedVariables false
set_option maxRecDepth 100000
namespace Go.Proofs.Ytfpgjaallhpddaa
open Go Go.RowKit OE

theorem set_mem {l : List PD.T} {n : List UInt8} {v : VD.T} {p : PD.T} (h0 : v.1 ≠ 0) (h : p ∈ setP l n v) : p ∈ l ∨ p = (n, v) := by
  rw [setP_ins h0] at h
  rcases insP_mem h with h | h
  · exact .inl (outP_mem h).1
  · exact .inr h

theorem row_ValKeeps (l : List PD.T) (hl : Wf (.list PD) l) (ns : ND2.T) (hn : Wf ND2 ns) (v : VD.T) (hv : Wf VD v) :
    FnD Try.prog 11 [.c (.dat PD l), .agg [.str ns.1, .str ns.2], .agg (vc v)] (· = .c (.bool (.sym true))) := by
  have eqV : ∀ x : VD.T, VD.eqb x x = true := fun x => (D.eqb_iff VD x x).2 rfl
  obtain ⟨n, m⟩ := ns
  dsimp only
  refine fn0 Try.func11 rfl rfl rfl ?_
  conv => whnf
  refine any0 ?_
  conv => whnf
  refine ⟨.inl (by kernel_rfl), after0 ?_⟩
  conv => whnf
  refine call1 (keep_LargeProps l) rfl ?_
  conv => whnf
  refine callg0 (fun _ => keep_LargeValue v) rfl ?_
  conv => whnf
  refine callg0 (fun _ => refval_Props l) rfl ?_
  conv => whnf
  refine callg0 (fun _ => ref_Name n) rfl ?_
  conv => whnf
  refine callg0 (fun _ => ref_Good v) rfl ?_
  conv => whnf
  refine ⟨fun h1 => ?_, fun h1 => ?_⟩
  · conv => whnf
    refine call1 (val_wakes) rfl ?_
    conv => whnf
  simp only [Bool.or_eq_false_iff, Bool.not_eq_eq_eq_not] at h1
  have hg : goodV v = true := by simpa using h1.2
  have hnm : nameS n = true := by simpa using h1.1.2
  have hP := props_iff.1 (show propsS l = true by simpa using h1.1.1.2)
  have gv : v.1 ≠ 0 := good_kind hg
  have hlen := set_len (l := l) (n := n) (v := v) gv
  have hkG := set_good hP.2 hnm hg gv
  have hkw : ∀ p ∈ setP l n v, (Lit.int .i64 p.2.1).wf = true := fun p hp => by
    rcases set_mem gv hp with h | rfl
    · exact (hl.2 p h).2.1
    · exact hv.1
  have hog := out_good hP.2 n
  have hol := out_len l n
  have how : ∀ p ∈ outP l n, (Lit.int .i64 p.2.1).wf = true := fun p hp => (hl.2 p (outP_mem hp).1).2.1
  conv => whnf
  refine any0 ?_
  conv => whnf
  refine callr0 (val_few l (by omega)) rfl ?_
  conv => whnf
  refine callr0 (val_Set l n v (by omega)) rfl ?_
  conv => whnf
  refine ⟨.inl (by kernel_rfl), after0 ?_⟩
  conv => whnf
  refine call1 (val_Get (setP l n v) n) rfl ?_
  conv => whnf
  rw [set_get gv]
  refine callg0 (fun _ => keep_Value v v) rfl ?_
  conv => whnf
  intro _
  conv => whnf
  refine callg0 (fun _ => val_Props (setP l n v) hkw) rfl ?_
  conv => whnf
  rw [eqV v]
  refine fk (by
    by_cases h8 : (setP l n v).length ≤ 8
    · rw [props_iff.2 ⟨h8, hkG⟩]; simp
    · simp; omega) ?_
  conv => whnf
  refine ⟨fun h2 => ?_, fun h2 => ?_⟩
  · conv => whnf
    refine call1 (val_Get l m) rfl ?_
    conv => whnf
    refine call1 (val_Get (setP l n v) m) rfl ?_
    conv => whnf
    rw [set_get' gv (by simpa using h2)]
    refine callg0 (fun _ => keep_Value (getS l m).1 (getS l m).1) rfl ?_
    conv => whnf
    rw [eqV (getS l m).1]
    refine fk (by simp) ?_
    conv => whnf
    refine call1 (val_Set (setP l n v) n (0, 0, []) (by omega)) rfl ?_
    conv => whnf
    rw [set_gone gv]
    refine call1 (val_Get (outP l n) n) rfl ?_
    conv => whnf
    rw [gone_get]
    refine callg0 (fun _ => val_Props (outP l n) how) rfl ?_
    conv => whnf
    refine callg0 (fun _ => val_wakes) rfl ?_
    conv => whnf
    rw [props_iff.2 ⟨by omega, hog⟩]
    rfl
  · conv => whnf
    refine call1 (val_Set (setP l n v) n (0, 0, []) (by omega)) rfl ?_
    conv => whnf
    rw [set_gone gv]
    refine call1 (val_Get (outP l n) n) rfl ?_
    conv => whnf
    rw [gone_get]
    refine callg0 (fun _ => val_Props (outP l n) how) rfl ?_
    conv => whnf
    refine callg0 (fun _ => val_wakes) rfl ?_
    conv => whnf
    rw [props_iff.2 ⟨by omega, hog⟩]
    rfl
end Go.Proofs.Ytfpgjaallhpddaa
