/- The walks of val.Get, rule.Form and of the reference's. Own work. -/
import Derived.Test.YtnldokebmfojeaaDoorKeepGraph
import Derived.Test.YtnldokebmfojeaaDoorValName
set_option linter.unusedVariables false
set_option maxRecDepth 100000
namespace Go.Proofs.YtnldokebmfojeaaDoor
open Go Go.RowKit OE

/-- a property's value -/
def getS : List PD.T → List UInt8 → VD.T × Bool
  | [], _ => (VD.df, false)
  | p :: l, n => if p.1 = n then (p.2, true) else getS l n
theorem getS_step {l : List PD.T} {n : List UInt8} {i : Nat} (h : i < l.length) : getS (l.drop i) n = if l[i].1 = n then (l[i].2, true) else getS (l.drop (i + 1)) n := by
  rw [List.drop_eq_getElem_cons h]; rfl
theorem getS_end {l : List PD.T} {n : List UInt8} {i : Nat} (h : l.length ≤ i) : getS (l.drop i) n = (VD.df, false) := by
  rw [List.drop_of_length_le h]; rfl

/-- has a rule a form? -/
def formS (r : RD.T) : Bool :=
  nameS r.2.2.1 &&
  if r.2.1 = 1 ∨ r.2.1 = 2 then nameS r.2.2.2.1 && decide (r.2.2.2.2.1 = []) && decide (r.2.2.2.2.2.1 = []) && decide (r.2.2.2.2.2.2.1 = 0)
  else if r.2.1 = 3 then nameS r.2.2.2.2.1 && nameS r.2.2.2.2.2.1 && decide (r.2.2.2.1 = []) && decide (r.2.2.2.2.2.2.1 = 0)
  else if r.2.1 = 4 then decide (r.2.2.2.1 = []) && decide (r.2.2.2.2.1 = []) && decide (r.2.2.2.2.2.1 = []) && decide (0 ≤ r.2.2.2.2.2.2.1) && decide (r.2.2.2.2.2.2.1 ≤ 1024)
  else false

theorem rule_Form (r : RD.T) : FnD Tryd.prog 78 [.agg (rc r)] (· = .c (.bool (.sym (formS r)))) := by
  refine fn0 Tryd.func78 rfl rfl rfl ?_
  conv => whnf
  refine any0 ?_
  conv => whnf
  refine callr0 (val_Name r.2.2.1) rfl ?_
  conv => whnf
  refine callr0 (val_Name r.2.2.2.1) rfl ?_
  conv => whnf
  refine ⟨.inl (by kernel_rfl), after0 ?_⟩
  conv => whnf
  refine ⟨fun h1 => ?_, fun h1 => ?_⟩
  · conv => whnf
    simp at h1
    simp [formS, h1, Bool.and_assoc]
  · conv => whnf
    refine ⟨fun h2 => ?_, fun h2 => ?_⟩
    · conv => whnf
      simp at h1 h2
      simp [formS, h2, Bool.and_assoc]
    · conv => whnf
      refine ⟨fun h3 => ?_, fun h3 => ?_⟩
      · conv => whnf
        refine callg0 (fun _ => val_Name r.2.2.2.2.1) rfl ?_
        conv => whnf
        refine callg0 (fun _ => val_Name r.2.2.2.2.2.1) rfl ?_
        conv => whnf
        simp at h1 h2 h3
        simp [formS, h3, Bool.and_assoc]
      · conv => whnf
        refine ⟨fun h4 => ?_, fun h4 => ?_⟩
        · conv => whnf
          simp at h1 h2 h3 h4
          simp [formS, h4, Bool.and_assoc]
        · conv => whnf
          simp at h1 h2 h3 h4
          simp [formS, h1, h2, h3, h4]

theorem ref_Form (r : RD.T) : FnD Tryd.prog 39 [.agg (rc r)] (· = .c (.bool (.sym (formS r)))) := by
  refine fn0 Tryd.func39 rfl rfl rfl ?_
  conv => whnf
  refine call1 (ref_Name r.2.2.1) rfl ?_
  conv => whnf
  refine ⟨fun h0 => ?_, fun h0 => ?_⟩
  · conv => whnf
    simp at h0
    simp [formS, h0]
  simp at h0
  conv => whnf
  refine ⟨fun h1 => ?_, fun h1 => ?_⟩
  · conv => whnf
    refine call1 (ref_Name r.2.2.2.1) rfl ?_
    conv => whnf
    simp at h1
    simp [formS, h0, h1, Bool.and_assoc]
  · conv => whnf
    refine ⟨fun h2 => ?_, fun h2 => ?_⟩
    · conv => whnf
      refine call1 (ref_Name r.2.2.2.1) rfl ?_
      conv => whnf
      simp at h1 h2
      simp [formS, h0, h2, Bool.and_assoc]
    · conv => whnf
      refine ⟨fun h3 => ?_, fun h3 => ?_⟩
      · conv => whnf
        refine callg0 (fun _ => ref_Name r.2.2.2.2.1) rfl ?_
        conv => whnf
        refine callg0 (fun _ => ref_Name r.2.2.2.2.2.1) rfl ?_
        conv => whnf
        simp at h1 h2 h3
        simp [formS, h0, h3, Bool.and_assoc, Bool.and_left_comm, Bool.and_comm]
      · conv => whnf
        refine ⟨fun h4 => ?_, fun h4 => ?_⟩
        · conv => whnf
          simp at h1 h2 h3 h4
          simp [formS, h0, h4, Bool.and_assoc]
        · conv => whnf
          simp at h1 h2 h3 h4
          simp [formS, h1, h2, h3, h4]
end Go.Proofs.YtnldokebmfojeaaDoor
