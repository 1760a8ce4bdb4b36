/- The walk of wire.change. Own work. -/
import Derived.Test.YtnldokebmfojeaaDoorWireAll
set_option linter.unusedVariables false
set_option maxRecDepth 100000
namespace Go.Proofs.YtnldokebmfojeaaDoor
open Go Go.RowKit OE

/-- the fields of each kind of change -/
abbrev opsL : List (List UInt8) := [[], [116], [105, 99], [116, 97, 98], [105], [105, 110, 119]]
def chgS (o : OD.T) : List UInt8 × Bool :=
  if (o.1 : Int) < 0 ∨ (6 : Int) ≤ o.1 ∨ gt (d := .str) opsL o.1 = [] then ([], false)
  else allS (putO o) (IntKind.wrap .u8 o.1) (gt (d := .str) opsL o.1)
instance (f : Int) : Decidable (fO f) := by unfold fO; infer_instance
theorem ops_fin : ∀ n : Fin 6, (opsL.getD n.1 []).length ≤ 100 ∧ ∀ f ∈ opsL.getD n.1 [], fO f.toNat := by decide
theorem ops_ok (k : Int) : (gt (d := .str) opsL k).length ≤ 100 ∧ ∀ f ∈ gt (d := .str) opsL k, fO f.toNat := by
  show (opsL.getD k.toNat []).length ≤ 100 ∧ ∀ f ∈ opsL.getD k.toNat [], fO f.toNat
  rcases Nat.lt_or_ge k.toNat 6 with h | h
  · exact ops_fin ⟨k.toNat, h⟩
  · have : opsL.getD k.toNat [] = [] := by rw [List.getD_eq_getElem?_getD, List.getElem?_eq_none h]; rfl
    rw [this]
    exact ⟨by decide, fun _ h => by cases h⟩
theorem wire_change (o : OD.T) (hb : ∀ f, (putO o f).1.length ≤ 1000000) (h1 : o.2.2.1.length ≤ 140737488355327) (h2 : o.2.2.2.2.2.1.length ≤ 140737488355327) (h3 : Wf VD (oV o)) :
    FnD Tryd.prog 71 [.agg (oc o)] (· = paR (chgS o)) := by
  refine fn0 Tryd.func71 rfl rfl rfl ?_
  conv => whnf
  refine ⟨fun h => ?_, ?_⟩
  · rw [Bool.or_eq_false_iff, decide_eq_false_iff_not, decide_eq_false_iff_not] at h
    exact ⟨⟨Int.not_lt.1 h.1, Int.not_le.1 h.2⟩, Int.not_le.1 h.2⟩
  conv => whnf
  refine ⟨fun a => ?_, fun a => ?_⟩
  · have hA : chgS o = ([], false) := if_pos (by simpa [or_assoc] using a)
    rw [hA]
    conv => whnf
  have a0 : ¬ ((o.1 : Int) < 0 ∨ (6 : Int) ≤ o.1 ∨ gt (d := .str) opsL o.1 = []) := by
    rw [Bool.or_eq_false_iff, Bool.or_eq_false_iff, decide_eq_false_iff_not, decide_eq_false_iff_not, decide_eq_false_iff_not] at a
    rintro (h | h | h)
    · exact a.1.1 h
    · exact a.1.2 h
    · exact a.2 h
  rw [show chgS o = allS (putO o) (IntKind.wrap .u8 o.1) (gt (d := .str) opsL o.1) from if_neg a0]
  have a1 : 0 ≤ (o.1 : Int) := Int.not_lt.1 fun h => a0 (.inl h)
  have a2 : (o.1 : Int) < 6 := Int.not_le.1 fun h => a0 (.inr (.inl h))
  clear a a0
  conv => whnf
  refine any0 ?_
  conv => whnf
  refine ⟨⟨⟨a1, a2⟩, a2⟩, ?_⟩
  conv => whnf
  refine callrp0 [0] rfl rfl rfl (wire_ofOp o) rfl rfl rfl rfl rfl rfl [0] rfl rfl ?_
  conv => whnf
  refine callrp0 [0] rfl rfl rfl (wire_allO o (IntKind.wrap .u8 o.1) (gt (d := .str) opsL o.1) (ops_ok _).1 (ops_ok _).2 hb h1 h2 h3) rfl rfl rfl rfl rfl rfl [0] rfl rfl ?_
  conv => whnf
  refine ⟨.inl (by kernel_rfl), after0 ?_⟩
  conv => whnf
end Go.Proofs.YtnldokebmfojeaaDoor
