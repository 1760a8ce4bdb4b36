/- The walks of place.put, all, change, bytes. Own work. -/
import Derived.Test.YtnldokebmfojeaaDoorWireText
set_option linter.unusedVariables false
set_option maxRecDepth 100000
namespace Go.Proofs.YtnldokebmfojeaaDoor
open Go Go.RowKit OE

/-- where a change's fields stand: in an object of its own -/
abbrev plO (b o : Nat) : List C := [.ptr b (o + 2), .ptr b (o + 5), .ptr b (o + 1), .ptr b (o + 3), .ptr b (o + 4), .ptr b (o + 6), .val (.pointer none), .val (.pointer none), .ptr b (o + 9), .val (.pointer none), .val (.pointer none)]
abbrev obO (o : OD.T) : List (Nat × Ob) := [(0, .cells 25 (oc o))]
abbrev kp0 : List (Nat × Bool) := [(0, false)]
/-- a byte of a change's fields -/
def putO (o : OD.T) (f : Int) : List UInt8 × Bool :=
  if f = 116 ∨ f = 101 then txS o.2.2.1 (decide (f = 101))
  else if f = 110 then txS o.2.2.2.2.2.1 false
  else if f = 105 then nuS o.2.1 0 4611686018427387903
  else if f = 97 then nuS o.2.2.2.1 0 4611686018427387903
  else if f = 98 then nuS o.2.2.2.2.1 0 4611686018427387903
  else if f = 118 ∨ f = 119 then vaS (oV o) (decide (f = 119))
  else if o.2.2.2.2.2.2.2 = true then ([1], true) else ([0], true)
/-- the fields that a change may have -/
def fO (f : Int) : Prop := f = 116 ∨ f = 101 ∨ f = 110 ∨ f = 105 ∨ f = 97 ∨ f = 98 ∨ f = 118 ∨ f = 119 ∨ f = 99
theorem wire_ofOp (o : OD.T) : FnP Tryd.prog 79 [.c (.ptr 0 0)] (obO o) 1 kp0 (.agg (plO 0 0)) (obO o) 1 := by
  refine fnP noI Tryd.func79 rfl rfl rfl rfl ?_
  conv => whnf
  refine any0 ?_
  conv => whnf
  refine ⟨.inl (by kernel_rfl), after0 ?_⟩
  conv => whnf
  refine ⟨rfl, ?_, ?_, ?_⟩ <;> (repeat' apply And.intro) <;> first | exact trivial | rfl | assumption
theorem wire_putO (o : OD.T) (f : Int) (hf : fO f) (h1 : o.2.2.1.length ≤ 140737488355327) (h2 : o.2.2.2.2.2.1.length ≤ 140737488355327) (h3 : Wf VD (oV o)) : FnP Tryd.prog 64 [.agg (plO 0 0), .c (.int .u8 f)] (obO o) 1 kp0 (paR (putO o f)) (obO o) 1 := by
  refine fnP noI Tryd.func64 rfl rfl rfl rfl ?_
  conv => whnf
  refine ⟨fun a => ?_, fun a => ?_⟩
  · have a : f = 116 := of_decide_eq_true a
    conv => whnf
    have hA : putO o f = txS o.2.2.1 (decide (f = 101)) := by unfold putO; exact if_pos (.inl a)
    rw [hA]
    conv => whnf
    refine call1 (wire_text o.2.2.1 h1 _) rfl ?_
    conv => whnf
    refine ⟨rfl, ?_, ?_, ?_⟩ <;> (repeat' apply And.intro) <;> first | exact trivial | rfl | assumption
  have a1 : ¬ f = 116 := of_decide_eq_false a
  clear a
  conv => whnf
  refine ⟨fun a => ?_, fun a => ?_⟩
  · have a : f = 101 := of_decide_eq_true a
    conv => whnf
    have hA : putO o f = txS o.2.2.1 (decide (f = 101)) := by unfold putO; exact if_pos (.inr a)
    rw [hA]
    conv => whnf
    refine call1 (wire_text o.2.2.1 h1 _) rfl ?_
    conv => whnf
    refine ⟨rfl, ?_, ?_, ?_⟩ <;> (repeat' apply And.intro) <;> first | exact trivial | rfl | assumption
  have a2 : ¬ f = 101 := of_decide_eq_false a
  have q1 : ¬ (f = 116 ∨ f = 101) := fun h => h.elim a1 a2
  clear a
  conv => whnf
  refine ⟨fun a => ?_, fun a => ?_⟩
  · have a : f = 110 := of_decide_eq_true a
    conv => whnf
    have hA : putO o f = txS o.2.2.2.2.2.1 false := by unfold putO; rw [if_neg q1, if_pos a]
    rw [hA]
    conv => whnf
    refine call1 (wire_text o.2.2.2.2.2.1 h2 _) rfl ?_
    conv => whnf
    refine ⟨rfl, ?_, ?_, ?_⟩ <;> (repeat' apply And.intro) <;> first | exact trivial | rfl | assumption
  have a3 : ¬ f = 110 := of_decide_eq_false a
  clear a
  conv => whnf
  refine ⟨fun a => ?_, fun a => ?_⟩
  · have a : f = 105 := of_decide_eq_true a
    conv => whnf
    have hA : putO o f = nuS o.2.1 0 4611686018427387903 := by unfold putO; rw [if_neg q1, if_neg a3, if_pos a]
    rw [hA]
    conv => whnf
    refine call1 (wire_number _ _ _) rfl ?_
    conv => whnf
    refine ⟨rfl, ?_, ?_, ?_⟩ <;> (repeat' apply And.intro) <;> first | exact trivial | rfl | assumption
  have a4 : ¬ f = 105 := of_decide_eq_false a
  clear a
  conv => whnf
  refine ⟨fun a => ?_, fun a => ?_⟩
  · have a : f = 97 := of_decide_eq_true a
    conv => whnf
    have hA : putO o f = nuS o.2.2.2.1 0 4611686018427387903 := by unfold putO; rw [if_neg q1, if_neg a3, if_neg a4, if_pos a]
    rw [hA]
    conv => whnf
    refine call1 (wire_number _ _ _) rfl ?_
    conv => whnf
    refine ⟨rfl, ?_, ?_, ?_⟩ <;> (repeat' apply And.intro) <;> first | exact trivial | rfl | assumption
  have a5 : ¬ f = 97 := of_decide_eq_false a
  clear a
  conv => whnf
  refine ⟨fun a => ?_, fun a => ?_⟩
  · have a : f = 98 := of_decide_eq_true a
    conv => whnf
    have hA : putO o f = nuS o.2.2.2.2.1 0 4611686018427387903 := by unfold putO; rw [if_neg q1, if_neg a3, if_neg a4, if_neg a5, if_pos a]
    rw [hA]
    conv => whnf
    refine call1 (wire_number _ _ _) rfl ?_
    conv => whnf
    refine ⟨rfl, ?_, ?_, ?_⟩ <;> (repeat' apply And.intro) <;> first | exact trivial | rfl | assumption
  have a6 : ¬ f = 98 := of_decide_eq_false a
  clear a
  conv => whnf
  refine ⟨fun a => ?_, fun a => ?_⟩
  · have a : f = 118 := of_decide_eq_true a
    conv => whnf
    have hA : putO o f = vaS (oV o) (decide (f = 119)) := by unfold putO; rw [if_neg q1, if_neg a3, if_neg a4, if_neg a5, if_neg a6, if_pos (.inl a)]
    rw [hA]
    conv => whnf
    refine call1 (wire_value (oV o) h3 _) rfl ?_
    conv => whnf
    refine ⟨rfl, ?_, ?_, ?_⟩ <;> (repeat' apply And.intro) <;> first | exact trivial | rfl | assumption
  have a7 : ¬ f = 118 := of_decide_eq_false a
  clear a
  conv => whnf
  refine ⟨fun a => ?_, fun a => ?_⟩
  · have a : f = 119 := of_decide_eq_true a
    conv => whnf
    have hA : putO o f = vaS (oV o) (decide (f = 119)) := by unfold putO; rw [if_neg q1, if_neg a3, if_neg a4, if_neg a5, if_neg a6, if_pos (.inr a)]
    rw [hA]
    conv => whnf
    refine call1 (wire_value (oV o) h3 _) rfl ?_
    conv => whnf
    refine ⟨rfl, ?_, ?_, ?_⟩ <;> (repeat' apply And.intro) <;> first | exact trivial | rfl | assumption
  have a8 : ¬ f = 119 := of_decide_eq_false a
  have q2 : ¬ (f = 118 ∨ f = 119) := fun h => h.elim a7 a8
  clear a
  have a : f = 99 := by rcases hf with h | h | h | h | h | h | h | h | h <;> first | exact h | exact absurd h (by assumption)
  conv => whnf
  refine fk (by simp [a]) ?_
  conv => whnf
  refine fk (by simp [a]) ?_
  conv => whnf
  refine fk (by simp [a]) ?_
  conv => whnf
  refine tk (by simp [a]) ?_
  conv => whnf
  refine ⟨fun b => ?_, fun b => ?_⟩
  · have hA : putO o f = ([1], true) := by unfold putO; rw [if_neg q1, if_neg a3, if_neg a4, if_neg a5, if_neg a6, if_neg q2, if_pos b]
    rw [hA]
    conv => whnf
    refine ⟨rfl, ?_, ?_, ?_⟩ <;> (repeat' apply And.intro) <;> first | exact trivial | rfl | assumption
  · have hA : putO o f = ([0], true) := by unfold putO; rw [if_neg q1, if_neg a3, if_neg a4, if_neg a5, if_neg a6, if_neg q2, if_neg (by rw [b]; decide)]
    rw [hA]
    conv => whnf
    refine ⟨rfl, ?_, ?_, ?_⟩ <;> (repeat' apply And.intro) <;> first | exact trivial | rfl | assumption
end Go.Proofs.YtnldokebmfojeaaDoor
