/- The walk of place.get, of a change's fields. Own work. -/
import Derived.Test.YtnldokebmfojeaaDoorWireCmd
set_option linter.unusedVariables false
set_option maxRecDepth 100000
namespace Go.Proofs.YtnldokebmfojeaaDoor
open Go Go.RowKit OE

def idN (n : Nat) : Int := IntKind.wrap .i64 (bits .and .u64 (n : Int) 4611686018427387903)
def sO (m : MD.T) (o : OD.T) : MD.T := (m.1, m.2.1, m.2.2.1, m.2.2.2.1, m.2.2.2.2.1, m.2.2.2.2.2.1, m.2.2.2.2.2.2.1, o, m.2.2.2.2.2.2.2.2)
/-- what is got: a text, a number, a value -/
def tS (s : List UInt8) (k : Int) : List UInt8 × Nat := (Num.getT s k 16).getD ([], 0)
def nS (s : List UInt8) (k : Int) : Nat × Nat := (Num.getN s k).getD (0, 0)
def vS' (s : List UInt8) (k : Int) : VD.T × Nat := (decV s k).getD (V0, 0)
def oT (o : OD.T) (t : List UInt8) : OD.T := (o.1, o.2.1, t, o.2.2.2)
def oN (o : OD.T) (t : List UInt8) : OD.T := (o.1, o.2.1, o.2.2.1, o.2.2.2.1, o.2.2.2.2.1, t, o.2.2.2.2.2.2)
def oI (o : OD.T) (n : Int) : OD.T := (o.1, n, o.2.2)
def oF (o : OD.T) (n : Int) : OD.T := (o.1, o.2.1, o.2.2.1, n, o.2.2.2.2)
def oE (o : OD.T) (n : Int) : OD.T := (o.1, o.2.1, o.2.2.1, o.2.2.2.1, n, o.2.2.2.2.2)
def oVl (o : OD.T) (v : VD.T) : OD.T := (o.1, o.2.1, o.2.2.1, o.2.2.2.1, o.2.2.2.2.1, o.2.2.2.2.2.1, v, o.2.2.2.2.2.2.2)
def oC (o : OD.T) (b : Bool) : OD.T := (o.1, o.2.1, o.2.2.1, o.2.2.2.1, o.2.2.2.2.1, o.2.2.2.2.2.1, o.2.2.2.2.2.2.1, b)
def gO (o : OD.T) (f : Int) (s : List UInt8) (k : Int) : OD.T × Int × Bool :=
  if f = 116 ∨ f = 101 then (oT o (tS s k).1, ((tS s k).2 : Int), (Num.getT s k 16).isSome)
  else if f = 110 then (oN o (tS s k).1, ((tS s k).2 : Int), (Num.getT s k 16).isSome)
  else if f = 105 then (oI o (idN (nS s k).1), ((nS s k).2 : Int), (Num.getN s k).isSome)
  else if f = 97 then (oF o (idN (nS s k).1), ((nS s k).2 : Int), (Num.getN s k).isSome)
  else if f = 98 then (oE o (idN (nS s k).1), ((nS s k).2 : Int), (Num.getN s k).isSome)
  else if f = 118 ∨ f = 119 then (oVl o (vS' s k).1, ((vS' s k).2 : Int), (decV s k).isSome)
  else if k < s.length then (oC o (decide (bt s k = 1)), 1, true)
  else (o, 0, false)
abbrev geR (n : Int) (b : Bool) : SV := .tup [(false, [.int .i64 n]), (false, [.bool (.sym b)])]
theorem wire_getO (m : MD.T) (f : Int) (hf : fO f) (s : List UInt8) (hs : s.length ≤ 1000000) (k : Int) (h0 : 0 ≤ k) :
    FnP Tryd.prog 65 [.agg (plO 0 11), .c (.int .u8 f), .c (.str s), .c (.int .i64 k)] (obM m) 1 kp0 (geR (gO (mOp m) f s k).2.1 (gO (mOp m) f s k).2.2) (obM (sO m (gO (mOp m) f s k).1)) 1 := by
  refine fnP noI Tryd.func65 rfl rfl rfl rfl ?_
  conv => whnf
  refine ⟨fun a => ?_, fun a => ?_⟩
  · have a : f = 116 := of_decide_eq_true a
    have hA : gO (mOp m) f s k = (oT (mOp m) (tS s k).1, ((tS s k).2 : Int), (Num.getT s k 16).isSome) := by unfold gO; exact if_pos (.inl a)
    rw [hA]
    conv => whnf
    refine any0 ?_
    conv => whnf
    refine callr0 (num_GetText s k 16 (Nat.le_trans hs (by decide)) (by decide)) rfl ?_
    conv => whnf
    refine ⟨.inl (by kernel_rfl), after0 ?_⟩
    conv => whnf
    refine ⟨rfl, ?_, ?_, ?_⟩ <;> (repeat' apply And.intro) <;> first | exact trivial | rfl | assumption
  have a1 : ¬ f = 116 := of_decide_eq_false a
  clear a
  conv => whnf
  refine ⟨fun a => ?_, fun a => ?_⟩
  · have a : f = 101 := of_decide_eq_true a
    have hA : gO (mOp m) f s k = (oT (mOp m) (tS s k).1, ((tS s k).2 : Int), (Num.getT s k 16).isSome) := by unfold gO; exact if_pos (.inr a)
    rw [hA]
    conv => whnf
    refine any0 ?_
    conv => whnf
    refine callr0 (num_GetText s k 16 (Nat.le_trans hs (by decide)) (by decide)) rfl ?_
    conv => whnf
    refine ⟨.inl (by kernel_rfl), after0 ?_⟩
    conv => whnf
    refine ⟨rfl, ?_, ?_, ?_⟩ <;> (repeat' apply And.intro) <;> first | exact trivial | rfl | assumption
  have a2 : ¬ f = 101 := of_decide_eq_false a
  have q1 : ¬ (f = 116 ∨ f = 101) := fun h => h.elim a1 a2
  clear a
  conv => whnf
  refine ⟨fun a => ?_, fun a => ?_⟩
  · have a : f = 110 := of_decide_eq_true a
    have hA : gO (mOp m) f s k = (oN (mOp m) (tS s k).1, ((tS s k).2 : Int), (Num.getT s k 16).isSome) := by unfold gO; rw [if_neg q1, if_pos a]
    rw [hA]
    conv => whnf
    refine any0 ?_
    conv => whnf
    refine callr0 (num_GetText s k 16 (Nat.le_trans hs (by decide)) (by decide)) rfl ?_
    conv => whnf
    refine ⟨.inl (by kernel_rfl), after0 ?_⟩
    conv => whnf
    refine ⟨rfl, ?_, ?_, ?_⟩ <;> (repeat' apply And.intro) <;> first | exact trivial | rfl | assumption
  have a3 : ¬ f = 110 := of_decide_eq_false a
  clear a
  conv => whnf
  refine ⟨fun a => ?_, fun a => ?_⟩
  · have a : f = 105 := of_decide_eq_true a
    have hA : gO (mOp m) f s k = (oI (mOp m) (idN (nS s k).1), ((nS s k).2 : Int), (Num.getN s k).isSome) := by unfold gO; rw [if_neg q1, if_neg a3, if_pos a]
    rw [hA]
    conv => whnf
    refine call1 (num_Get s k (Nat.le_trans hs (by decide))) rfl ?_
    conv => whnf
    refine fk (by rw [a]; rfl) ?_
    conv => whnf
    refine fk (by rw [a]; rfl) ?_
    conv => whnf
    refine ⟨rfl, ?_, ?_, ?_⟩ <;> (repeat' apply And.intro) <;> first | exact trivial | rfl | assumption
  have a4 : ¬ f = 105 := of_decide_eq_false a
  clear a
  conv => whnf
  refine ⟨fun a => ?_, fun a => ?_⟩
  · have a : f = 97 := of_decide_eq_true a
    have hA : gO (mOp m) f s k = (oF (mOp m) (idN (nS s k).1), ((nS s k).2 : Int), (Num.getN s k).isSome) := by unfold gO; rw [if_neg q1, if_neg a3, if_neg a4, if_pos a]
    rw [hA]
    conv => whnf
    refine call1 (num_Get s k (Nat.le_trans hs (by decide))) rfl ?_
    conv => whnf
    refine tk (by rw [a]; rfl) ?_
    conv => whnf
    refine ⟨rfl, ?_, ?_, ?_⟩ <;> (repeat' apply And.intro) <;> first | exact trivial | rfl | assumption
  have a5 : ¬ f = 97 := of_decide_eq_false a
  clear a
  conv => whnf
  refine ⟨fun a => ?_, fun a => ?_⟩
  · have a : f = 98 := of_decide_eq_true a
    have hA : gO (mOp m) f s k = (oE (mOp m) (idN (nS s k).1), ((nS s k).2 : Int), (Num.getN s k).isSome) := by unfold gO; rw [if_neg q1, if_neg a3, if_neg a4, if_neg a5, if_pos a]
    rw [hA]
    conv => whnf
    refine call1 (num_Get s k (Nat.le_trans hs (by decide))) rfl ?_
    conv => whnf
    refine fk (by rw [a]; rfl) ?_
    conv => whnf
    refine tk (by rw [a]; rfl) ?_
    conv => whnf
    refine ⟨rfl, ?_, ?_, ?_⟩ <;> (repeat' apply And.intro) <;> first | exact trivial | rfl | assumption
  have a6 : ¬ f = 98 := of_decide_eq_false a
  clear a
  conv => whnf
  refine ⟨fun a => ?_, fun a => ?_⟩
  · have a : f = 118 := of_decide_eq_true a
    have hA : gO (mOp m) f s k = (oVl (mOp m) (vS' s k).1, ((vS' s k).2 : Int), (decV s k).isSome) := by unfold gO; rw [if_neg q1, if_neg a3, if_neg a4, if_neg a5, if_neg a6, if_pos (.inl a)]
    rw [hA]
    conv => whnf
    refine any0 ?_
    conv => whnf
    refine callr0 (val_Decode s k hs) rfl ?_
    conv => whnf
    refine ⟨.inl (by kernel_rfl), after0 ?_⟩
    conv => whnf
    refine ⟨rfl, ?_, ?_, ?_⟩ <;> (repeat' apply And.intro) <;> first | exact trivial | rfl | assumption
  have a7 : ¬ f = 118 := of_decide_eq_false a
  clear a
  conv => whnf
  refine ⟨fun a => ?_, fun a => ?_⟩
  · have a : f = 119 := of_decide_eq_true a
    have hA : gO (mOp m) f s k = (oVl (mOp m) (vS' s k).1, ((vS' s k).2 : Int), (decV s k).isSome) := by unfold gO; rw [if_neg q1, if_neg a3, if_neg a4, if_neg a5, if_neg a6, if_pos (.inr a)]
    rw [hA]
    conv => whnf
    refine any0 ?_
    conv => whnf
    refine callr0 (val_Decode s k hs) rfl ?_
    conv => whnf
    refine ⟨.inl (by kernel_rfl), after0 ?_⟩
    conv => whnf
    refine ⟨rfl, ?_, ?_, ?_⟩ <;> (repeat' apply And.intro) <;> first | exact trivial | rfl | assumption
  have a8 : ¬ f = 119 := of_decide_eq_false a
  have q2 : ¬ (f = 118 ∨ f = 119) := fun h => h.elim a7 a8
  clear a
  have a : f = 99 := by rcases hf with h | h | h | h | h | h | h | h | h <;> first | exact h | exact absurd h (by assumption)
  conv => whnf
  refine fk (by rw [a]; rfl) ?_
  conv => whnf
  refine fk (by rw [a]; rfl) ?_
  conv => whnf
  refine fk (by rw [a]; rfl) ?_
  conv => whnf
  refine tk (by rw [a]; rfl) ?_
  conv => whnf
  refine ⟨fun b => ?_, fun b => ?_⟩
  · have b : k < s.length := of_decide_eq_true b
    have hA : gO (mOp m) f s k = (oC (mOp m) (decide (bt s k = 1)), 1, true) := by unfold gO; rw [if_neg q1, if_neg a3, if_neg a4, if_neg a5, if_neg a6, if_neg q2, if_pos b]
    rw [hA]
    conv => whnf
    refine any0 ?_
    conv => whnf
    refine ⟨⟨h0, b⟩, ?_⟩
    conv => whnf
    refine ⟨.inl (by kernel_rfl), after0 ?_⟩
    conv => whnf
    refine ⟨rfl, ?_, ?_, ?_⟩ <;> (repeat' apply And.intro) <;> first | exact trivial | rfl | assumption
  · have b : ¬ k < s.length := of_decide_eq_false b
    have hA : gO (mOp m) f s k = (mOp m, 0, false) := by unfold gO; rw [if_neg q1, if_neg a3, if_neg a4, if_neg a5, if_neg a6, if_neg q2, if_neg b]
    rw [hA]
    conv => whnf
    refine ⟨rfl, ?_, ?_, ?_⟩ <;> (repeat' apply And.intro) <;> first | exact trivial | rfl | assumption
end Go.Proofs.YtnldokebmfojeaaDoor
