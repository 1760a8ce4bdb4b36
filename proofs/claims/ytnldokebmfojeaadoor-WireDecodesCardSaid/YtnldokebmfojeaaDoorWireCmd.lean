/- The walks of place.put, all, bytes, of commands. Own work. -/
import Derived.Test.YtnldokebmfojeaaDoorWireChange
set_option linter.unusedVariables false
set_option maxRecDepth 100000
namespace Go.Proofs.YtnldokebmfojeaaDoor
open Go Go.RowKit OE

/-- where a command's fields stand -/
abbrev plM : List C := [.ptr 0 2, .ptr 0 3, .ptr 0 1, .val (.pointer none), .val (.pointer none), .ptr 0 4, .ptr 0 7, .ptr 0 10, .val (.pointer none), .ptr 0 21, .ptr 0 11]
abbrev obM (m : MD.T) : List (Nat × Ob) := [(0, .cells 29 (mc m))]
def ruS (r : RD.T) : List UInt8 × Bool := (encS r, decide (errS r = 0) && decide (r.1 = 0) && decide (r.2.2.2.2.2.2.2 = 0))
def putM (m : MD.T) (f : Int) : List UInt8 × Bool :=
  if f = 116 ∨ f = 101 then txS (mType m) (decide (f = 101))
  else if f = 110 then txS (mName m) false
  else if f = 105 then nuS m.2.1 0 4611686018427387903
  else if f = 118 ∨ f = 119 then vaS (mV m) (decide (f = 119))
  else if f = 120 then vaS (mTo m) true
  else if f = 107 then nuS (mN m) 1 2
  else if f = 109 then nuS (mN m) 0 1000000
  else if f = 114 then ruS (mRule m)
  else chgS (mOp m)
/-- the fields that a command may have -/
def fM (f : Int) : Prop := f = 116 ∨ f = 101 ∨ f = 110 ∨ f = 105 ∨ f = 118 ∨ f = 119 ∨ f = 120 ∨ f = 107 ∨ f = 109 ∨ f = 114 ∨ f = 111
theorem wire_ofCmd (m : MD.T) : FnP Tryd.prog 53 [.c (.ptr 0 0)] (obM m) 1 kp0 (.agg plM) (obM m) 1 := by
  refine fnP noI Tryd.func53 rfl rfl rfl rfl ?_
  conv => whnf
  refine any0 ?_
  conv => whnf
  refine ⟨.inl (by kernel_rfl), after0 ?_⟩
  conv => whnf
  refine ⟨rfl, ?_, ?_, ?_⟩ <;> (repeat' apply And.intro) <;> first | exact trivial | rfl | assumption
/-- what is small of a command -/
structure SmM (m : MD.T) : Prop where
  ty : (mType m).length ≤ 1000
  nm : (mName m).length ≤ 1000
  v : Wf VD (mV m)
  to : Wf VD (mTo m)
  op : ∀ f, (putO (mOp m) f).1.length ≤ 1000000
  o1 : (mOp m).2.2.1.length ≤ 140737488355327
  o2 : (mOp m).2.2.2.2.2.1.length ≤ 140737488355327
  o3 : Wf VD (oV (mOp m))
theorem wire_putM (m : MD.T) (f : Int) (hf : fM f) (hm : SmM m) : FnP Tryd.prog 64 [.agg plM, .c (.int .u8 f)] (obM m) 1 kp0 (paR (putM m f)) (obM m) 1 := by
  have h1 : (mType m).length ≤ 140737488355327 := Nat.le_trans hm.ty (by decide)
  have h2 : (mName m).length ≤ 140737488355327 := Nat.le_trans hm.nm (by decide)
  refine fnP noI Tryd.func64 rfl rfl rfl rfl ?_
  conv => whnf
  refine ⟨fun a => ?_, fun a => ?_⟩
  · have a : f = 116 := of_decide_eq_true a
    conv => whnf
    have hA : putM m f = txS (mType m) (decide (f = 101)) := by unfold putM; exact if_pos (.inl a)
    rw [hA]
    conv => whnf
    refine call1 (wire_text (mType m) h1 _) rfl ?_
    conv => whnf
    refine ⟨rfl, ?_, ?_, ?_⟩ <;> (repeat' apply And.intro) <;> first | exact trivial | rfl | assumption
  have a1 : ¬ f = 116 := of_decide_eq_false a
  clear a
  conv => whnf
  refine ⟨fun a => ?_, fun a => ?_⟩
  · have a : f = 101 := of_decide_eq_true a
    conv => whnf
    have hA : putM m f = txS (mType m) (decide (f = 101)) := by unfold putM; exact if_pos (.inr a)
    rw [hA]
    conv => whnf
    refine call1 (wire_text (mType m) h1 _) rfl ?_
    conv => whnf
    refine ⟨rfl, ?_, ?_, ?_⟩ <;> (repeat' apply And.intro) <;> first | exact trivial | rfl | assumption
  have a2 : ¬ f = 101 := of_decide_eq_false a
  have q1 : ¬ (f = 116 ∨ f = 101) := fun h => h.elim a1 a2
  clear a
  conv => whnf
  refine ⟨fun a => ?_, fun a => ?_⟩
  · have a : f = 110 := of_decide_eq_true a
    conv => whnf
    have hA : putM m f = txS (mName m) false := by unfold putM; rw [if_neg q1, if_pos a]
    rw [hA]
    conv => whnf
    refine call1 (wire_text (mName m) h2 _) rfl ?_
    conv => whnf
    refine ⟨rfl, ?_, ?_, ?_⟩ <;> (repeat' apply And.intro) <;> first | exact trivial | rfl | assumption
  have a3 : ¬ f = 110 := of_decide_eq_false a
  clear a
  conv => whnf
  refine ⟨fun a => ?_, fun a => ?_⟩
  · have a : f = 105 := of_decide_eq_true a
    conv => whnf
    have hA : putM m f = nuS m.2.1 0 4611686018427387903 := by unfold putM; rw [if_neg q1, if_neg a3, if_pos a]
    rw [hA]
    conv => whnf
    refine call1 (wire_number _ _ _) rfl ?_
    conv => whnf
    refine ⟨rfl, ?_, ?_, ?_⟩ <;> (repeat' apply And.intro) <;> first | exact trivial | rfl | assumption
  have a4 : ¬ f = 105 := of_decide_eq_false a
  have n1 : ¬ f = 97 := fun e => by rcases hf with h | h | h | h | h | h | h | h | h | h | h <;> rw [h] at e <;> exact absurd e (by decide)
  have n2 : ¬ f = 98 := fun e => by rcases hf with h | h | h | h | h | h | h | h | h | h | h <;> rw [h] at e <;> exact absurd e (by decide)
  have n3 : ¬ f = 99 := fun e => by rcases hf with h | h | h | h | h | h | h | h | h | h | h <;> rw [h] at e <;> exact absurd e (by decide)
  clear a
  conv => whnf
  refine fk (decide_eq_false n1) ?_
  conv => whnf
  refine fk (decide_eq_false n2) ?_
  conv => whnf
  refine ⟨fun a => ?_, fun a => ?_⟩
  · have a : f = 118 := of_decide_eq_true a
    conv => whnf
    have hA : putM m f = vaS (mV m) (decide (f = 119)) := by unfold putM; rw [if_neg q1, if_neg a3, if_neg a4, if_pos (.inl a)]
    rw [hA]
    conv => whnf
    refine call1 (wire_value (mV m) hm.v _) rfl ?_
    conv => whnf
    refine ⟨rfl, ?_, ?_, ?_⟩ <;> (repeat' apply And.intro) <;> first | exact trivial | rfl | assumption
  have a7 : ¬ f = 118 := of_decide_eq_false a
  clear a
  conv => whnf
  refine ⟨fun a => ?_, fun a => ?_⟩
  · have a : f = 119 := of_decide_eq_true a
    conv => whnf
    have hA : putM m f = vaS (mV m) (decide (f = 119)) := by unfold putM; rw [if_neg q1, if_neg a3, if_neg a4, if_pos (.inr a)]
    rw [hA]
    conv => whnf
    refine call1 (wire_value (mV m) hm.v _) rfl ?_
    conv => whnf
    refine ⟨rfl, ?_, ?_, ?_⟩ <;> (repeat' apply And.intro) <;> first | exact trivial | rfl | assumption
  have a8 : ¬ f = 119 := of_decide_eq_false a
  have q2 : ¬ (f = 118 ∨ f = 119) := fun h => h.elim a7 a8
  clear a
  conv => whnf
  refine ⟨fun a => ?_, fun a => ?_⟩
  · have a : f = 120 := of_decide_eq_true a
    conv => whnf
    have hA : putM m f = vaS (mTo m) true := by unfold putM; rw [if_neg q1, if_neg a3, if_neg a4, if_neg q2, if_pos a]
    rw [hA]
    conv => whnf
    refine call1 (wire_value (mTo m) hm.to _) rfl ?_
    conv => whnf
    refine ⟨rfl, ?_, ?_, ?_⟩ <;> (repeat' apply And.intro) <;> first | exact trivial | rfl | assumption
  have a9 : ¬ f = 120 := of_decide_eq_false a
  clear a
  conv => whnf
  refine ⟨fun a => ?_, fun a => ?_⟩
  · have a : f = 107 := of_decide_eq_true a
    conv => whnf
    have hA : putM m f = nuS (mN m) 1 2 := by unfold putM; rw [if_neg q1, if_neg a3, if_neg a4, if_neg q2, if_neg a9, if_pos a]
    rw [hA]
    conv => whnf
    refine call1 (wire_number _ _ _) rfl ?_
    conv => whnf
    refine ⟨rfl, ?_, ?_, ?_⟩ <;> (repeat' apply And.intro) <;> first | exact trivial | rfl | assumption
  have a10 : ¬ f = 107 := of_decide_eq_false a
  clear a
  conv => whnf
  refine ⟨fun a => ?_, fun a => ?_⟩
  · have a : f = 109 := of_decide_eq_true a
    conv => whnf
    have hA : putM m f = nuS (mN m) 0 1000000 := by unfold putM; rw [if_neg q1, if_neg a3, if_neg a4, if_neg q2, if_neg a9, if_neg a10, if_pos a]
    rw [hA]
    conv => whnf
    refine call1 (wire_number _ _ _) rfl ?_
    conv => whnf
    refine ⟨rfl, ?_, ?_, ?_⟩ <;> (repeat' apply And.intro) <;> first | exact trivial | rfl | assumption
  have a11 : ¬ f = 109 := of_decide_eq_false a
  clear a
  conv => whnf
  refine fk (decide_eq_false n3) ?_
  conv => whnf
  refine ⟨fun a => ?_, fun a => ?_⟩
  · have a : f = 114 := of_decide_eq_true a
    have hA : putM m f = ruS (mRule m) := by unfold putM; rw [if_neg q1, if_neg a3, if_neg a4, if_neg q2, if_neg a9, if_neg a10, if_neg a11, if_pos a]
    rw [hA]
    conv => whnf
    refine call1 (rule_Encode (mRule m)) rfl ?_
    conv => whnf
    refine any0 ?_
    conv => whnf
    refine ⟨.inl (by kernel_rfl), after0 ?_⟩
    conv => whnf
    refine ⟨rfl, ?_, ?_, ?_⟩ <;> (repeat' apply And.intro) <;> first | exact trivial | rfl | assumption
  have a12 : ¬ f = 114 := of_decide_eq_false a
  conv => whnf
  have hA : putM m f = chgS (mOp m) := by unfold putM; rw [if_neg q1, if_neg a3, if_neg a4, if_neg q2, if_neg a9, if_neg a10, if_neg a11, if_neg a12]
  rw [hA]
  conv => whnf
  refine call1 (wire_change (mOp m) hm.op hm.o1 hm.o2 hm.o3) rfl ?_
  conv => whnf
  refine ⟨rfl, ?_, ?_, ?_⟩ <;> (repeat' apply And.intro) <;> first | exact trivial | rfl | assumption
theorem wire_allM (m : MD.T) (k : Int) (l : List UInt8) (hl : l.length ≤ 100) (hf : ∀ f ∈ l, fM f.toNat) (hb : ∀ f, (putM m f).1.length ≤ 1000000) (hm : SmM m) :
    FnP Tryd.prog 52 [.c (.int .u8 k), .c (.str l), .agg plM] (obM m) 1 kp0 (paR (allS (putM m) k l)) (obM m) 1 := by
  refine fnP noI Tryd.func52 rfl rfl rfl rfl ?_
  conv => whnf
  refine loop0 (α := Nat) (fun j => j ≤ l.length ∧ ((l.take j).all fun f => (putM m f.toNat).2) = true)
    (fun j => ⟨[(1, .c (.str l)), (5, .c (.ptr 1 0)), (8, .c (.str (byl [k] ++ (l.take j).flatMap fun f => (putM m f.toNat).1))), (16, .c (.int .i64 l.length)), (17, .c (.int .i64 j))], (1, .cells 96 (plM)) :: obM m, 2⟩) (fun j => l.length - j) ⟨0, ⟨by omega, rfl⟩, ?_⟩ ?_
  · (conv => whnf); refine ⟨rfl, ?_, ?_, ?_⟩ <;> (repeat' apply And.intro) <;> first | exact trivial | rfl | exact wr_succ _ (by omega) | assumption | exact decide_eq_false (by assumption) | exact decide_eq_true (by assumption)
  rintro j ⟨hJ1, hJ2⟩
  conv => whnf
  refine ⟨fun h4 => ?_, fun h4 => ?_⟩
  · have h4 : j < l.length := by simp at h4; omega
    conv => whnf
    refine any0 ?_
    conv => whnf
    refine ⟨by omega, ?_⟩
    conv => whnf
    rw [bt_nat l j h4]
    refine callrp0 [0] rfl rfl rfl (wire_putM m l[j].toNat (hf _ (List.getElem_mem h4)) hm) rfl rfl rfl rfl rfl rfl [0] rfl rfl ?_
    conv => whnf
    refine ⟨.inl (by kernel_rfl), after0 ?_⟩
    conv => whnf
    refine ⟨fun h5 => ?_, fun h5 => ?_⟩
    · have h5 : (putM m l[j].toNat).2 = false := by simpa using h5
      have hA : allS (putM m) k l = ([], false) := if_neg fun h => by
        have := List.all_eq_true.1 h _ (List.getElem_mem h4)
        rw [h5] at this; cases this
      rw [hA]
      conv => whnf
      refine ⟨rfl, ?_, ?_, ?_⟩ <;> (repeat' apply And.intro) <;> first | exact trivial | rfl | assumption
    have h5 : (putM m l[j].toNat).2 = true := by simpa using h5
    have hT : l.take (j + 1) = l.take j ++ [l[j]] := take_step h4
    conv => whnf
    refine ⟨by
      have e1 := flat_len hb (l.take j)
      have e2 := hb l[j].toNat
      have e3 : (l.take j).length * 1000000 ≤ 100 * 1000000 := Nat.mul_le_mul_right _ (by rw [List.length_take]; omega)
      have e4 : (byl [k]).length = 1 := rfl
      rw [List.length_append, e4]
      omega, ?_⟩
    conv => whnf
    refine ⟨j + 1, ⟨⟨by omega, ?_⟩, by omega⟩, ?_⟩
    · rw [hT, List.all_append, hJ2]; simpa using h5
    rw [hT, List.flatMap_append, ← List.append_assoc, show List.flatMap (fun f => (putM m f.toNat).1) [l[j]] = (putM m l[j].toNat).1 from by simp]
    (conv => whnf); refine ⟨rfl, ?_, ?_, ?_⟩ <;> (repeat' apply And.intro) <;> first | exact trivial | rfl | exact wr_succ _ (by omega) | assumption | exact decide_eq_false (by assumption) | exact decide_eq_true (by assumption)
  · have h4 : l.length ≤ j := by simp at h4; omega
    rw [List.take_of_length_le h4] at hJ2 ⊢
    have hA : allS (putM m) k l = (byl [k] ++ l.flatMap (fun f => (putM m f.toNat).1), true) := if_pos hJ2
    rw [hA]
    conv => whnf
    refine ⟨rfl, ?_, ?_, ?_⟩ <;> (repeat' apply And.intro) <;> first | exact trivial | rfl | assumption
/-- the fields of each kind of command -/
abbrev cmdL : List (List UInt8) := [[], [], [], [], [110], [110], [111], [105], [105], [105, 101], [105, 101], [116], [116, 110, 118], [116, 110, 119, 120], [116, 107], [116, 107], [114], [109], [116, 110], [116, 110], []]
instance (f : Int) : Decidable (fM f) := by unfold fM; infer_instance
theorem cmd_fin : ∀ n : Fin 21, (cmdL.getD n.1 []).length ≤ 100 ∧ ∀ f ∈ cmdL.getD n.1 [], fM f.toNat := by decide
theorem cmd_ok (k : Int) : (gt (d := .str) cmdL k).length ≤ 100 ∧ ∀ f ∈ gt (d := .str) cmdL k, fM f.toNat := by
  show (cmdL.getD k.toNat []).length ≤ 100 ∧ ∀ f ∈ cmdL.getD k.toNat [], fM f.toNat
  rcases Nat.lt_or_ge k.toNat 21 with h | h
  · exact cmd_fin ⟨k.toNat, h⟩
  · have : cmdL.getD k.toNat [] = [] := by rw [List.getD_eq_getElem?_getD, List.getElem?_eq_none h]; rfl
    rw [this]
    exact ⟨by decide, fun _ h => by cases h⟩
def knownM (k : Int) : Bool := decide (1 ≤ k) && decide (k < 21)
theorem wire_known (k : Int) : FnD Tryd.prog 51 [.c (.int .i64 k)] (· = .c (.bool (.sym (knownM k)))) := by
  refine fn0 Tryd.func51 rfl rfl rfl ?_
  conv => whnf
  rfl
/-- the bytes of a command, but for the fields that it has not -/
def bytM (m : MD.T) : List UInt8 × Bool := if knownM m.1 = false then ([], false) else allS (putM m) (IntKind.wrap .u8 m.1) (gt (d := .str) cmdL m.1)
theorem wire_bytes (m : MD.T) (hb : ∀ f, (putM m f).1.length ≤ 1000000) (hm : SmM m) : FnD Tryd.prog 25 [.agg (mc m)] (· = paR (bytM m)) := by
  refine fn0 Tryd.func25 rfl rfl rfl ?_
  conv => whnf
  refine call1 (wire_known m.1) rfl ?_
  conv => whnf
  refine ⟨fun a => ?_, fun a => ?_⟩
  · rw [show bytM m = ([], false) from if_pos (by simpa using a)]
    conv => whnf
  have a : knownM m.1 = true := by simpa using a
  rw [show bytM m = allS (putM m) (IntKind.wrap .u8 m.1) (gt (d := .str) cmdL m.1) from if_neg (by rw [a]; decide)]
  have a1 : 1 ≤ (m.1 : Int) ∧ (m.1 : Int) < 21 := by simpa [knownM] using a
  have a2 : 0 ≤ (m.1 : Int) := Int.le_trans (by decide) a1.1
  clear a
  conv => whnf
  refine any0 ?_
  conv => whnf
  refine ⟨⟨⟨a2, a1.2⟩, a1.2⟩, ?_⟩
  conv => whnf
  refine callrp0 [0] rfl rfl rfl (wire_ofCmd m) rfl rfl rfl rfl rfl rfl [0] rfl rfl ?_
  conv => whnf
  refine callrp0 [0] rfl rfl rfl (wire_allM m (IntKind.wrap .u8 m.1) (gt (d := .str) cmdL m.1) (cmd_ok _).1 (cmd_ok _).2 hb hm) rfl rfl rfl rfl rfl rfl [0] rfl rfl ?_
  conv => whnf
  refine ⟨.inl (by kernel_rfl), after0 ?_⟩
  conv => whnf
end Go.Proofs.YtnldokebmfojeaaDoor
