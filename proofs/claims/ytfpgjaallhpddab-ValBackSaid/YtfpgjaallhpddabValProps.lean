/- The walks of val.Props and of the reference's. Own work. -/
import Derived.Test.YtfpgjaallhpddabValOrd
import Derived.Test.YtfpgjaallhpddabValGood
set_option linter.unusedVariables false
set_option maxRecDepth 100000
namespace Go.Proofs.Ytfpgjaallhpddab
open Go Go.RowKit OE

theorem bl_not (p q : List UInt8) : (Op.bytesLess p q || decide (p = q)) = !Op.bytesLess q p := by
  rcases bl_tri p q with h | h | h
  · have : Op.bytesLess q p = false := by
      cases h2 : Op.bytesLess q p with
      | false => rfl
      | true => have := bl_trans h h2; rw [bytesLess_irr] at this; cases this
    rw [h, this]; rfl
  · subst h; rw [bytesLess_irr]; simp
  · have h1 : Op.bytesLess p q = false := by
      cases h2 : Op.bytesLess p q with
      | false => rfl
      | true => have := bl_trans h h2; rw [bytesLess_irr] at this; cases this
    have h2 : p ≠ q := fun e => by subst e; rw [bytesLess_irr] at h; cases h
    rw [h, h1, decide_eq_false h2]; rfl
theorem name_len {s : List UInt8} (h : nameS s = true) : s.length ≤ 16 := by
  unfold nameS at h
  simp only [Bool.and_eq_true, decide_eq_true_eq] at h
  exact h.1.1.2
def pv (l : List PD.T) (i : Nat) : List UInt8 := (gt (d := PD) l ((i : Int) - 1)).1
/-- is the i-th property good where it stands? -/
def goodAt (l : List PD.T) (i : Nat) : Bool := nameS (gt (d := PD) l i).1 && goodV (gt (d := PD) l i).2 && (!decide ((0 : Int) < i) || Op.bytesLess (pv l i) (gt (d := PD) l i).1)
def propsS (l : List PD.T) : Bool := !decide ((8 : Int) < l.length) && (List.range l.length).all (goodAt l)

theorem val_Props (l : List PD.T) (hl : ∀ p ∈ l, (Lit.int .i64 p.2.1).wf = true) : FnD Try.prog 22 [.c (.dat PD l)] (· = .c (.bool (.sym (propsS l)))) := by
  refine fn0 Try.func22 rfl rfl rfl ?_
  conv => whnf
  intro _
  refine ⟨fun h0 => ?_, fun h0 => ?_⟩
  · conv => whnf
    rw [propsS, h0]; rfl
  have hP : propsS l = (List.range l.length).all (goodAt l) := by rw [propsS, h0]; rfl
  simp at h0
  rw [hP]
  conv => whnf
  intro _
  conv => whnf
  refine loop0 (α := Nat) (fun i => i ≤ l.length ∧ ((List.range l.length).drop i).all (goodAt l) = (List.range l.length).all (goodAt l))
    (fun i => ⟨[(0, .c (.dat PD l)), (8, .c (.dat PD l)), (9, .c (.int .i64 l.length)), (10, .c (.int .i64 i))], [], 0⟩) (fun i => l.length - i) ⟨0, ⟨by omega, rfl⟩, ?_⟩ ?_
  · (conv => whnf); refine ⟨rfl, ?_, ?_, ?_⟩ <;> (repeat' apply And.intro) <;> first | exact trivial | rfl | exact wr_succ _ (by omega) | assumption | exact decide_eq_false (by assumption) | exact decide_eq_true (by assumption)
  rintro i ⟨hI1, hI2⟩
  conv => whnf
  refine ⟨fun h2 => ?_, fun h2 => ?_⟩
  · have h2 : i < l.length := by simp at h2; omega
    rw [all_step (by rw [List.length_range]; exact h2), List.getElem_range] at hI2
    have hg : gt (d := PD) l (i : Int) = l[i] := gt_nat (d := PD) l i h2
    have hA : goodAt l i = (nameS l[i].1 && goodV l[i].2 && (!decide ((0 : Int) < i) || Op.bytesLess (pv l i) l[i].1)) := by unfold goodAt; rw [hg]
    have hw : IntKind.wrap .i64 ((i : Int) - 1) = (i : Int) - 1 := wr64 _ (by omega) (by omega)
    conv => whnf
    try (intro _; conv => whnf)
    refine ⟨by omega, ?_⟩
    rw [gt_nat (d := PD) l i h2]
    conv => whnf
    refine any0 ?_
    conv => whnf
    refine callr0 (val_Name l[i].1) rfl ?_
    conv => whnf
    refine callrg0 (fun _ => val_Good l[i].2 (hl l[i] (List.getElem_mem h2))) rfl ?_
    conv => whnf
    refine ⟨fun h => by have := h.2; simp at this; rw [hw]; omega, ?_⟩
    conv => whnf
    rw [hw]
    refine ⟨.inl (by kernel_rfl), after0 ?_⟩
    conv => whnf
    have hc : (!nameS l[i].1 || !goodV l[i].2 || (decide ((0 : Int) < i) && (Op.bytesLess l[i].1 (pv l i) || decide (l[i].1 = pv l i)))) = !goodAt l i := by
      rw [bl_not, hA]
      cases nameS l[i].1 <;> cases goodV l[i].2 <;> cases decide ((0 : Int) < i) <;> cases Op.bytesLess (pv l i) l[i].1 <;> rfl
    refine ⟨fun h3 => ?_, fun h3 => ?_⟩
    · have h3 : goodAt l i = false := by have h3' := hc.symm.trans h3; simpa using h3'
      rw [h3, Bool.false_and] at hI2
      conv => whnf
      rw [← hI2]
    · have h3 : goodAt l i = true := by have h3' := hc.symm.trans h3; simpa using h3'
      rw [h3, Bool.true_and] at hI2
      conv => whnf
      refine ⟨i + 1, ⟨⟨by omega, hI2⟩, by omega⟩, ?_⟩
      (conv => whnf); refine ⟨rfl, ?_, ?_, ?_⟩ <;> (repeat' apply And.intro) <;> first | exact trivial | rfl | exact wr_succ _ (by omega) | assumption | exact decide_eq_false (by assumption) | exact decide_eq_true (by assumption)
  · conv => whnf
    rw [← hI2, List.drop_of_length_le (by rw [List.length_range]; simp at h2; omega)]
    rfl

end Go.Proofs.Ytfpgjaallhpddab
