/- The walk of the law ConsoleTells. Own work. -/
import Derived.Test.YtdhfipjfgigamaaGreatDoorPart9
set_option linter.unusedVariables false
set_option maxRecDepth 100000
namespace Go.Proofs.YtdhfipjfgigamaaGreatDoor.Con
open Go Go.RowKit Go.Lib OE

theorem any_no {α : Type} {f : α → Bool} {l : List α} (h : l.any f = false) : ∀ x ∈ l, f x = false := by
  intro x hx
  cases hf : f x with
  | false => rfl
  | true => rw [List.any_eq_true.2 ⟨x, hx, hf⟩] at h; cases h
theorem props_small {l : List PD.T} (hw : Wf (.list PD) l) (h : largeProps l = false) : okPs l := by
  unfold largeProps at h
  rw [Bool.or_eq_false_iff, decide_eq_false_iff_not] at h
  refine ⟨by have := h.1; omega, fun p hp => ?_⟩
  have := any_no h.2 p hp
  unfold largeP at this
  rw [Bool.or_eq_false_iff, decide_eq_false_iff_not, decide_eq_false_iff_not] at this
  have w : Wf PD p := hw.2 p hp
  exact ⟨by have := this.1; omega, w.2, by have := this.2; omega⟩
theorem props_kind {l : List PD.T} (h : propsS l = true) : ∀ p ∈ l, okK p.2 := by
  intro p hp
  unfold propsS at h
  rw [Bool.and_eq_true] at h
  obtain ⟨i, hi, rfl⟩ := List.mem_iff_getElem.1 hp
  have := List.all_eq_true.1 h.2 i (List.mem_range.2 hi)
  unfold goodAt at this
  rw [Bool.and_eq_true, Bool.and_eq_true, gt_nat (d := PD) l i hi] at this
  exact ok_kind (val_ok this.1.2)
theorem tells_ok {r : Ans.AD.T} (hr : Wf Ans.AD r) (a : Ans.largeA r = false) (g : Ans.goodA r = true) :
    OkA r ∧ (∀ n ∈ (r.2.2.2.1 : List ND.T), ∀ p ∈ (n.2.2 : List PD.T), okK p.2) ∧ (∀ e ∈ (r.2.2.2.2.1 : List ED.T), ∀ p ∈ (e.2.2.2.2 : List PD.T), okK p.2) := by
  unfold Ans.largeA largeGraph at a
  simp only [Bool.or_eq_false_iff, decide_eq_false_iff_not] at a
  obtain ⟨⟨⟨⟨a1, a2⟩, a3, a4⟩, a5⟩, _⟩ := a
  unfold Ans.goodA at g
  simp only [Bool.and_eq_true] at g
  obtain ⟨_, g1, g2, _⟩ := g
  refine ⟨⟨hr, ⟨by omega, fun n hn => ?_⟩, ⟨by omega, fun e he => ?_⟩, by omega⟩, fun n hn => ?_, fun e he => ?_⟩
  · have h := any_no a3 n hn
    unfold largeN at h
    rw [Bool.or_eq_false_iff, decide_eq_false_iff_not] at h
    have w : Wf ND n := hr.2.2.2.1.2 n hn
    exact ⟨by have := h.1; omega, props_small w.2.2 h.2⟩
  · have h := any_no a4 e he
    unfold largeE at h
    rw [Bool.or_eq_false_iff, decide_eq_false_iff_not] at h
    have w : Wf ED e := hr.2.2.2.2.1.2 e he
    exact ⟨by have := h.1; omega, props_small w.2.2.2.2 h.2⟩
  · have h := List.all_eq_true.1 g1 n hn
    unfold Ans.goodN at h
    rw [Bool.and_eq_true] at h
    exact props_kind h.2
  · have h := List.all_eq_true.1 g2 e he
    unfold Ans.goodE at h
    rw [Bool.and_eq_true] at h
    exact props_kind h.2
theorem eqT_same (l : List SD.T) : eqL SD.eqb l l = true := (D.eqb_iff (.list SD) l l).2 rfl
theorem row_ConsoleTells (r : Ans.AD.T) (hr : Wf Ans.AD r) :
    FnD Tryz.prog 5 [.agg (Ans.ac r)] (· = .c (.bool (.sym true))) := by
  refine fn0 Tryz.func5 rfl rfl rfl ?_
  conv => whnf
  refine call1 (Ans.law_Large r) rfl ?_
  conv => whnf
  refine callg0 (fun _ => Ans.ref25_Good r) rfl ?_
  conv => whnf
  refine ⟨fun a => ?_, fun a => ?_⟩
  · conv => whnf
    refine call1 (console_wakes) rfl ?_
    conv => whnf
  rw [Bool.or_eq_false_iff, Bool.not_eq_false'] at a
  obtain ⟨a, g⟩ := a
  obtain ⟨ho, kn, ke⟩ := tells_ok hr a g
  conv => whnf
  refine any0 ?_
  conv => whnf
  refine callr0 (console_Tell r ho) rfl ?_
  conv => whnf
  refine callr0 (ref_Tell r ho kn ke) rfl ?_
  conv => whnf
  refine callr0 (keep_Texts (tellS r) (tellS r)) rfl ?_
  conv => whnf
  refine callrg0 (fun _ => console_wakes) rfl ?_
  conv => whnf
  refine ⟨.inl (by kernel_rfl), after0 ?_⟩
  conv => whnf
  rw [eqT_same]
  rfl
end Go.Proofs.YtdhfipjfgigamaaGreatDoor.Con
