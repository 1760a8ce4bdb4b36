/- The walk of the law ValTurns. Own work. -/
import Derived.Test.YtfpgjaallhpddaaValWakes
import Derived.Test.YtfpgjaallhpddaaValOrd
import Derived.Test.YtfpgjaallhpddaaValRefSet
set_option linter.unusedVariables false
set_option maxRecDepth 100000
namespace Go.Proofs.Ytfpgjaallhpddaa
open Go Go.RowKit OE

theorem good_kind {v : VD.T} (h : goodV v = true) : v.1 ≠ 0 := by
  intro e
  unfold goodV at h
  rw [e] at h
  simp at h

/-- two properties in their order -/
def twoP (a b : List UInt8) (v w : VD.T) : List PD.T := if Op.bytesLess a b = true then [(a, v), (b, w)] else [(b, w), (a, v)]
theorem set1 (a : List UInt8) (v : VD.T) (h : v.1 ≠ 0) : setP [] a v = [(a, v)] := by
  unfold setP; rw [if_neg h]; rfl
theorem set0 (a : List UInt8) (v w : VD.T) (h : w.1 ≠ 0) : setP [(a, v)] a w = [(a, w)] := by
  have e : outP [((a, v) : PD.T)] a = [] := by rw [outP_cons, if_pos rfl]; rfl
  unfold setP; rw [if_neg h, e]; rfl
theorem bl_ne {a b : List UInt8} (h : a ≠ b) : Op.bytesLess a b = !Op.bytesLess b a := by
  rcases bl_tri a b with h1 | h1 | h1
  · have : Op.bytesLess b a = false := by
      cases h2 : Op.bytesLess b a with
      | false => rfl
      | true => have := bl_trans h1 h2; rw [bytesLess_irr] at this; cases this
    rw [h1, this]; rfl
  · exact (h h1).elim
  · have : Op.bytesLess a b = false := by
      cases h2 : Op.bytesLess a b with
      | false => rfl
      | true => have := bl_trans h1 h2; rw [bytesLess_irr] at this; cases this
    rw [h1, this]; rfl
theorem out1 (a b : List UInt8) (v : VD.T) (h : a ≠ b) : outP [((a, v) : PD.T)] b = [(a, v)] := by rw [outP_cons, if_neg h]; rfl
theorem set2 (a b : List UInt8) (v w : VD.T) (h : a ≠ b) (hw : w.1 ≠ 0) : setP [(a, v)] b w = twoP a b v w := by
  unfold setP
  rw [if_neg hw, out1 a b v h]
  unfold twoP
  cases hb : Op.bytesLess a b with
  | true => simp [idxP, geP, List.findIdx_cons, hb]
  | false => simp [idxP, geP, List.findIdx_cons, hb]
theorem set2' (a b : List UInt8) (v w : VD.T) (h : a ≠ b) (hv : v.1 ≠ 0) : setP [(b, w)] a v = twoP a b v w := by
  rw [set2 b a w v (Ne.symm h) hv]
  unfold twoP
  rw [bl_ne h]
  cases hb : Op.bytesLess b a <;> simp
theorem outA (a b : List UInt8) (v w : VD.T) (h : a ≠ b) : outP (twoP a b v w) a = [(b, w)] := by
  unfold twoP
  split
  · rw [outP_cons, if_pos rfl, outP_cons, if_neg (Ne.symm h)]; rfl
  · rw [outP_cons, if_neg (Ne.symm h), outP_cons, if_pos rfl]; rfl
theorem set3 (a b : List UInt8) (v w : VD.T) (h : a ≠ b) (hv : v.1 ≠ 0) : setP (twoP a b v w) a v = twoP a b v w := by
  have e := set2' a b v w h hv
  unfold setP at e ⊢
  rw [if_neg hv] at e ⊢
  rw [outA a b v w h]
  rw [out1 b a w (Ne.symm h)] at e
  exact e
theorem set4 (a b : List UInt8) (v w z : VD.T) (h : a ≠ b) (hz : z.1 = 0) : setP (setP (twoP a b v w) a z) b z = [] := by
  have e : setP (twoP a b v w) a z = [(b, w)] := by unfold setP; rw [if_pos hz, outA a b v w h]
  rw [e]
  unfold setP
  rw [if_pos hz, outP_cons, if_pos rfl]
  rfl

abbrev ND2 : D := .pair .str .str
theorem row_ValTurns (ns : ND2.T) (hn : Wf ND2 ns) (v : VD.T) (hv : Wf VD v) (w : VD.T) (hw : Wf VD w) :
    FnD Try.prog 9 [.agg [.str ns.1, .str ns.2], .agg (vc v), .agg (vc w)] (· = .c (.bool (.sym true))) := by
  have eqV : ∀ x : VD.T, VD.eqb x x = true := fun x => (D.eqb_iff VD x x).2 rfl
  have eqP : ∀ x : List PD.T, eqL PD.eqb x x = true := fun x => (D.eqb_iff (.list PD) x x).2 rfl
  obtain ⟨a, b⟩ := ns
  dsimp only
  refine fn0 Try.func9 rfl rfl rfl ?_
  conv => whnf
  refine any0 ?_
  conv => whnf
  refine ⟨.inl (by kernel_rfl), after0 ?_⟩
  conv => whnf
  refine callg0 (fun _ => keep_LargeValue v) rfl ?_
  conv => whnf
  refine callg0 (fun _ => keep_LargeValue w) rfl ?_
  conv => whnf
  refine callg0 (fun _ => ref_Good v) rfl ?_
  conv => whnf
  refine callg0 (fun _ => ref_Good w) rfl ?_
  conv => whnf
  refine ⟨fun h1 => ?_, fun h1 => ?_⟩
  · conv => whnf
    refine call1 (val_wakes) rfl ?_
    conv => whnf
  simp only [Bool.or_eq_false_iff, Bool.not_eq_eq_eq_not] at h1
  have gv : v.1 ≠ 0 := good_kind (by simpa using h1.1.2)
  have gw : w.1 ≠ 0 := good_kind (by simpa using h1.2)
  conv => whnf
  refine any0 ?_
  conv => whnf
  refine callr0 ((val_Set [] a v (by decide)).args fun w ok => ⟨nilA, sameA, sameA, trivial⟩) rfl ?_
  conv => whnf
  rw [set1 a v gv]
  refine callr0 (val_Set [(a, v)] b w (by simp)) rfl ?_
  conv => whnf
  refine ⟨.inl (by kernel_rfl), after0 ?_⟩
  conv => whnf
  refine any0 ?_
  conv => whnf
  refine callr0 ((val_Set [] b w (by decide)).args fun w ok => ⟨nilA, sameA, sameA, trivial⟩) rfl ?_
  conv => whnf
  rw [set1 b w gw]
  refine callr0 (val_Set [(b, w)] a v (by simp)) rfl ?_
  conv => whnf
  refine ⟨.inl (by kernel_rfl), after0 ?_⟩
  conv => whnf
  refine ⟨fun h2 => ?_, fun h2 => ?_⟩
  · have h2 : a = b := by simpa using h2
    subst h2
    rw [set0 a v w gw, set0 a w v gv]
    conv => whnf
    refine any0 ?_
    conv => whnf
    refine ⟨fun _ => by simp, ?_⟩
    conv => whnf
    refine callrg0 (fun _ => keep_Value w w) rfl ?_
    conv => whnf
    refine ⟨fun _ => by simp, ?_⟩
    conv => whnf
    refine callrg0 (fun _ => keep_Value v v) rfl ?_
    conv => whnf
    refine callrg0 (fun _ => val_wakes) rfl ?_
    conv => whnf
    refine ⟨.inl (by kernel_rfl), after0 ?_⟩
    conv => whnf
    rw [eqV w, eqV v]
    rfl
  · have h2 : a ≠ b := by simpa using h2
    rw [set2 a b v w h2 gw, set2' a b v w h2 gv]
    conv => whnf
    have hl0 : (setP (twoP a b v w) a (0, 0, [])).length ≤ 1000 := by
      have e : setP (twoP a b v w) a (0, 0, []) = [(b, w)] := by unfold setP; rw [if_pos rfl, outA a b v w h2]
      rw [e]; simp
    have hl : (twoP a b v w).length = 2 := by unfold twoP; split <;> rfl
    have hlt : Op.bytesLess (gt (d := PD) (twoP a b v w) 0).1 (gt (d := PD) (twoP a b v w) 1).1 = true := by
      unfold twoP
      split
      · rename_i h; exact h
      · rename_i h
        have h' : Op.bytesLess a b = false := by simpa using h
        have := bl_ne h2
        rw [h'] at this
        show Op.bytesLess b a = true
        simpa using this.symm
    refine any0 ?_
    conv => whnf
    refine callrg0 (fun _ => keep_Props (twoP a b v w) (twoP a b v w)) rfl ?_
    conv => whnf
    refine ⟨fun _ => by rw [hl]; decide, ?_⟩
    conv => whnf
    refine ⟨fun _ => by rw [hl]; decide, ?_⟩
    conv => whnf
    refine callrg0 (fun _ => val_Set (twoP a b v w) a v (by rw [hl]; decide)) rfl ?_
    conv => whnf
    rw [set3 a b v w h2 gv]
    refine callrg0 (fun _ => keep_Props (twoP a b v w) (twoP a b v w)) rfl ?_
    conv => whnf
    refine callrg0 (fun _ => val_Set (twoP a b v w) a (0, 0, []) (by rw [hl]; decide)) rfl ?_
    conv => whnf
    refine callrg0 (fun _ => val_Set (setP (twoP a b v w) a (0, 0, [])) b (0, 0, []) hl0) rfl ?_
    conv => whnf
    rw [set4 a b v w (0, 0, []) h2 rfl]
    refine callrg0 (fun _ => val_wakes) rfl ?_
    conv => whnf
    refine ⟨.inl (by kernel_rfl), after0 ?_⟩
    conv => whnf
    rw [eqP, hlt, hl]
    rfl
end Go.Proofs.Ytfpgjaallhpddaa
