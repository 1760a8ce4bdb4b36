/- The walk of the law CatBack. Own work. -/
import Derived.Test.YthpllblcbbkfdaaCatTurn
import Derived.Test.YthpllblcbbkfdaaCatWakes
set_option linter.unusedVariables false
set_option maxRecDepth 100000
namespace Go.Proofs.Ythpllblcbbkfdaa
open Go Go.RowKit OE

theorem zero_catB {w : World} {ok : Nat → Prop} {v : Value} (h : RS (DX w ok) (.agg cn) v) : RS (DX w ok) (.agg (cc C0)) v := by
  obtain ⟨vs, e, hl⟩ := h
  refine ⟨vs, e, ?_⟩
  generalize vs.toList = n at hl
  match n, hl with
  | [a, b, c, d, e], ⟨h1, h2, h3, h4, h5, _⟩ => exact ⟨nilC h1, nilC h2, nilC h3, nilC h4, h5, trivial⟩
theorem eqC_sameB (c : CD.T) : CD.eqb c c = true := (D.eqb_iff CD c c).2 rfl
theorem encCS_len (c : CD.T) : (encCS c).length ≤ 1000000 := by
  unfold encCS
  split
  · rename_i h
    have hg := goodC_out h
    have b1 := txtB_len hg.t1
    have b2 := txtB_len hg.t2
    have b3 := flB_len encS 144 (l := c.2.2.1) fun r _ => encS_len r
    have b4 := flB_len ixB 52 (l := c.2.2.2.1) fun x hx => by
      have := hg.il hx
      have q1 := putT_b this.1
      have q2 := putT_b this.2
      unfold ixB; rw [List.length_append]; omega
    have m1 := hg.n1
    have m2 := hg.n2
    have m3 := hg.n3
    have m4 := hg.n4
    have p1 := Num.putN_ten (n := c.1.length) (by omega)
    have p2 := Num.putN_ten (n := c.2.1.length) (by omega)
    have p3 := Num.putN_ten (n := c.2.2.1.length) (by omega)
    have p4 := Num.putN_ten (n := c.2.2.2.1.length) (by omega)
    have p5 := putN_b (show Int from c.2.2.2.2) hg.x1
    have p6 : (Num.putN (Int.toNat c.2.2.2.2)).length ≤ 10 := p5
    unfold catB'
    simp only [List.length_append]
    omega
  · simp
theorem row_CatBack (c : CD.T) (hc : Wf CD c) (s : List UInt8) (hs : s.length ≤ 140737488351232) :
    FnD Try.prog 10 [.agg (cc c), .c (.str s)] (· = .c (.bool (.sym true))) := by
  refine fn0 Try.func10 rfl rfl rfl ?_
  conv => whnf
  refine call1 (keep_LargeCat c) rfl ?_
  conv => whnf
  refine ⟨fun h1 => ?_, fun h1 => ?_⟩
  · conv => whnf
    refine call1 (cat_wakes) rfl ?_
    conv => whnf
  rw [Bool.or_eq_false_iff, decide_eq_false_iff_not] at h1
  obtain ⟨s1, s2, s3, s4⟩ := small_cat h1.1
  have hl : s.length ≤ 1000000 := by have := h1.2; omega
  conv => whnf
  refine call1 (keep_CopyCat c s1 s2 s3 s4) rfl ?_
  conv => whnf
  refine call1 (cat_Encode c hc s3) rfl ?_
  conv => whnf
  refine ⟨fun h2 => ?_, fun h2 => ?_⟩
  · have hg : goodC c = true := by
      cases hg : goodC c with
      | true => rfl
      | false => rw [errCS, if_neg (by rw [hg]; decide)] at h2; simp at h2
    conv => whnf
    refine call1 (cat_Decode (encCS c) (encCS_len c)) rfl ?_
    conv => whnf
    rw [show decCS (encCS c) = c by rw [decCS, dec_enc hg]; rfl, show decCE (encCS c) = 0 by rw [decCE, dec_enc hg]; rfl]
    refine callg0 (fun _ => keep_Cats c c) rfl ?_
    conv => whnf
    rw [eqC_sameB]
    refine fk rfl ?_
    conv => whnf
    refine call1 (cat_Decode s hl) rfl ?_
    conv => whnf
    refine ⟨fun h3 => ?_, fun h3 => ?_⟩
    · have hD : decO s = none := by
        cases hD : decO s with
        | none => rfl
        | some d => rw [decCE, hD] at h3; simp at h3
      rw [show decCS s = C0 by rw [decCS, hD]; rfl]
      conv => whnf
      refine callg0 (fun _ => (keep_Cats C0 C0).args fun w ok => ⟨sameA, fun _ h => zero_catB h, trivial⟩) rfl ?_
      conv => whnf
      refine callg0 (fun _ => cat_wakes) rfl ?_
      conv => whnf
      rw [eqC_sameB, show decCE s = 11 by rw [decCE, hD]; rfl]
      rfl
    obtain ⟨d, hD⟩ : ∃ d, decO s = some d := by
      cases hD : decO s with
      | none => rw [decCE, hD] at h3; simp at h3
      | some d => exact ⟨d, rfl⟩
    obtain ⟨g1, g2⟩ := enc_dec hD
    have hgd := goodC_out g1
    rw [show decCS s = d by rw [decCS, hD]; rfl]
    conv => whnf
    refine call1 (cat_Encode d (good_wf g1) (by have := hgd.n3; omega)) rfl ?_
    conv => whnf
    refine callg0 (fun _ => cat_Good d (good_wf g1).2.2.1.2 (by have := hgd.n3; omega)) rfl ?_
    conv => whnf
    refine callg0 (fun _ => cat_wakes) rfl ?_
    conv => whnf
    rw [g1, show encCS d = s by rw [← g2]; exact if_pos g1, show errCS d = 0 from if_pos g1]
    simp
  · conv => whnf
    refine call1 (cat_Decode s hl) rfl ?_
    conv => whnf
    refine ⟨fun h3 => ?_, fun h3 => ?_⟩
    · have hD : decO s = none := by
        cases hD : decO s with
        | none => rfl
        | some d => rw [decCE, hD] at h3; simp at h3
      rw [show decCS s = C0 by rw [decCS, hD]; rfl]
      conv => whnf
      refine callg0 (fun _ => (keep_Cats C0 C0).args fun w ok => ⟨sameA, fun _ h => zero_catB h, trivial⟩) rfl ?_
      conv => whnf
      refine callg0 (fun _ => cat_wakes) rfl ?_
      conv => whnf
      rw [eqC_sameB, show decCE s = 11 by rw [decCE, hD]; rfl]
      rfl
    obtain ⟨d, hD⟩ : ∃ d, decO s = some d := by
      cases hD : decO s with
      | none => rw [decCE, hD] at h3; simp at h3
      | some d => exact ⟨d, rfl⟩
    obtain ⟨g1, g2⟩ := enc_dec hD
    have hgd := goodC_out g1
    rw [show decCS s = d by rw [decCS, hD]; rfl]
    conv => whnf
    refine call1 (cat_Encode d (good_wf g1) (by have := hgd.n3; omega)) rfl ?_
    conv => whnf
    refine callg0 (fun _ => cat_Good d (good_wf g1).2.2.1.2 (by have := hgd.n3; omega)) rfl ?_
    conv => whnf
    refine callg0 (fun _ => cat_wakes) rfl ?_
    conv => whnf
    rw [g1, show encCS d = s by rw [← g2]; exact if_pos g1, show errCS d = 0 from if_pos g1]
    simp
end Go.Proofs.Ythpllblcbbkfdaa
