/- The walk of the law CatStays. Own work. -/
import Derived.Test.YthpllblcbbkfdaaCatFull
import Derived.Test.YthpllblcbbkfdaaCatAddIndex
import Derived.Test.YthpllblcbbkfdaaLawCatGoods
set_option linter.unusedVariables false
set_option maxRecDepth 100000
namespace Go.Proofs.Ythpllblcbbkfdaa
open Go Go.RowKit OE

def prN (n : Int) : Int := n - 1
theorem wr_prN (n : Int) (h : (1 : Int) ≤ n ∧ n ≤ 1000000) : IntKind.wrap .i64 (n - 1) = prN n := wr64 _ (by omega) (by omega)
theorem wr_unN (n : Int) (h : (1 : Int) ≤ n ∧ n ≤ 1000000) : IntKind.wrap .i64 (prN n + 1) = n := by
  unfold prN
  rw [Int.sub_add_cancel]
  exact wr64 _ (by omega) (by omega)
theorem prN_nxt (n : Int) : prN (nxtN n) = n := by unfold prN nxtN; omega
/-- a change: its kind, an Id, a rule, an index -/
abbrev UD : D := .pair (.int .i64) (.pair (.int .i64) (.pair RD ID))
theorem row_CatStays (c : CD.T) (hc : Wf CD c) (l : List UD.T) (hl : Wf (.list UD) l) :
    FnD Try.prog 14 [.agg (cc c), .c (.dat UD l)] (· = .c (.bool (.sym true))) := by
  refine fn0 Try.func14 rfl rfl rfl ?_
  conv => whnf
  refine call1 (keep_LargeCat c) rfl ?_
  conv => whnf
  refine callg0 (fun _ => ref16_Good c) rfl ?_
  conv => whnf
  refine ⟨fun h1 => ?_, fun h1 => ?_⟩
  · conv => whnf
    refine call1 (cat_wakes) rfl ?_
    conv => whnf
  rw [Bool.or_eq_false_iff] at h1
  have hg : goodC c = true := by simpa using h1.2
  obtain ⟨s1, s2, s3, s4⟩ := small_cat h1.1
  conv => whnf
  refine call1 (keep_CopyCat c s1 s2 s3 s4) rfl ?_
  conv => whnf
  have hb := good_next hg
  rw [wr_prN c.2.2.2.2 hb]
  refine loop0 (α := Nat × CD.T) (fun p => p.1 ≤ l.length ∧ goodC p.2 = true)
    (fun p => ⟨[(1, .c (.dat UD l)), (2, .c (.ptr 0 0)), (4, .c (.bool .ff)), (5, .c (.int .i64 (prN p.2.2.2.2.2))), (6, .c (.int .i64 p.1))], [(0, .cells 26 (cc p.2))], 1⟩) (fun p => l.length - p.1) ⟨(0, c), ⟨by omega, hg⟩, ?_⟩ ?_
  · (conv => whnf); refine ⟨rfl, ?_, ?_, ?_⟩ <;> (repeat' apply And.intro) <;> first | exact trivial | rfl | exact wr_succ _ (by omega) | assumption | exact decide_eq_false (by assumption) | exact decide_eq_true (by assumption)
  clear hb s1 s2 s3 s4 h1 hg hc c
  rintro ⟨j, c⟩ ⟨hj, hg⟩
  dsimp only at hj hg ⊢
  obtain ⟨s1, s2, s3, s4⟩ := good_len hg
  have hc := good_wf hg
  have hb := good_next hg
  conv => whnf
  intro _
  conv => whnf
  refine ⟨fun h2 => ?_, fun h2 => ?_⟩
  · have h4 : j < l.length := by simp at h2; omega
    conv => whnf
    try (intro _; conv => whnf)
    refine ⟨by omega, ?_⟩
    rw [gt_nat (d := UD) l j h4]
    conv => whnf
    refine call1 (keep_LargeRule l[j].2.2.1) rfl ?_
    conv => whnf
    refine ⟨fun h5 => ?_, fun h5 => ?_⟩
    · conv => whnf
      refine call1 (cat_wakes) rfl ?_
      conv => whnf
    conv => whnf
    refine ⟨fun k0 => ?_, fun k0 => ?_⟩
    · conv => whnf
      refine call1 (cat_AddRule c l[j].2.2.1 hc s1 s2 s3 s4) rfl ?_
      conv => whnf
      refine ⟨fun h6 => ?_, fun h6 => ?_⟩
      · have h6 : (addRS c l[j].2.2.1).2.2 = 0 := of_decide_eq_true h6
        obtain ⟨hG, hN, hI⟩ := stay_add h6
        conv => whnf
        rw [wr_unN c.2.2.2.2 hb, hI]
        refine fk (by simp) ?_
        conv => whnf
        refine tk (by rw [decide_eq_true_eq]; exact h6) ?_
        conv => whnf
        refine call1 (ref16_Good (addRS c l[j].2.2.1).1) rfl ?_
        conv => whnf
        refine fk (by rw [hG]; rfl) ?_
        conv => whnf
        have hN' : prN (addRS c l[j].2.2.1).1.2.2.2.2 = c.2.2.2.2 := by rw [hN, prN_nxt]
        refine ⟨(j + 1, (addRS c l[j].2.2.1).1), ⟨⟨by dsimp only; omega, hG⟩, by dsimp only; omega⟩, ?_⟩
        (conv => whnf); refine ⟨rfl, ?_, ?_, ?_⟩ <;> (repeat' apply And.intro) <;> first | exact trivial | rfl | exact wr_succ _ (by omega) | assumption | exact decide_eq_false (by assumption) | exact decide_eq_true (by assumption)
      · conv => whnf
        refine fk h6 ?_
        conv => whnf
        refine ⟨(j + 1, c), ⟨⟨by dsimp only; omega, hg⟩, by dsimp only; omega⟩, ?_⟩
        (conv => whnf); refine ⟨rfl, ?_, ?_, ?_⟩ <;> (repeat' apply And.intro) <;> first | exact trivial | rfl | exact wr_succ _ (by omega) | assumption | exact decide_eq_false (by assumption) | exact decide_eq_true (by assumption)
    conv => whnf
    refine ⟨fun k1 => ?_, fun k1 => ?_⟩
    · conv => whnf
      refine call1 (cat_Enable c l[j].2.1 hc s1 s2 s3 s4) rfl ?_
      conv => whnf
      refine ⟨fun h6 => ?_, fun h6 => ?_⟩
      · have h6 : (enableS c l[j].2.1).2 = 0 := of_decide_eq_true h6
        obtain ⟨hG, hN⟩ := stay_enable h6
        conv => whnf
        refine call1 (ref16_Good (enableS c l[j].2.1).1) rfl ?_
        conv => whnf
        refine fk (by rw [hG]; rfl) ?_
        conv => whnf
        have hN' : prN (enableS c l[j].2.1).1.2.2.2.2 = prN c.2.2.2.2 := by rw [hN]
        refine ⟨(j + 1, (enableS c l[j].2.1).1), ⟨⟨by dsimp only; omega, hG⟩, by dsimp only; omega⟩, ?_⟩
        (conv => whnf); refine ⟨rfl, ?_, ?_, ?_⟩ <;> (repeat' apply And.intro) <;> first | exact trivial | rfl | exact wr_succ _ (by omega) | assumption | exact decide_eq_false (by assumption) | exact decide_eq_true (by assumption)
      · conv => whnf
        refine ⟨(j + 1, c), ⟨⟨by dsimp only; omega, hg⟩, by dsimp only; omega⟩, ?_⟩
        (conv => whnf); refine ⟨rfl, ?_, ?_, ?_⟩ <;> (repeat' apply And.intro) <;> first | exact trivial | rfl | exact wr_succ _ (by omega) | assumption | exact decide_eq_false (by assumption) | exact decide_eq_true (by assumption)
    conv => whnf
    refine ⟨fun k2 => ?_, fun k2 => ?_⟩
    · conv => whnf
      refine call1 (cat_DropRule c l[j].2.1 hc s1 s2 s3 s4) rfl ?_
      conv => whnf
      refine ⟨fun h6 => ?_, fun h6 => ?_⟩
      · have h6 : (dropRS c l[j].2.1).2 = 0 := of_decide_eq_true h6
        obtain ⟨hG, hN⟩ := stay_drop h6
        conv => whnf
        refine call1 (ref16_Good (dropRS c l[j].2.1).1) rfl ?_
        conv => whnf
        refine fk (by rw [hG]; rfl) ?_
        conv => whnf
        have hN' : prN (dropRS c l[j].2.1).1.2.2.2.2 = prN c.2.2.2.2 := by rw [hN]
        refine ⟨(j + 1, (dropRS c l[j].2.1).1), ⟨⟨by dsimp only; omega, hG⟩, by dsimp only; omega⟩, ?_⟩
        (conv => whnf); refine ⟨rfl, ?_, ?_, ?_⟩ <;> (repeat' apply And.intro) <;> first | exact trivial | rfl | exact wr_succ _ (by omega) | assumption | exact decide_eq_false (by assumption) | exact decide_eq_true (by assumption)
      · conv => whnf
        refine ⟨(j + 1, c), ⟨⟨by dsimp only; omega, hg⟩, by dsimp only; omega⟩, ?_⟩
        (conv => whnf); refine ⟨rfl, ?_, ?_, ?_⟩ <;> (repeat' apply And.intro) <;> first | exact trivial | rfl | exact wr_succ _ (by omega) | assumption | exact decide_eq_false (by assumption) | exact decide_eq_true (by assumption)
    conv => whnf
    refine ⟨fun k3 => ?_, fun k3 => ?_⟩
    · conv => whnf
      refine call1 (cat_AddIndex c l[j].2.2.2 hc s1 s2 s3 s4) rfl ?_
      conv => whnf
      refine ⟨fun h6 => ?_, fun h6 => ?_⟩
      · have h6 : (addIS c l[j].2.2.2).2 = 0 := of_decide_eq_true h6
        obtain ⟨hG, hN⟩ := stay_addI h6
        conv => whnf
        refine call1 (ref16_Good (addIS c l[j].2.2.2).1) rfl ?_
        conv => whnf
        refine fk (by rw [hG]; rfl) ?_
        conv => whnf
        have hN' : prN (addIS c l[j].2.2.2).1.2.2.2.2 = prN c.2.2.2.2 := by rw [hN]
        refine ⟨(j + 1, (addIS c l[j].2.2.2).1), ⟨⟨by dsimp only; omega, hG⟩, by dsimp only; omega⟩, ?_⟩
        (conv => whnf); refine ⟨rfl, ?_, ?_, ?_⟩ <;> (repeat' apply And.intro) <;> first | exact trivial | rfl | exact wr_succ _ (by omega) | assumption | exact decide_eq_false (by assumption) | exact decide_eq_true (by assumption)
      · conv => whnf
        refine ⟨(j + 1, c), ⟨⟨by dsimp only; omega, hg⟩, by dsimp only; omega⟩, ?_⟩
        (conv => whnf); refine ⟨rfl, ?_, ?_, ?_⟩ <;> (repeat' apply And.intro) <;> first | exact trivial | rfl | exact wr_succ _ (by omega) | assumption | exact decide_eq_false (by assumption) | exact decide_eq_true (by assumption)
    conv => whnf
    refine ⟨fun k4 => ?_, fun k4 => ?_⟩
    · conv => whnf
      refine call1 (cat_DropIndex c l[j].2.2.2 hc s1 s2 s3 s4) rfl ?_
      conv => whnf
      refine ⟨fun h6 => ?_, fun h6 => ?_⟩
      · have h6 : (dropIS c l[j].2.2.2).2 = 0 := of_decide_eq_true h6
        obtain ⟨hG, hN⟩ := stay_dropI h6
        conv => whnf
        refine call1 (ref16_Good (dropIS c l[j].2.2.2).1) rfl ?_
        conv => whnf
        refine fk (by rw [hG]; rfl) ?_
        conv => whnf
        have hN' : prN (dropIS c l[j].2.2.2).1.2.2.2.2 = prN c.2.2.2.2 := by rw [hN]
        refine ⟨(j + 1, (dropIS c l[j].2.2.2).1), ⟨⟨by dsimp only; omega, hG⟩, by dsimp only; omega⟩, ?_⟩
        (conv => whnf); refine ⟨rfl, ?_, ?_, ?_⟩ <;> (repeat' apply And.intro) <;> first | exact trivial | rfl | exact wr_succ _ (by omega) | assumption | exact decide_eq_false (by assumption) | exact decide_eq_true (by assumption)
      · conv => whnf
        refine ⟨(j + 1, c), ⟨⟨by dsimp only; omega, hg⟩, by dsimp only; omega⟩, ?_⟩
        (conv => whnf); refine ⟨rfl, ?_, ?_, ?_⟩ <;> (repeat' apply And.intro) <;> first | exact trivial | rfl | exact wr_succ _ (by omega) | assumption | exact decide_eq_false (by assumption) | exact decide_eq_true (by assumption)
    conv => whnf
    refine ⟨fun k5 => ?_, fun k5 => ?_⟩
    · conv => whnf
      refine call1 (cat_Settle c hc s1 s2 s3 s4) rfl ?_
      conv => whnf
      have hG := stay_settle hg
      have hN : (settleS c).2.2.2.2 = c.2.2.2.2 := by unfold settleS; rw [if_neg (by rw [hg]; decide)]
      refine tk rfl ?_
      conv => whnf
      refine call1 (ref16_Good (settleS c)) rfl ?_
      conv => whnf
      refine fk (by rw [hG]; rfl) ?_
      conv => whnf
      have hN' : prN (settleS c).2.2.2.2 = prN c.2.2.2.2 := by rw [hN]
      refine ⟨(j + 1, settleS c), ⟨⟨by dsimp only; omega, hG⟩, by dsimp only; omega⟩, ?_⟩
      (conv => whnf); refine ⟨rfl, ?_, ?_, ?_⟩ <;> (repeat' apply And.intro) <;> first | exact trivial | rfl | exact wr_succ _ (by omega) | assumption | exact decide_eq_false (by assumption) | exact decide_eq_true (by assumption)
    conv => whnf
    refine tk rfl ?_
    conv => whnf
    refine call1 (ref16_Good c) rfl ?_
    conv => whnf
    refine fk (by rw [hg]; rfl) ?_
    conv => whnf
    refine ⟨(j + 1, c), ⟨⟨by dsimp only; omega, hg⟩, by dsimp only; omega⟩, ?_⟩
    (conv => whnf); refine ⟨rfl, ?_, ?_, ?_⟩ <;> (repeat' apply And.intro) <;> first | exact trivial | rfl | exact wr_succ _ (by omega) | assumption | exact decide_eq_false (by assumption) | exact decide_eq_true (by assumption)
  · conv => whnf
    refine call1 (cat_wakes) rfl ?_
    conv => whnf
end Go.Proofs.Ythpllblcbbkfdaa
