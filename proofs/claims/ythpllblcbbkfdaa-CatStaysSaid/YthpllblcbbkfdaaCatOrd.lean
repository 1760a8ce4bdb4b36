/- The order of indexes, and the walks of cat.ahead and of the reference's. Own work. -/
import Derived.Test.YthpllblcbbkfdaaCmp
import Derived.Test.YthpllblcbbkfdaaKeepCat
set_option linter.unusedVariables false
set_option maxRecDepth 100000
namespace Go.Proofs.Ythpllblcbbkfdaa
open Go Go.RowKit OE

def ltIx (a b : ID.T) : Bool := Op.bytesLess a.1 b.1 || (decide (a.1 = b.1) && Op.bytesLess a.2 b.2)
def cmpIx (a b : ID.T) : Int := orI [cmpT a.1 b.1, cmpT a.2 b.2]
theorem cmpIx_eq (a b : ID.T) : cmpIx a b = if ltIx a b = true then -1 else if a = b then 0 else 1 := by
  obtain ⟨x, y⟩ := a
  obtain ⟨x', y'⟩ := b
  unfold cmpIx ltIx
  simp only [orI]
  by_cases h1 : x = x'
  · subst h1
    rw [(cmpT_zero x x).2 rfl, bytesLess_irr]
    simp only [Bool.false_or, decide_true, Bool.true_and, if_true, Prod.mk.injEq, true_and]
    by_cases h2 : y = y'
    · subst h2
      rw [(cmpT_zero y y).2 rfl, bytesLess_irr]; simp
    · have h3 : cmpT y y' ≠ 0 := fun h => h2 ((cmpT_zero _ _).1 h)
      rw [if_neg h3]
      unfold cmpT at h3 ⊢
      by_cases h4 : Op.bytesLess y y' = true
      · rw [if_pos h4, if_pos h4]
      · rw [if_neg h4, if_neg h4, if_neg h2]
        rcases bl_tri y y' with h | h | h
        · exact (h4 h).elim
        · exact (h2 h).elim
        · rw [if_pos h]
  · have h3 : cmpT x x' ≠ 0 := fun h => h1 ((cmpT_zero _ _).1 h)
    rw [if_neg h3]
    simp only [decide_eq_false h1, Bool.false_and, Bool.or_false]
    unfold cmpT
    by_cases h4 : Op.bytesLess x x' = true
    · rw [if_pos h4, if_pos h4]
    · rw [if_neg h4, if_neg h4, if_neg (show ¬ ((x, y) : ID.T) = (x', y') from fun e => h1 (congrArg Prod.fst e))]
      rcases bl_tri x x' with h | h | h
      · exact (h4 h).elim
      · exact (h1 h).elim
      · rw [if_pos h]
theorem ltIx_irr (a : ID.T) : ltIx a a = false := by unfold ltIx; rw [bytesLess_irr, bytesLess_irr]; simp
theorem ltIx_iff (a b : ID.T) : ltIx a b = true ↔ Op.bytesLess a.1 b.1 = true ∨ a.1 = b.1 ∧ Op.bytesLess a.2 b.2 = true := by
  simp only [ltIx, Bool.or_eq_true, Bool.and_eq_true, decide_eq_true_eq]
theorem ltIx_trans {a b c : ID.T} (h1 : ltIx a b = true) (h2 : ltIx b c = true) : ltIx a c = true := by
  rw [ltIx_iff] at *
  rcases h1 with h1 | ⟨e1, h1⟩ <;> rcases h2 with h2 | ⟨e2, h2⟩
  · exact .inl (bl_trans h1 h2)
  · exact .inl (e2 ▸ h1)
  · exact .inl (e1 ▸ h2)
  · exact .inr ⟨e1.trans e2, bl_trans h1 h2⟩
theorem ltIx_tri (a b : ID.T) : ltIx a b = true ∨ a = b ∨ ltIx b a = true := by
  rw [ltIx_iff, ltIx_iff]
  obtain ⟨x, y⟩ := a
  obtain ⟨x', y'⟩ := b
  dsimp only
  rcases bl_tri x x' with h | rfl | h
  · exact .inl (.inl h)
  · rcases bl_tri y y' with h | rfl | h
    · exact .inl (.inr ⟨rfl, h⟩)
    · exact .inr (.inl rfl)
    · exact .inr (.inr (.inr ⟨rfl, h⟩))
  · exact .inr (.inr (.inl h))
theorem cmpIx_lt (a b : ID.T) : decide (cmpIx a b < 0) = ltIx a b := by
  rw [cmpIx_eq]
  cases h : ltIx a b with
  | true => rfl
  | false => simp only [Bool.false_eq_true, if_false]; split <;> rfl
theorem cmpIx_zero (a b : ID.T) : cmpIx a b = 0 ↔ a = b := by
  rw [cmpIx_eq]
  cases h : ltIx a b with
  | true =>
    simp only [if_true]
    exact ⟨fun h => (by cases h), fun e => by subst e; rw [ltIx_irr] at h; cases h⟩
  | false =>
    simp only [Bool.false_eq_true, if_false]
    by_cases e : a = b
    · rw [if_pos e]; simp [e]
    · rw [if_neg e]; exact ⟨fun h => (by cases h), fun h => (e h).elim⟩

abbrev ic (i : ID.T) : List C := [.str i.1, .str i.2]
theorem cat_ahead (a b : ID.T) : FnD Try.prog 68 [.agg (ic a), .agg (ic b)] (· = .c (.int .i64 (cmpIx a b))) := by
  refine fn0 Try.func68 rfl rfl rfl ?_
  conv => whnf
  refine any0 ?_
  conv => whnf
  refine callr0 (cmp_string a.1 b.1) rfl ?_
  conv => whnf
  refine callr0 (cmp_string a.2 b.2) rfl ?_
  conv => whnf
  refine lendr0 (cmp_Or [cmpT a.1 b.1, cmpT a.2 b.2]) rfl rfl ?_
  conv => whnf
  refine ⟨.inl (by kernel_rfl), after0 ?_⟩
  conv => whnf
  rfl
theorem ref16_ahead (a b : ID.T) : FnD Try.prog 73 [.agg (ic a), .agg (ic b)] (· = .c (.bool (.sym (ltIx a b)))) := by
  refine fn0 Try.func73 rfl rfl rfl ?_
  conv => whnf
  rfl
end Go.Proofs.Ythpllblcbbkfdaa
