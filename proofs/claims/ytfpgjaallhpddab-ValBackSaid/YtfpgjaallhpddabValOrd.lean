/- The order of values; no program in sight. Own work. -/
import Derived.Test.YtfpgjaallhpddabValCompare
import Derived.Test.YtfpgjaallhpddabRuleBroken
set_option linter.unusedVariables false
set_option maxRecDepth 100000
namespace Go.Proofs.Ytfpgjaallhpddab
open Go Go.RowKit OE

theorem bl_trans : ∀ {a b c : List UInt8}, Op.bytesLess a b = true → Op.bytesLess b c = true → Op.bytesLess a c = true
  | [], [], _, h, _ => by cases h
  | [], _ :: _, [], _, h => by cases h
  | [], _ :: _, _ :: _, _, _ => rfl
  | _ :: _, [], _, h, _ => by cases h
  | _ :: _, _ :: _, [], _, h => by cases h
  | x :: a, y :: b, z :: c, h1, h2 => by
    simp only [Op.bytesLess, Bool.or_eq_true, Bool.and_eq_true, decide_eq_true_eq, beq_iff_eq] at h1 h2 ⊢
    rcases h1 with h1 | ⟨rfl, h1⟩
    · rcases h2 with h2 | ⟨rfl, h2⟩
      · exact .inl (UInt8.lt_trans h1 h2)
      · exact .inl h1
    · rcases h2 with h2 | ⟨rfl, h2⟩
      · exact .inl h2
      · exact .inr ⟨rfl, bl_trans h1 h2⟩
theorem bl_tri : ∀ (a b : List UInt8), Op.bytesLess a b = true ∨ a = b ∨ Op.bytesLess b a = true
  | [], [] => .inr (.inl rfl)
  | [], _ :: _ => .inl rfl
  | _ :: _, [] => .inr (.inr rfl)
  | x :: a, y :: b => by
    simp only [Op.bytesLess, Bool.or_eq_true, Bool.and_eq_true, decide_eq_true_eq, beq_iff_eq]
    by_cases h : x < y
    · exact .inl (.inl h)
    · by_cases h2 : y < x
      · exact .inr (.inr (.inl h2))
      · have e : x = y := UInt8.le_antisymm (UInt8.not_lt.1 h2) (UInt8.not_lt.1 h)
        subst e
        rcases bl_tri a b with h | rfl | h
        · exact .inl (.inr ⟨rfl, h⟩)
        · exact .inr (.inl rfl)
        · exact .inr (.inr (.inr ⟨rfl, h⟩))

def ltT (a b : Int × Int × List UInt8) : Bool := decide (a.1 < b.1) || (decide (a.1 = b.1) && (decide (a.2.1 < b.2.1) || (decide (a.2.1 = b.2.1) && Op.bytesLess a.2.2 b.2.2)))
theorem ltT_iff (a b : Int × Int × List UInt8) : ltT a b = true ↔ a.1 < b.1 ∨ a.1 = b.1 ∧ (a.2.1 < b.2.1 ∨ a.2.1 = b.2.1 ∧ Op.bytesLess a.2.2 b.2.2 = true) := by
  simp only [ltT, Bool.or_eq_true, Bool.and_eq_true, decide_eq_true_eq]
theorem ltT_irr (a : Int × Int × List UInt8) : ¬ ltT a a = true := by
  rw [ltT_iff, bytesLess_irr]
  intro h
  rcases h with h | ⟨_, h | ⟨_, h⟩⟩
  · omega
  · omega
  · cases h
theorem ltT_trans {a b c : Int × Int × List UInt8} (h1 : ltT a b = true) (h2 : ltT b c = true) : ltT a c = true := by
  rw [ltT_iff] at *
  rcases h1 with h1 | ⟨e1, h1 | ⟨f1, h1⟩⟩ <;> rcases h2 with h2 | ⟨e2, h2 | ⟨f2, h2⟩⟩
  · exact .inl (by omega)
  · exact .inl (by omega)
  · exact .inl (by omega)
  · exact .inl (by omega)
  · exact .inr ⟨by omega, .inl (by omega)⟩
  · exact .inr ⟨by omega, .inl (by omega)⟩
  · exact .inl (by omega)
  · exact .inr ⟨by omega, .inl (by omega)⟩
  · exact .inr ⟨by omega, .inr ⟨by omega, bl_trans h1 h2⟩⟩
theorem ltT_tri (a b : Int × Int × List UInt8) : ltT a b = true ∨ a = b ∨ ltT b a = true := by
  rw [ltT_iff, ltT_iff]
  obtain ⟨x, y, s⟩ := a
  obtain ⟨x', y', s'⟩ := b
  dsimp only
  by_cases h1 : x < x'
  · exact .inl (.inl h1)
  by_cases h2 : x' < x
  · exact .inr (.inr (.inl h2))
  have e : x = x' := by omega
  subst e
  by_cases h3 : y < y'
  · exact .inl (.inr ⟨rfl, .inl h3⟩)
  by_cases h4 : y' < y
  · exact .inr (.inr (.inr ⟨rfl, .inl h4⟩))
  have e : y = y' := by omega
  subst e
  rcases bl_tri s s' with h | rfl | h
  · exact .inl (.inr ⟨rfl, .inr ⟨rfl, h⟩⟩)
  · exact .inr (.inl rfl)
  · exact .inr (.inr (.inr ⟨rfl, .inr ⟨rfl, h⟩⟩))

theorem cmpV_lt {a b : VD.T} : cmpV a b = -1 ↔ ltV a b = true := by
  unfold cmpV
  constructor
  · intro h
    split at h
    · assumption
    · split at h <;> cases h
  · intro h; rw [if_pos h]
theorem cmpV_eq {a b : VD.T} : cmpV a b = 0 ↔ a = b := by
  have h := cmpV_zero a b
  rw [← D.eqb_iff VD a b, ← h, decide_eq_true_eq]
theorem cmpV_cases (a b : VD.T) : cmpV a b = -1 ∧ ltV a b = true ∨ cmpV a b = 0 ∧ a = b ∨ cmpV a b = 1 ∧ ltV b a = true := by
  rcases ltT_tri a b with h | h | h
  · exact .inl ⟨cmpV_lt.2 h, h⟩
  · exact .inr (.inl ⟨cmpV_eq.2 h, h⟩)
  · refine .inr (.inr ⟨?_, h⟩)
    have h1 : ¬ ltV a b = true := fun h' => ltT_irr _ (ltT_trans h h')
    have h2 : ¬ VD.eqb a b = true := fun h' => by
      have := (D.eqb_iff VD a b).1 h'
      subst this
      exact ltT_irr _ h
    unfold cmpV
    rw [if_neg h1, if_neg h2]
theorem cmpV_neg (a b : VD.T) : cmpV a b = - cmpV b a := by
  rcases cmpV_cases a b with ⟨h, h'⟩ | ⟨h, h'⟩ | ⟨h, h'⟩
  · rcases cmpV_cases b a with ⟨g, g'⟩ | ⟨g, g'⟩ | ⟨g, g'⟩
    · exact (ltT_irr _ (ltT_trans h' g')).elim
    · subst g'; exact (ltT_irr _ h').elim
    · rw [h, g]
  · subst h'; rw [h]; rfl
  · rw [h, cmpV_lt.2 h']; rfl
theorem cmpV_le {a b c : VD.T} (h1 : cmpV a b ≤ 0) (h2 : cmpV b c ≤ 0) : cmpV a c ≤ 0 := by
  rcases cmpV_cases a b with ⟨h, h'⟩ | ⟨h, h'⟩ | ⟨h, h'⟩
  · rcases cmpV_cases b c with ⟨g, g'⟩ | ⟨g, g'⟩ | ⟨g, g'⟩
    · rw [cmpV_lt.2 (ltT_trans h' g')]; decide
    · subst g'; exact h1
    · rw [g] at h2; exact absurd h2 (by decide)
  · subst h'; exact h2
  · rw [h] at h1; exact absurd h1 (by decide)
theorem cmpV_ll {a b c : VD.T} (h1 : cmpV a b < 0) (h2 : cmpV b c ≤ 0) : cmpV a c < 0 := by
  rcases cmpV_cases a b with ⟨h, h'⟩ | ⟨h, h'⟩ | ⟨h, h'⟩
  · rcases cmpV_cases b c with ⟨g, g'⟩ | ⟨g, g'⟩ | ⟨g, g'⟩
    · rw [cmpV_lt.2 (ltT_trans h' g')]; decide
    · subst g'; exact h1
    · rw [g] at h2; exact absurd h2 (by decide)
  · rw [h] at h1; exact absurd h1 (by decide)
  · rw [h] at h1; exact absurd h1 (by decide)
end Go.Proofs.Ytfpgjaallhpddab
