/- The walk of NumTexts. Own work. -/
import Derived.Test.YtapkdhfdemgjmaaNumLaw1
import Derived.Test.YtapkdhfdemgjmaaOeOpen
set_option linter.unusedVariables false
namespace Go.Proofs.Ytapkdhfdemgjmaa
open Go Go.RowKit OE

theorem law_NumTexts (xs : List (List UInt8)) : FnD Try.prog 7 [.c (.dat .str xs)] (· = .c (.bool (.sym true))) := by
  refine fn0 Try.func7 rfl rfl rfl ?_
  conv => whnf
  intro hmax
  refine ⟨fun h1 => ?_, fun h1 => ?_⟩
  · conv => whnf
    refine call1 num_wakes rfl ?_
    conv => whnf
  have h1 : xs.length ≤ 100 := by simp at h1; omega
  conv => whnf
  refine loop0 (α := Nat) (fun i => i ≤ xs.length ∧ (Num.catT (xs.take i)).length ≤ i * 1010 ∧ ∀ j (h : j < xs.length), j < i → (xs[j]).length ≤ 1000)
    (fun i => ⟨[(0, .c (.dat .str xs)), (3, .c (.str (Num.catT (xs.take i)))), (4, .c (.int .i64 i))], [], 0⟩) (fun i => 100 - i) ⟨0, ⟨by omega, by simp [Num.catT], fun _ _ h => by omega⟩, ?_⟩ ?_
  · conv => whnf
    exact ⟨rfl, ⟨rfl, rfl, rfl, trivial⟩, trivial, trivial⟩
  · rintro i ⟨hI1, hI2, hI3⟩
    conv => whnf
    intro _
    refine ⟨fun h2 => ?_, fun h2 => ?_⟩
    · have h2 : i < xs.length := by simp at h2; omega
      have hg : gt (d := .str) xs ((i : Nat) : Int) = xs[i] := gt_nat (d := .str) xs i h2
      conv => whnf
      intro _
      refine ⟨by omega, ?_⟩
      rw [hg]
      conv => whnf
      refine ⟨fun h3 => ?_, fun h3 => ?_⟩
      · conv => whnf
        refine call1 num_wakes rfl ?_
        conv => whnf
      have h3 : (xs[i]).length ≤ 1000 := by simp at h3; omega
      conv => whnf
      intro _
      refine ⟨by omega, ?_⟩
      rw [hg]
      conv => whnf
      refine call1 (num_PutText xs[i] (by omega)) rfl ?_
      have ht : (Num.putT xs[i]).length ≤ 1010 := by
        have := Num.putN_ten (n := (xs[i]).length) (by omega)
        simp only [Num.putT, List.length_append]; omega
      have e1 : IntKind.wrap .i64 ((i : Int) + 1) = ((i + 1 : Nat) : Int) := by rw [wr64 _ (by omega) (by omega)]; omega
      conv => whnf
      refine ⟨by omega, ?_⟩
      conv => whnf
      refine ⟨i + 1, ⟨⟨by omega, ?_, ?_⟩, by omega⟩, ?_⟩
      · rw [Num.catT_succ xs i h2, List.length_append]; omega
      · intro j hj hji
        rcases Nat.lt_or_ge j i with h | h
        · exact hI3 j hj h
        · have : j = i := by omega
          subst this; exact h3
      · conv => whnf
        exact ⟨rfl, ⟨rfl, Num.catT_succ xs i h2, e1.symm, trivial⟩, trivial, trivial⟩
    · have h2 : i = xs.length := by simp at h2; omega
      subst h2
      rw [List.take_length] at hI2 ⊢
      conv => whnf
      refine loop0 (α := Nat) (fun i => i ≤ xs.length) (fun i => ⟨[(0, .c (.dat .str xs)), (3, .c (.str (Num.catT xs))), (5, .c (.int .i64 (Num.catT (xs.take i)).length)), (6, .c (.int .i64 i))], [], 0⟩) (fun i => 100 - i) ⟨0, by omega, ?_⟩ ?_
      · conv => whnf
        exact ⟨rfl, ⟨rfl, rfl, rfl, rfl, trivial⟩, trivial, trivial⟩
      · intro i hi
        conv => whnf
        intro _
        refine ⟨fun h2 => ?_, fun h2 => ?_⟩
        · have h2 : i < xs.length := by simp at h2; omega
          have hg : gt (d := .str) xs ((i : Nat) : Int) = xs[i] := gt_nat (d := .str) xs i h2
          have hsp := Num.catT_split xs i h2
          have hl3 := hI3 i h2 h2
          have hle : (Num.catT (xs.take i)).length + (Num.putT xs[i]).length ≤ (Num.catT xs).length := by
            conv => rhs; rw [hsp]
            simp only [List.length_append]; omega
          conv => whnf
          refine call1 (num_GetText (Num.catT xs) _ 1000 (by omega) (by omega)) rfl ?_
          rw [show Num.getT (Num.catT xs) ((Num.catT (xs.take i)).length : Int) 1000 = some (xs[i], (Num.putT xs[i]).length) from by
            conv => lhs; rw [hsp]
            exact Num.getT_put xs[i] _ _ 1000 (by omega) (by omega)]
          conv => whnf
          refine fk rfl ?_
          conv => whnf
          intro _
          refine ⟨by omega, ?_⟩
          rw [hg]
          conv => whnf
          refine fk (by simp) ?_
          have e1 : IntKind.wrap .i64 ((i : Int) + 1) = ((i + 1 : Nat) : Int) := by rw [wr64 _ (by omega) (by omega)]; omega
          have e2 : IntKind.wrap .i64 (((Num.catT (xs.take i)).length : Int) + ((Num.putT xs[i]).length : Int)) = ((Num.catT (xs.take (i + 1))).length : Int) := by
            rw [wr64 _ (by omega) (by omega), Num.catT_succ xs i h2, List.length_append]; omega
          conv => whnf
          refine ⟨i + 1, ⟨by omega, by omega⟩, ?_⟩
          conv => whnf
          exact ⟨rfl, ⟨rfl, rfl, e2.symm, e1.symm, trivial⟩, trivial, trivial⟩
        · have h2 : i = xs.length := by simp at h2; omega
          subst h2
          rw [List.take_length]
          conv => whnf
          refine tk (by simp) ?_
          conv => whnf
          refine call1 num_wakes rfl ?_
          conv => whnf

theorem row_NumTexts (xs : List (List UInt8)) (_ : Wf (.list .str) xs) : FnD Try.prog 7 [.c (.dat .str xs)] (· = .c (.bool (.sym true))) := law_NumTexts xs
end Go.Proofs.Ytapkdhfdemgjmaa
