/- What is changed of a catalog; the walks of cat.AddRule, Enable, DropRule, Settle. Own work. -/
import Derived.Test.YthpllblcbbkfdaaCatGood
import Derived.Test.YthpllblcbbkfdaaSchemaAdd
set_option linter.unusedVariables false
set_option maxRecDepth 100000
namespace Go.Proofs.Ythpllblcbbkfdaa
open Go Go.RowKit OE

noncomputable def inlA : Nat → Option (FI × Code) := lk [(74, fiOf Try.f74, bodyOf Try.f74),
  (91, fiOf Try.f91, bodyOf Try.f91),
  (92, fiOf Try.f92, bodyOf Try.f92),
  (119, fiOf Try.f119, bodyOf Try.f119),
  (113, fiOf Try.f113, bodyOf Try.f113),
  (120, fiOf Try.f120, bodyOf Try.f120),
  (121, fiOf Try.f121, bodyOf Try.f121),
  (75, fiOf Try.f75, bodyOf Try.f75),
  (76, fiOf Try.f76, bodyOf Try.f76),
  (77, fiOf Try.f77, bodyOf Try.f77)]
instance : InlOk inlA := inl_cons Try.func74 rfl rfl <| inl_cons Try.func91 rfl rfl <| inl_cons Try.func92 rfl rfl <| inl_cons Try.func119 rfl rfl <| inl_cons Try.func113 rfl rfl <| inl_cons Try.func120 rfl rfl <| inl_cons Try.func121 rfl rfl <| inl_cons Try.func75 rfl rfl <| inl_cons Try.func76 rfl rfl <| inl_cons Try.func77 rfl rfl <| inl_nil
/-- the rule as it is kept -/
def newR (c : CD.T) (r : RD.T) : RD.T := (c.2.2.2.2, r.2.1, r.2.2.1, r.2.2.2.1, r.2.2.2.2.1, r.2.2.2.2.2.1, r.2.2.2.2.2.2.1, 1)
def nxtN (n : Int) : Int := n + 1
def addRS (c : CD.T) (r : RD.T) : CD.T × Int × Int :=
  if goodC c = false then (C0, 0, 11)
  else if formS r = false then (C0, 0, 11)
  else if knownS c r = false then (C0, 0, 140)
  else if (c.2.2.1.any fun q => alikeS q r) = true then (C0, 0, 61)
  else if (c.2.2.1.any fun q => decide (stR q = 1)) = true then (C0, 0, 161)
  else if c.2.2.1.length = 16 ∨ (c.2.2.2.2 : Int) = 1000000 then (C0, 0, 3)
  else ((c.1, c.2.1, c.2.2.1 ++ [newR c r], c.2.2.2.1, nxtN c.2.2.2.2), c.2.2.2.2, 0)

/-- what is kept while a rule is added -/
abbrev stA (c : CD.T) (r : RD.T) : List (Nat × Ob) :=
  [(10, .cells 38 (rc r)), (9, .cells 94 [.row 5, .row 6, .row 7, .row 8, .int .i64 c.2.2.2.2]),
   (5, .row 9 SD c.1), (6, .row 9 SD c.2.1), (7, .row 38 RD c.2.2.1), (8, .row 40 ID c.2.2.2.1),
   (4, .cells 26 cn), (2, .cells 26 cn), (0, .cells 26 (cc c))]
theorem wr_nxt (n : Int) (h1 : 1 ≤ n) (h2 : n ≤ 1000000) : IntKind.wrap .i64 (n + 1) = nxtN n := wr64 _ (by omega) (by omega)
theorem good_next {c : CD.T} (h : goodC c = true) : (1 : Int) ≤ c.2.2.2.2 ∧ (show Int from c.2.2.2.2) ≤ 1000000 := by
  simp only [goodC, Bool.and_eq_true, decide_eq_true_eq] at h
  exact ⟨h.2.1, h.2.2.1⟩
theorem cat_AddRule (c : CD.T) (r : RD.T) (hw : Wf CD c) (g1 : c.1.length ≤ 1000) (g2 : c.2.1.length ≤ 1000) (g3 : c.2.2.1.length ≤ 1000) (g4 : c.2.2.2.1.length ≤ 1000) :
    FnD Try.prog 42 [.agg (cc c), .agg (rc r)] (· = .tup [(true, cc (addRS c r).1), (false, [.int .i64 (addRS c r).2.1]), (false, [.int .i64 (addRS c r).2.2])]) := by
  refine FnD.cat ?_
  refine fnI inlA Try.func42 rfl rfl rfl ?_
  conv => whnf
  refine call1 (cat_Good c hw.2.2.1.2 g3) rfl ?_
  conv => whnf
  refine ⟨fun h1 => ?_, fun h1 => ?_⟩
  · have hA : addRS c r = (C0, 0, 11) := if_pos (not_t h1)
    rw [hA]
    conv => whnf
    refine tk rfl ?_
    conv => whnf
    exact .inr ⟨rfl, rfl⟩
  conv => whnf
  refine callo0 (own_Copy c g1 g2 g3 g4) rfl ?_
  conv => whnf
  refine call1 (rule_Form r) rfl ?_
  conv => whnf
  refine ⟨fun h2 => ?_, fun h2 => ?_⟩
  · have hA : addRS c r = (C0, 0, 11) := by unfold addRS; rw [if_neg (by simp [not_f h1]), if_pos (not_t h2)]
    rw [hA]
    conv => whnf
    refine tk rfl ?_
    conv => whnf
    refine tk rfl ?_
    conv => whnf
    exact .inr ⟨rfl, rfl⟩
  conv => whnf
  refine any0 ?_
  conv => whnf
  refine lendr0 (rule_Known c r) rfl rfl ?_
  conv => whnf
  refine ⟨.inl (by kernel_rfl), after0 ?_⟩
  conv => whnf
  refine ⟨fun h3 => ?_, fun h3 => ?_⟩
  · have hA : addRS c r = (C0, 0, 140) := by unfold addRS; rw [if_neg (by simp [not_f h1]), if_neg (by simp [not_f h2]), if_pos (not_t h3)]
    rw [hA]
    conv => whnf
    refine tk rfl ?_
    conv => whnf
    refine tk rfl ?_
    conv => whnf
    exact .inr ⟨rfl, rfl⟩
  conv => whnf
  intro _
  conv => whnf
  refine loop0 (α := Nat) (fun j => j ≤ c.2.2.1.length ∧ (c.2.2.1.drop j).any (fun q => alikeS q r) = c.2.2.1.any (fun q => alikeS q r))
    (fun j => ⟨[(0, .c (.row 7)), (1, .c (.fn 120 [(10, 0)])), (7, .c (.int .i64 c.2.2.1.length)), (8, .c (.int .i64 j))], stA c r, 11⟩) (fun j => c.2.2.1.length - j) ⟨0, ⟨by omega, rfl⟩, ?_⟩ ?_
  · (conv => whnf); refine ⟨rfl, ?_, ?_, ?_⟩ <;> (repeat' apply And.intro) <;> first | exact trivial | rfl | exact wr_succ _ (by omega) | assumption | exact decide_eq_false (by assumption) | exact decide_eq_true (by assumption)
  rintro j ⟨hJ1, hJ2⟩
  conv => whnf
  refine ⟨fun h4 => ?_, fun h4 => ?_⟩
  · have h4 : j < c.2.2.1.length := by simp at h4; omega
    rw [any_step h4] at hJ2
    conv => whnf
    intro _
    conv => whnf
    refine ⟨by omega, ?_⟩
    conv => whnf
    refine ⟨by omega, ?_⟩
    conv => whnf
    rw [gt_nat (d := RD) c.2.2.1 j h4]
    refine any0 ?_
    conv => whnf
    refine callr0 (cat_bare c.2.2.1[j]) rfl ?_
    conv => whnf
    refine callr0 (cat_bare r) rfl ?_
    conv => whnf
    refine eqr0 RD (p := bareS c.2.2.1[j]) (q := bareS r) 100 rfl (by kernel_rfl) rfl (by kernel_rfl) rfl rfl rfl ?_
    conv => whnf
    refine ⟨.inl (by kernel_rfl), after0 ?_⟩
    conv => whnf
    refine ⟨fun h5 => ?_, fun h5 => ?_⟩
    · have hA : addRS c r = (C0, 0, 61) := by
        have h5 : alikeS c.2.2.1[j] r = true := h5
        rw [h5, Bool.true_or] at hJ2
        unfold addRS; rw [if_neg (by simp [not_f h1]), if_neg (by simp [not_f h2]), if_neg (by simp [not_f h3]), if_pos hJ2.symm]
      rw [hA]
      conv => whnf
      refine tk (by simp) ?_
      conv => whnf
      refine tk rfl ?_
      conv => whnf
      refine tk rfl ?_
      conv => whnf
      exact .inr ⟨rfl, rfl⟩
    · have h5 : alikeS c.2.2.1[j] r = false := h5
      rw [h5, Bool.false_or] at hJ2
      conv => whnf
      refine ⟨j + 1, ⟨⟨by omega, hJ2⟩, by omega⟩, ?_⟩
      (conv => whnf); refine ⟨rfl, ?_, ?_, ?_⟩ <;> (repeat' apply And.intro) <;> first | exact trivial | rfl | exact wr_succ _ (by omega) | assumption | exact decide_eq_false (by assumption) | exact decide_eq_true (by assumption)
  rw [any_end (by simp at h4; omega)] at hJ2
  clear h4 hJ1
  conv => whnf
  refine fk rfl ?_
  conv => whnf
  intro _
  conv => whnf
  refine loop0 (α := Nat) (fun j => j ≤ c.2.2.1.length ∧ (c.2.2.1.drop j).any (fun q => decide (stR q = 1)) = c.2.2.1.any (fun q => decide (stR q = 1)))
    (fun j => ⟨[(0, .c (.row 7)), (1, .c (.fn 121 [])), (7, .c (.int .i64 c.2.2.1.length)), (8, .c (.int .i64 j))], stA c r, 11⟩) (fun j => c.2.2.1.length - j) ⟨0, ⟨by omega, rfl⟩, ?_⟩ ?_
  · (conv => whnf); refine ⟨rfl, ?_, ?_, ?_⟩ <;> (repeat' apply And.intro) <;> first | exact trivial | rfl | exact wr_succ _ (by omega) | assumption | exact decide_eq_false (by assumption) | exact decide_eq_true (by assumption)
  rintro j ⟨hJ1, hJ3⟩
  conv => whnf
  refine ⟨fun h4 => ?_, fun h4 => ?_⟩
  · have h4 : j < c.2.2.1.length := by simp at h4; omega
    rw [any_step h4] at hJ3
    conv => whnf
    intro _
    conv => whnf
    refine ⟨by omega, ?_⟩
    conv => whnf
    refine ⟨by omega, ?_⟩
    conv => whnf
    rw [gt_nat (d := RD) c.2.2.1 j h4]
    refine ⟨fun h5 => ?_, fun h5 => ?_⟩
    · have hA : addRS c r = (C0, 0, 161) := by
        have h5 : decide (stR c.2.2.1[j] = 1) = true := h5
        rw [h5, Bool.true_or] at hJ3
        unfold addRS; rw [if_neg (by simp [not_f h1]), if_neg (by simp [not_f h2]), if_neg (by simp [not_f h3]), if_neg (by rw [← hJ2]; decide), if_pos hJ3.symm]
      rw [hA]
      conv => whnf
      refine tk (by simp) ?_
      conv => whnf
      refine tk rfl ?_
      conv => whnf
      refine tk rfl ?_
      conv => whnf
      exact .inr ⟨rfl, rfl⟩
    · have h5 : decide (stR c.2.2.1[j] = 1) = false := h5
      rw [h5, Bool.false_or] at hJ3
      conv => whnf
      refine ⟨j + 1, ⟨⟨by omega, hJ3⟩, by omega⟩, ?_⟩
      (conv => whnf); refine ⟨rfl, ?_, ?_, ?_⟩ <;> (repeat' apply And.intro) <;> first | exact trivial | rfl | exact wr_succ _ (by omega) | assumption | exact decide_eq_false (by assumption) | exact decide_eq_true (by assumption)
  rw [any_end (by simp at h4; omega)] at hJ3
  clear h4 hJ1
  conv => whnf
  refine fk rfl ?_
  conv => whnf
  intro _
  refine ⟨fun h5 => ?_, fun h5 => ?_⟩
  · have hA : addRS c r = (C0, 0, 3) := by
      unfold addRS; rw [if_neg (by simp [not_f h1]), if_neg (by simp [not_f h2]), if_neg (by simp [not_f h3]), if_neg (by rw [← hJ2]; decide), if_neg (by rw [← hJ3]; decide), if_pos (by
        rw [Bool.or_eq_true, decide_eq_true_eq, decide_eq_true_eq] at h5
        rcases h5 with h | h
        · exact .inl (by omega)
        · exact .inr h)]
    rw [hA]
    conv => whnf
    refine tk rfl ?_
    conv => whnf
    refine tk rfl ?_
    conv => whnf
    exact .inr ⟨rfl, rfl⟩
  have hA : addRS c r = ((c.1, c.2.1, c.2.2.1 ++ [newR c r], c.2.2.2.1, nxtN c.2.2.2.2), c.2.2.2.2, 0) := by
    unfold addRS; rw [if_neg (by simp [not_f h1]), if_neg (by simp [not_f h2]), if_neg (by simp [not_f h3]), if_neg (by rw [← hJ2]; decide), if_neg (by rw [← hJ3]; decide), if_neg (by
      rw [Bool.or_eq_false_iff, decide_eq_false_iff_not, decide_eq_false_iff_not] at h5
      rintro (h | h)
      · exact h5.1 (by omega)
      · exact h5.2 h)]
  rw [hA]
  conv => whnf
  refine any0 ?_
  conv => whnf
  refine ⟨by show (c.2.2.1.length + 1) * 96 ≤ 140737488355328; omega, ?_⟩
  conv => whnf
  refine ⟨.inl (by kernel_rfl), after0 ?_⟩
  conv => whnf
  refine fk rfl ?_
  conv => whnf
  refine fk rfl ?_
  conv => whnf
  refine any0 ?_
  conv => whnf
  refine ⟨.inl (by kernel_rfl), after0 ?_⟩
  conv => whnf
  have hb := good_next (not_f h1)
  rw [wr_nxt c.2.2.2.2 hb.1 hb.2]
  exact .inl rfl
end Go.Proofs.Ythpllblcbbkfdaa
