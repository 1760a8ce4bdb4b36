/- The walk of the law SchemaCopies. Own work. -/
import Derived.Test.YthpllblcbbkfdaaLawSchemaTells
set_option linter.unusedVariables false
set_option maxRecDepth 100000
namespace Go.Proofs.Ythpllblcbbkfdaa
open Go Go.RowKit OE

theorem row_SchemaCopies (c : CD.T) (hc : Wf CD c) :
    FnD Try.prog 5 [.agg (cc c)] (· = .c (.bool (.sym true))) := by
  refine fn0 Try.func5 rfl rfl rfl ?_
  conv => whnf
  refine call1 (keep_LargeCat c) rfl ?_
  conv => whnf
  refine ⟨fun h1 => ?_, fun h1 => ?_⟩
  · conv => whnf
    refine call1 (schema_wakes) rfl ?_
    conv => whnf
  obtain ⟨s1, s2, s3, s4⟩ := small_cat h1
  conv => whnf
  refine call1 (keep_CopyCat c s1 s2 s3 s4) rfl ?_
  conv => whnf
  refine callo0 (own_Copy c s1 s2 s3 s4) rfl ?_
  conv => whnf
  refine lend0 (keep_Cats c c) rfl rfl ?_
  rw [eqC_self]
  conv => whnf
  refine fk rfl ?_
  conv => whnf
  refine loop0 (α := Nat × List (SD).T) (fun p => p.1 ≤ p.2.length)
    (fun p => ⟨[(1, .c (.ptr 0 0)), (3, .c (.ptr 1 0)), (4, .c (.ptr 6 0)), (5, .c (.int .i64 p.1))], [(0, .cells 26 (cc c)), (1, .cells 26 (cc c)), (6, .cells 26 [.row 2, .row 3, .row 4, .row 5, .int .i64 c.2.2.2.2]),
      (2, .row 9 SD p.2), (3, .row 9 SD c.2.1), (4, .row 38 RD c.2.2.1), (5, .row 40 ID c.2.2.2.1)], 7⟩) (fun p => p.2.length - p.1) ⟨(0, c.1), by simp, ?_⟩ ?_
  · (conv => whnf); refine ⟨rfl, ?_, ?_, ?_⟩ <;> (repeat' apply And.intro) <;> first | exact trivial | rfl | exact wr_succ _ (by omega) | assumption | exact decide_eq_false (by assumption) | exact decide_eq_true (by assumption)
  rintro ⟨i, A⟩ hI
  dsimp only at hI ⊢
  conv => whnf
  intro hlen
  refine ⟨fun h2 => ?_, fun h2 => ?_⟩
  · have h2 : i < (A).length := by simp at h2; omega
    conv => whnf
    try (intro _; conv => whnf)
    refine ⟨by omega, ?_⟩
    conv => whnf
    refine ⟨by omega, ?_⟩
    conv => whnf
    refine ⟨(i + 1, (A).set i [63]), ⟨by simp; omega, by simp; omega⟩, ?_⟩
    (conv => whnf); refine ⟨rfl, ?_, ?_, ?_⟩ <;> (repeat' apply And.intro) <;> first | exact trivial | rfl | exact wr_succ _ (by omega) | assumption | exact decide_eq_false (by assumption) | exact decide_eq_true (by assumption)
  conv => whnf
  refine loop0 (α := Nat × List (RD).T) (fun p => p.1 ≤ p.2.length)
    (fun p => ⟨[(1, .c (.ptr 0 0)), (3, .c (.ptr 1 0)), (4, .c (.ptr 6 0)), (6, .c (.int .i64 p.1))], [(0, .cells 26 (cc c)), (1, .cells 26 (cc c)), (6, .cells 26 [.row 2, .row 3, .row 4, .row 5, .int .i64 c.2.2.2.2]),
      (2, .row 9 SD A), (3, .row 9 SD c.2.1), (4, .row 38 RD p.2), (5, .row 40 ID c.2.2.2.1)], 7⟩) (fun p => p.2.length - p.1) ⟨(0, c.2.2.1), by simp, ?_⟩ ?_
  · (conv => whnf); refine ⟨rfl, ?_, ?_, ?_⟩ <;> (repeat' apply And.intro) <;> first | exact trivial | rfl | exact wr_succ _ (by omega) | assumption | exact decide_eq_false (by assumption) | exact decide_eq_true (by assumption)
  rintro ⟨i, R⟩ hI
  dsimp only at hI ⊢
  conv => whnf
  intro hlen
  refine ⟨fun h2 => ?_, fun h2 => ?_⟩
  · have h2 : i < (R).length := by simp at h2; omega
    conv => whnf
    try (intro _; conv => whnf)
    refine ⟨by omega, ?_⟩
    conv => whnf
    refine ⟨by omega, ?_⟩
    conv => whnf
    refine ⟨(i + 1, (R).set i RD.df), ⟨by simp; omega, by simp; omega⟩, ?_⟩
    (conv => whnf); refine ⟨rfl, ?_, ?_, ?_⟩ <;> (repeat' apply And.intro) <;> first | exact trivial | rfl | exact wr_succ _ (by omega) | assumption | exact decide_eq_false (by assumption) | exact decide_eq_true (by assumption)
  conv => whnf
  refine loop0 (α := Nat × List (ID).T) (fun p => p.1 ≤ p.2.length)
    (fun p => ⟨[(1, .c (.ptr 0 0)), (3, .c (.ptr 1 0)), (4, .c (.ptr 6 0)), (7, .c (.int .i64 p.1))], [(0, .cells 26 (cc c)), (1, .cells 26 (cc c)), (6, .cells 26 [.row 2, .row 3, .row 4, .row 5, .int .i64 c.2.2.2.2]),
      (2, .row 9 SD A), (3, .row 9 SD c.2.1), (4, .row 38 RD R), (5, .row 40 ID p.2)], 7⟩) (fun p => p.2.length - p.1) ⟨(0, c.2.2.2.1), by simp, ?_⟩ ?_
  · (conv => whnf); refine ⟨rfl, ?_, ?_, ?_⟩ <;> (repeat' apply And.intro) <;> first | exact trivial | rfl | exact wr_succ _ (by omega) | assumption | exact decide_eq_false (by assumption) | exact decide_eq_true (by assumption)
  rintro ⟨i, I⟩ hI
  dsimp only at hI ⊢
  conv => whnf
  intro hlen
  refine ⟨fun h2 => ?_, fun h2 => ?_⟩
  · have h2 : i < (I).length := by simp at h2; omega
    conv => whnf
    try (intro _; conv => whnf)
    refine ⟨by omega, ?_⟩
    conv => whnf
    refine ⟨by omega, ?_⟩
    conv => whnf
    refine ⟨(i + 1, (I).set i ([], [])), ⟨by simp; omega, by simp; omega⟩, ?_⟩
    (conv => whnf); refine ⟨rfl, ?_, ?_, ?_⟩ <;> (repeat' apply And.intro) <;> first | exact trivial | rfl | exact wr_succ _ (by omega) | assumption | exact decide_eq_false (by assumption) | exact decide_eq_true (by assumption)
  conv => whnf
  refine loop0 (α := Nat × List (SD).T) (fun p => p.1 ≤ p.2.length)
    (fun p => ⟨[(1, .c (.ptr 0 0)), (3, .c (.ptr 1 0)), (4, .c (.ptr 6 0)), (8, .c (.int .i64 p.1))], [(0, .cells 26 (cc c)), (1, .cells 26 (cc c)), (6, .cells 26 [.row 2, .row 3, .row 4, .row 5, .int .i64 c.2.2.2.2]),
      (2, .row 9 SD A), (3, .row 9 SD p.2), (4, .row 38 RD R), (5, .row 40 ID I)], 7⟩) (fun p => p.2.length - p.1) ⟨(0, c.2.1), by simp, ?_⟩ ?_
  · (conv => whnf); refine ⟨rfl, ?_, ?_, ?_⟩ <;> (repeat' apply And.intro) <;> first | exact trivial | rfl | exact wr_succ _ (by omega) | assumption | exact decide_eq_false (by assumption) | exact decide_eq_true (by assumption)
  rintro ⟨i, B⟩ hI
  dsimp only at hI ⊢
  conv => whnf
  intro hlen
  refine ⟨fun h2 => ?_, fun h2 => ?_⟩
  · have h2 : i < (B).length := by simp at h2; omega
    conv => whnf
    try (intro _; conv => whnf)
    refine ⟨by omega, ?_⟩
    conv => whnf
    refine ⟨by omega, ?_⟩
    conv => whnf
    refine ⟨(i + 1, (B).set i [63]), ⟨by simp; omega, by simp; omega⟩, ?_⟩
    (conv => whnf); refine ⟨rfl, ?_, ?_, ?_⟩ <;> (repeat' apply And.intro) <;> first | exact trivial | rfl | exact wr_succ _ (by omega) | assumption | exact decide_eq_false (by assumption) | exact decide_eq_true (by assumption)
  conv => whnf
  refine call1 (keep_Cats c c) rfl ?_
  conv => whnf
  refine callg0 (fun _ => schema_wakes) rfl ?_
  conv => whnf
  rw [eqC_self]
  rfl
end Go.Proofs.Ythpllblcbbkfdaa
