/- The walk of the law SchemaBack. Own work. -/
import Derived.Test.YthpllblcbbkfdaaSchemaPlain
import Derived.Test.YthpllblcbbkfdaaLawSchemaTells
set_option linter.unusedVariables false
set_option maxRecDepth 100000
namespace Go.Proofs.Ythpllblcbbkfdaa
open Go Go.RowKit OE

theorem add_bd {c : CD.T} {k : Int} {v : List UInt8} (s1 : c.1.length ≤ 1000) (s2 : c.2.1.length ≤ 1000) (s3 : c.2.2.1.length ≤ 1000) (s4 : c.2.2.2.1.length ≤ 1000) :
    (addS c k v).1.1.length ≤ 1000 ∧ (addS c k v).1.2.1.length ≤ 1000 ∧ (addS c k v).1.2.2.1.length ≤ 1000 ∧ (addS c k v).1.2.2.2.1.length ≤ 1000 := by
  by_cases h : (addS c k v).2 = 0
  · obtain ⟨h1, h2, h3, h4, e⟩ := add_ok h
    have hw := with_len (kindS c k) v
    rw [e]
    rcases h1 with rfl | rfl
    · exact ⟨by show (withS (kindS c 1) v).length ≤ _; omega, s2, s3, s4⟩
    · exact ⟨s1, by show (withS (kindS c 2) v).length ≤ _; omega, s3, s4⟩
  · rw [add_no h]; exact ⟨by decide, by decide, by decide, by decide⟩

theorem row_SchemaBack (c : CD.T) (hc : Wf CD c) (k : Int) (wk : (Lit.int .i64 k).wf = true) (v : List UInt8) (hv : v.length ≤ 140737488351232) :
    FnD Try.prog 6 [.agg (cc c), .c (.int .i64 k), .c (.str v)] (· = .c (.bool (.sym true))) := by
  refine fn0 Try.func6 rfl rfl rfl ?_
  conv => whnf
  refine call1 (keep_LargeCat c) rfl ?_
  conv => whnf
  refine callg0 (fun _ => ref14_Types c) rfl ?_
  conv => whnf
  refine ⟨fun h1 => ?_, fun h1 => ?_⟩
  · conv => whnf
    refine call1 (schema_wakes) rfl ?_
    conv => whnf
  rw [Bool.or_eq_false_iff, Bool.or_eq_false_iff] at h1
  obtain ⟨s1, s2, s3, s4⟩ := small_cat h1.1.1
  have hT := not_f h1.2
  obtain ⟨b1, b2, b3, b4⟩ := add_bd (c := c) (k := k) (v := v) s1 s2 s3 s4
  conv => whnf
  refine call1 (keep_CopyCat c s1 s2 s3 s4) rfl ?_
  conv => whnf
  refine call1 (schema_Add c k v s1 s2 s3 s4) rfl ?_
  conv => whnf
  refine ⟨fun h2 => ?_, fun h2 => ?_⟩
  · conv => whnf
    have h2 : (addS c k v).2 ≠ 0 := by simpa using h2
    rw [add_no h2]
    refine call1 ((keep_Cats C0 C0).args fun w ok => ⟨sameA, fun _ h => zero_cat h, trivial⟩) rfl ?_
    conv => whnf
    refine callg0 (fun _ => schema_wakes) rfl ?_
    conv => whnf
    rw [eqC_self]
    rfl
  have h2 : (addS c k v).2 = 0 := by simpa using h2
  have hty := add_types h2 hT
  have hk := (add_ok h2).1
  conv => whnf
  refine loop0 (α := Nat) (fun i => i ≤ c.2.2.1.length ∧ (c.2.2.1.drop i).any (namS k v) = c.2.2.1.any (namS k v))
    (fun i => ⟨[(1, .c (.int .i64 k)), (2, .c (.str v)), (3, .c (.ptr 0 0)), (7, .c (.ptr 1 0)), (9, .c (.int .i64 i))], [(0, .cells 26 (cc c)), (1, .cells 26 (cc (addS c k v).1))], 2⟩) (fun i => c.2.2.1.length - i) ⟨0, ⟨by omega, rfl⟩, ?_⟩ ?_
  · (conv => whnf); refine ⟨rfl, ?_, ?_, ?_⟩ <;> (repeat' apply And.intro) <;> first | exact trivial | rfl | exact wr_succ _ (by omega) | assumption | exact decide_eq_false (by assumption) | exact decide_eq_true (by assumption)
  rintro i ⟨hI1, hI2⟩
  conv => whnf
  intro _
  refine ⟨fun h4 => ?_, fun h4 => ?_⟩
  · have h4 : i < c.2.2.1.length := by simp at h4; omega
    rw [any_step h4] at hI2
    conv => whnf
    try (intro _; conv => whnf)
    refine ⟨by omega, ?_⟩
    rw [gt_nat (d := RD) c.2.2.1 i h4]
    conv => whnf
    refine call1 (ref14_Names c.2.2.1[i] k v hk) rfl ?_
    conv => whnf
    refine ⟨fun h5 => ?_, fun h5 => ?_⟩
    · conv => whnf
      refine call1 (schema_Types (addS c k v).1) rfl ?_
      conv => whnf
      refine callg0 (fun _ => schema_wakes) rfl ?_
      conv => whnf
      rw [hty]
      rfl
    · conv => whnf
      rw [h5, Bool.false_or] at hI2
      refine ⟨i + 1, ⟨⟨by omega, hI2⟩, by omega⟩, ?_⟩
      (conv => whnf); refine ⟨rfl, ?_, ?_, ?_⟩ <;> (repeat' apply And.intro) <;> first | exact trivial | rfl | exact wr_succ _ (by omega) | assumption | exact decide_eq_false (by assumption) | exact decide_eq_true (by assumption)
  rw [any_end (by simp at h4; omega)] at hI2
  conv => whnf
  refine loop0 (α := Nat) (fun i => i ≤ c.2.2.2.1.length ∧ (c.2.2.2.1.drop i).any (fun i => decide (i.1 = v)) = c.2.2.2.1.any (fun i => decide (i.1 = v)))
    (fun i => ⟨[(1, .c (.int .i64 k)), (2, .c (.str v)), (3, .c (.ptr 0 0)), (7, .c (.ptr 1 0)), (10, .c (.int .i64 i))], [(0, .cells 26 (cc c)), (1, .cells 26 (cc (addS c k v).1))], 2⟩) (fun i => c.2.2.2.1.length - i) ⟨0, ⟨by omega, rfl⟩, ?_⟩ ?_
  · (conv => whnf); refine ⟨rfl, ?_, ?_, ?_⟩ <;> (repeat' apply And.intro) <;> first | exact trivial | rfl | exact wr_succ _ (by omega) | assumption | exact decide_eq_false (by assumption) | exact decide_eq_true (by assumption)
  rintro j ⟨hJ1, hJ2⟩
  conv => whnf
  intro _
  refine ⟨fun h6 => ?_, fun h6 => ?_⟩
  · have h6 : j < c.2.2.2.1.length := by simp at h6; omega
    rw [any_step h6] at hJ2
    conv => whnf
    try (intro _; conv => whnf)
    refine ⟨by omega, ?_⟩
    rw [gt_nat (d := ID) c.2.2.2.1 j h6]
    conv => whnf
    refine ⟨fun h7 => ?_, fun h7 => ?_⟩
    · conv => whnf
      refine call1 (schema_Types (addS c k v).1) rfl ?_
      conv => whnf
      refine callg0 (fun _ => schema_wakes) rfl ?_
      conv => whnf
      rw [hty]
      rfl
    · conv => whnf
      rw [h7, Bool.false_or] at hJ2
      refine ⟨j + 1, ⟨⟨by omega, hJ2⟩, by omega⟩, ?_⟩
      (conv => whnf); refine ⟨rfl, ?_, ?_, ?_⟩ <;> (repeat' apply And.intro) <;> first | exact trivial | rfl | exact wr_succ _ (by omega) | assumption | exact decide_eq_false (by assumption) | exact decide_eq_true (by assumption)
  rw [any_end (by simp at h6; omega)] at hJ2
  have hu : usedS c k v = false := by rw [usedS, ← hI2, ← hJ2]; simp
  obtain ⟨e1, e2⟩ := add_drop h2 hu
  conv => whnf
  refine call1 (schema_Drop (addS c k v).1 k v b1 b2 b3 b4) rfl ?_
  conv => whnf
  rw [e1]
  refine callg0 (fun _ => schema_Types (addS c k v).1) rfl ?_
  conv => whnf
  refine callg0 (fun _ => schema_Has (addS c k v).1 k v) rfl ?_
  conv => whnf
  refine callg0 (fun _ => keep_Cats c c) rfl ?_
  conv => whnf
  refine callg0 (fun _ => schema_wakes) rfl ?_
  conv => whnf
  rw [hty, e2, eqC_self]
  rfl
end Go.Proofs.Ythpllblcbbkfdaa
