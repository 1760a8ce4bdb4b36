/- The walks of schema.Has, rule.Known, the reference's. Own work. -/
import Derived.Test.YthpllblcbbkfdaaKeepCat
set_option linter.unusedVariables false
set_option maxRecDepth 100000
namespace Go.Proofs.Ythpllblcbbkfdaa
open Go Go.RowKit OE

noncomputable def inlC : Nat → Option (FI × Code) := lk [(104, fiOf Try.f104, bodyOf Try.f104)]
instance : InlOk inlC := inl_cons Try.func104 rfl rfl inl_nil

def hasT (l : List SD.T) (v : List UInt8) : Bool := l.any fun x => decide (v = x)
theorem slices_Contains (l : List SD.T) (v : List UInt8) : FnD Try.prog 56 [.c (.dat SD l), .c (.str v)] (· = .c (.bool (.sym (hasT l v)))) := by
  refine fnI inlC Try.func56 rfl rfl rfl ?_
  conv => whnf
  intro hl
  conv => whnf
  refine loop0 (α := Nat) (fun i => i ≤ l.length ∧ (l.drop i).any (fun x => decide (v = x)) = hasT l v)
    (fun i => ⟨[(0, .c (.dat SD l)), (1, .c (.str v)), (7, .c (.int .i64 l.length)), (8, .c (.int .i64 i))], [], 0⟩) (fun i => l.length - i) ⟨0, ⟨by omega, rfl⟩, ?_⟩ ?_
  · (conv => whnf); refine ⟨rfl, ?_, ?_, ?_⟩ <;> (repeat' apply And.intro) <;> first | exact trivial | rfl | exact wr_succ _ (by omega) | assumption | exact decide_eq_false (by assumption) | exact decide_eq_true (by assumption)
  rintro i ⟨hI1, hI2⟩
  conv => whnf
  refine ⟨fun h2 => ?_, fun h2 => ?_⟩
  · have h2 : i < l.length := by simp at h2; omega
    rw [any_step h2] at hI2
    conv => whnf
    try (intro _; conv => whnf)
    refine ⟨by omega, ?_⟩
    rw [gt_nat (d := SD) l i h2]
    conv => whnf
    refine ⟨fun h3 => ?_, fun h3 => ?_⟩
    · conv => whnf
      rw [← hI2, h3]
      simp
    · conv => whnf
      refine ⟨i + 1, ⟨⟨by omega, ?_⟩, by omega⟩, ?_⟩
      · rw [← hI2, h3, Bool.false_or]
      · (conv => whnf); refine ⟨rfl, ?_, ?_, ?_⟩ <;> (repeat' apply And.intro) <;> first | exact trivial | rfl | exact wr_succ _ (by omega) | assumption | exact decide_eq_false (by assumption) | exact decide_eq_true (by assumption)
  · conv => whnf
    rw [← hI2, any_end (by simp at h2; omega)]
    rfl

/-- a catalog's types of a kind -/
def kindS (c : CD.T) (k : Int) : List SD.T := if k = 1 then c.1 else if k = 2 then c.2.1 else []
noncomputable def inlN : Nat → Option (FI × Code) := lk [(55, fiOf Try.f55, bodyOf Try.f55), (57, fiOf Try.f57, bodyOf Try.f57)]
instance : InlOk inlN := inl_cons Try.func55 rfl rfl <| inl_cons Try.func57 rfl rfl inl_nil
theorem schema_Has (c : CD.T) (k : Int) (v : List UInt8) : FnD Try.prog 20 [.agg (cc c), .c (.int .i64 k), .c (.str v)] (· = .c (.bool (.sym (hasT (kindS c k) v)))) := by
  refine fnI inlN Try.func20 rfl rfl rfl ?_
  conv => whnf
  refine ⟨fun h1 => ?_, fun h1 => ?_⟩
  · conv => whnf
    refine call1 (slices_Contains c.1 v) rfl ?_
    conv => whnf
    simp at h1; simp [kindS, h1]
  · conv => whnf
    refine ⟨fun h2 => ?_, fun h2 => ?_⟩
    · conv => whnf
      refine call1 (slices_Contains c.2.1 v) rfl ?_
      conv => whnf
      simp at h1 h2; simp [kindS, h2]
    · conv => whnf
      simp at h1 h2; simp [kindS, h1, h2, hasT]

theorem ref_Has (c : CD.T) (k : Int) (v : List UInt8) : FnD Try.prog 21 [.agg (cc c), .c (.int .i64 k), .c (.str v)] (· = .c (.bool (.sym (hasT (kindS c k) v)))) := by
  refine fnI inlN Try.func21 rfl rfl rfl ?_
  conv => whnf
  have loop : ∀ (l : List SD.T), kindS c k = l → True := fun _ _ => trivial
  refine ⟨fun h1 => ?_, fun h1 => ?_⟩
  · have hk : kindS c k = c.1 := by simp at h1; simp [kindS, h1]
    rw [hk]
    conv => whnf
    refine loop0 (α := Nat) (fun i => i ≤ c.1.length ∧ (c.1.drop i).any (fun x => decide (v = x)) = hasT c.1 v)
      (fun i => ⟨[(2, .c (.str v)), (7, .c (.dat SD c.1)), (8, .c (.int .i64 i))], [], 0⟩) (fun i => c.1.length - i) ⟨0, ⟨by omega, rfl⟩, ?_⟩ ?_
    · (conv => whnf); refine ⟨rfl, ?_, ?_, ?_⟩ <;> (repeat' apply And.intro) <;> first | exact trivial | rfl | exact wr_succ _ (by omega) | assumption | exact decide_eq_false (by assumption) | exact decide_eq_true (by assumption)
    rintro i ⟨hI1, hI2⟩
    conv => whnf
    intro _
    refine ⟨fun h2 => ?_, fun h2 => ?_⟩
    · have h2 : i < c.1.length := by simp at h2; omega
      rw [any_step h2] at hI2
      conv => whnf
      try (intro _; conv => whnf)
      refine ⟨by omega, ?_⟩
      rw [gt_nat (d := SD) c.1 i h2]
      conv => whnf
      refine ⟨fun h3 => ?_, fun h3 => ?_⟩
      · conv => whnf
        have : decide (v = c.1[i]) = true := by simpa [eq_comm] using h3
        rw [← hI2, this, Bool.true_or]
      · conv => whnf
        have : decide (v = c.1[i]) = false := by simpa [eq_comm] using h3
        refine ⟨i + 1, ⟨⟨by omega, ?_⟩, by omega⟩, ?_⟩
        · rw [← hI2, this, Bool.false_or]
        · (conv => whnf); refine ⟨rfl, ?_, ?_, ?_⟩ <;> (repeat' apply And.intro) <;> first | exact trivial | rfl | exact wr_succ _ (by omega) | assumption | exact decide_eq_false (by assumption) | exact decide_eq_true (by assumption)
    · conv => whnf
      rw [← hI2, any_end (by simp at h2; omega)]
  · conv => whnf
    refine ⟨fun h4 => ?_, fun h4 => ?_⟩
    · have hk : kindS c k = c.2.1 := by simp at h1 h4; simp [kindS, h4]
      rw [hk]
      conv => whnf
      refine loop0 (α := Nat) (fun i => i ≤ c.2.1.length ∧ (c.2.1.drop i).any (fun x => decide (v = x)) = hasT c.2.1 v)
        (fun i => ⟨[(2, .c (.str v)), (7, .c (.dat SD c.2.1)), (8, .c (.int .i64 i))], [], 0⟩) (fun i => c.2.1.length - i) ⟨0, ⟨by omega, rfl⟩, ?_⟩ ?_
      · (conv => whnf); refine ⟨rfl, ?_, ?_, ?_⟩ <;> (repeat' apply And.intro) <;> first | exact trivial | rfl | exact wr_succ _ (by omega) | assumption | exact decide_eq_false (by assumption) | exact decide_eq_true (by assumption)
      rintro i ⟨hI1, hI2⟩
      conv => whnf
      intro _
      refine ⟨fun h2 => ?_, fun h2 => ?_⟩
      · have h2 : i < c.2.1.length := by simp at h2; omega
        rw [any_step h2] at hI2
        conv => whnf
        try (intro _; conv => whnf)
        refine ⟨by omega, ?_⟩
        rw [gt_nat (d := SD) c.2.1 i h2]
        conv => whnf
        refine ⟨fun h3 => ?_, fun h3 => ?_⟩
        · conv => whnf
          have : decide (v = c.2.1[i]) = true := by simpa [eq_comm] using h3
          rw [← hI2, this, Bool.true_or]
        · conv => whnf
          have : decide (v = c.2.1[i]) = false := by simpa [eq_comm] using h3
          refine ⟨i + 1, ⟨⟨by omega, ?_⟩, by omega⟩, ?_⟩
          · rw [← hI2, this, Bool.false_or]
          · (conv => whnf); refine ⟨rfl, ?_, ?_, ?_⟩ <;> (repeat' apply And.intro) <;> first | exact trivial | rfl | exact wr_succ _ (by omega) | assumption | exact decide_eq_false (by assumption) | exact decide_eq_true (by assumption)
      · conv => whnf
        rw [← hI2, any_end (by simp at h2; omega)]
    · have hk : kindS c k = [] := by simp at h1 h4; simp [kindS, h1, h4]
      rw [hk]
      conv => whnf
      refine loop0 (α := Unit) (fun _ => True) (fun _ => ⟨[(7, .c (.val (.slice none 0 0))), (8, .c (.int .i64 0))], [], 0⟩) (fun _ => 0) ⟨(), trivial, ?_⟩ ?_
      · (conv => whnf); refine ⟨rfl, ?_, ?_, ?_⟩ <;> (repeat' apply And.intro) <;> first | exact trivial | rfl | exact wr_succ _ (by omega) | assumption | exact decide_eq_false (by assumption) | exact decide_eq_true (by assumption)
      rintro _ _
      conv => whnf
      refine fk rfl ?_
      conv => whnf
      rfl

/-- are a rule's types known? -/
def knownS (c : CD.T) (r : RD.T) : Bool :=
  if r.2.1 = 1 ∨ r.2.1 = 2 then hasT (kindS c 1) r.2.2.1
  else if r.2.1 = 3 then hasT (kindS c 2) r.2.2.1 && hasT (kindS c 1) r.2.2.2.2.1 && hasT (kindS c 1) r.2.2.2.2.2.1
  else if r.2.1 = 4 then hasT (kindS c 2) r.2.2.1 else false
theorem rule_Known (c : CD.T) (r : RD.T) : FnD Try.prog 112 [.agg (cc c), .agg (rc r)] (· = .c (.bool (.sym (knownS c r)))) := by
  refine fn0 Try.func112 rfl rfl rfl ?_
  conv => whnf
  refine ⟨fun h1 => ?_, fun h1 => ?_⟩
  · conv => whnf
    refine call1 (schema_Has c 1 r.2.2.1) rfl ?_
    conv => whnf
    simp at h1; simp [knownS, h1]
  conv => whnf
  refine ⟨fun h2 => ?_, fun h2 => ?_⟩
  · conv => whnf
    refine call1 (schema_Has c 1 r.2.2.1) rfl ?_
    conv => whnf
    simp at h1 h2; simp [knownS, h2]
  conv => whnf
  refine ⟨fun h3 => ?_, fun h3 => ?_⟩
  · conv => whnf
    refine call1 (schema_Has c 2 r.2.2.1) rfl ?_
    conv => whnf
    refine callg0 (fun _ => schema_Has c 1 r.2.2.2.2.1) rfl ?_
    conv => whnf
    refine callg0 (fun _ => schema_Has c 1 r.2.2.2.2.2.1) rfl ?_
    conv => whnf
    simp at h1 h2 h3; simp [knownS, h3]
  conv => whnf
  refine ⟨fun h4 => ?_, fun h4 => ?_⟩
  · conv => whnf
    refine call1 (schema_Has c 2 r.2.2.1) rfl ?_
    conv => whnf
    simp at h1 h2 h3 h4; simp [knownS, h4]
  · conv => whnf
    simp at h1 h2 h3 h4; simp [knownS, h1, h2, h3, h4]

theorem ref_Known (c : CD.T) (r : RD.T) : FnD Try.prog 71 [.agg (cc c), .agg (rc r)] (· = .c (.bool (.sym (knownS c r)))) := by
  refine fn0 Try.func71 rfl rfl rfl ?_
  conv => whnf
  refine ⟨fun h1 => ?_, fun h1 => ?_⟩
  · conv => whnf
    refine call1 (ref_Has c 1 r.2.2.1) rfl ?_
    conv => whnf
    simp at h1; simp [knownS, h1]
  conv => whnf
  refine ⟨fun h2 => ?_, fun h2 => ?_⟩
  · conv => whnf
    refine call1 (ref_Has c 1 r.2.2.1) rfl ?_
    conv => whnf
    simp at h1 h2; simp [knownS, h2]
  conv => whnf
  refine ⟨fun h3 => ?_, fun h3 => ?_⟩
  · conv => whnf
    refine call1 (ref_Has c 2 r.2.2.1) rfl ?_
    conv => whnf
    refine callg0 (fun _ => ref_Has c 1 r.2.2.2.2.1) rfl ?_
    conv => whnf
    refine callg0 (fun _ => ref_Has c 1 r.2.2.2.2.2.1) rfl ?_
    conv => whnf
    simp at h1 h2 h3; simp [knownS, h3]
  conv => whnf
  refine ⟨fun h4 => ?_, fun h4 => ?_⟩
  · conv => whnf
    refine call1 (ref_Has c 2 r.2.2.1) rfl ?_
    conv => whnf
    simp at h1 h2 h3 h4; simp [knownS, h4]
  · conv => whnf
    simp at h1 h2 h3 h4; simp [knownS, h1, h2, h3, h4]

theorem small_cat {c : CD.T} (h : largeCat c = false) : c.1.length ≤ 1000 ∧ c.2.1.length ≤ 1000 ∧ c.2.2.1.length ≤ 1000 ∧ c.2.2.2.1.length ≤ 1000 := by
  simp only [largeCat, Bool.or_eq_false_iff, decide_eq_false_iff_not] at h
  omega

end Go.Proofs.Ythpllblcbbkfdaa
