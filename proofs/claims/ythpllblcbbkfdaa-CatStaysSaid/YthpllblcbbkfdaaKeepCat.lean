/- The walks of hedgerowkeep: texts, catalogs. Own work. -/
import Derived.Test.YthpllblcbbkfdaaKeepGraph
set_option linter.unusedVariables false
set_option maxRecDepth 100000
namespace Go.Proofs.Ythpllblcbbkfdaa
open Go Go.RowKit OE

abbrev SD : D := .str
/-- an index: type, name -/
abbrev ID : D := .pair .str .str
/-- a catalog: types of nodes, of edges, rules, indexes, the next rule's Id -/
abbrev CD : D := .pair (.list .str) (.pair (.list .str) (.pair (.list RD) (.pair (.list ID) (.int .i64))))
abbrev cc (c : CD.T) : List C := [.dat .str c.1, .dat .str c.2.1, .dat RD c.2.2.1, .dat ID c.2.2.2.1, .int .i64 c.2.2.2.2]

theorem keep_Texts (a b : List SD.T) : FnD Try.prog 58 [.c (.dat SD a), .c (.dat SD b)] (· = .c (.bool (.sym (eqL SD.eqb a b)))) := by
  refine fn0 Try.func58 rfl rfl rfl ?_
  conv => whnf
  intro ha
  conv => whnf
  intro hb
  refine ⟨fun h1 => ?_, fun h1 => ?_⟩
  · conv => whnf
    rw [eqL_len (by simp at h1; omega)]
  have h1 : a.length = b.length := by simp at h1; omega
  conv => whnf
  refine loop0 (α := Nat) (fun i => i ≤ a.length ∧ eqL SD.eqb (a.drop i) (b.drop i) = eqL SD.eqb a b)
    (fun i => ⟨[(0, .c (.dat SD a)), (1, .c (.dat SD b)), (5, .c (.int .i64 i))], [], 0⟩) (fun i => a.length - i) ⟨0, ⟨by omega, rfl⟩, ?_⟩ ?_
  · (conv => whnf); refine ⟨rfl, ?_, ?_, ?_⟩ <;> (repeat' apply And.intro) <;> first | exact trivial | rfl | exact wr_succ _ (by omega) | assumption | exact decide_eq_false (by assumption) | exact decide_eq_true (by assumption)
  · rintro i ⟨hI1, hI2⟩
    conv => whnf
    intro _
    refine ⟨fun h2 => ?_, fun h2 => ?_⟩
    · have h2 : i < a.length := by simp at h2; omega
      conv => whnf
      have hb2 : i < b.length := by omega
      rw [eqL_step h2 hb2] at hI2
      refine any0 ?_
      conv => whnf
      try (intro _; conv => whnf)
      refine ⟨by omega, ?_⟩
      rw [gt_nat (d := SD) a i h2]
      conv => whnf
      try (intro _; conv => whnf)
      refine ⟨by omega, ?_⟩
      rw [gt_nat (d := SD) b i hb2]
      conv => whnf
      refine ⟨.inl (by kernel_rfl), after0 ?_⟩
      conv => whnf
      refine ⟨fun h4 => ?_, fun h4 => ?_⟩
      · conv => whnf
        have : SD.eqb a[i] b[i] = false := by simpa [D.eqb] using h4
        simp only [← hI2, this, Bool.false_and]
      · conv => whnf
        have : SD.eqb a[i] b[i] = true := by simpa [D.eqb] using h4
        refine ⟨i + 1, ⟨⟨by omega, ?_⟩, by omega⟩, ?_⟩
        · rw [← hI2, this]; simp
        · (conv => whnf); refine ⟨rfl, ?_, ?_, ?_⟩ <;> (repeat' apply And.intro) <;> first | exact trivial | rfl | exact wr_succ _ (by omega) | assumption | exact decide_eq_false (by assumption) | exact decide_eq_true (by assumption)
    · conv => whnf
      rw [← hI2, eqL_end (by simp at h2; omega) (by simp at h2; omega)]

def longT (s : SD.T) : Bool := decide ((1000 : Int) < s.length)
def longI (i : ID.T) : Bool := decide ((1000 : Int) < i.1.length) || decide ((1000 : Int) < i.2.length)
def largeCat (c : CD.T) : Bool := decide ((100 : Int) < c.1.length) || decide ((100 : Int) < c.2.1.length) || decide ((100 : Int) < c.2.2.1.length) || decide ((100 : Int) < c.2.2.2.1.length) ||
  (c.1.any longT || (c.2.1.any longT || (c.2.2.1.any largeRule || c.2.2.2.1.any longI)))
theorem keep_LargeCat (c : CD.T) : FnD Try.prog 15 [.agg (cc c)] (· = .c (.bool (.sym (largeCat c)))) := by
  refine fn0 Try.func15 rfl rfl rfl ?_
  conv => whnf
  intro hc1
  conv => whnf
  intro hc2
  conv => whnf
  intro hc3
  conv => whnf
  intro hc4
  conv => whnf
  refine ⟨fun h1 => ?_, fun h1 => ?_⟩
  · conv => whnf
    simp only [largeCat, h1, Bool.true_or]
  have hm : largeCat c = (c.1.any longT || (c.2.1.any longT || (c.2.2.1.any largeRule || c.2.2.2.1.any longI))) := by simp only [largeCat, h1, Bool.false_or]
  rw [hm]
  conv => whnf
  refine loop0 (α := Nat) (fun i => i ≤ c.1.length ∧ (c.1.drop i).any longT = c.1.any longT)
    (fun i => ⟨[(1, .c (.ptr 0 0)), (3, .c (.int .i64 i))], [(0, .cells 26 (cc c))], 1⟩) (fun i => c.1.length - i) ⟨0, ⟨by omega, rfl⟩, ?_⟩ ?_
  · (conv => whnf); refine ⟨rfl, ?_, ?_, ?_⟩ <;> (repeat' apply And.intro) <;> first | exact trivial | rfl | exact wr_succ _ (by omega) | assumption | exact decide_eq_false (by assumption) | exact decide_eq_true (by assumption)
  rintro i ⟨hI1, hI2⟩
  conv => whnf
  intro _
  refine ⟨fun h2 => ?_, fun h2 => ?_⟩
  · have h2 : i < c.1.length := by simp at h2; omega
    rw [any_step h2] at hI2
    conv => whnf
    try (intro _; conv => whnf)
    refine ⟨by omega, ?_⟩
    rw [gt_nat (d := SD) c.1 i h2]
    conv => whnf
    refine ⟨fun h3 => ?_, fun h3 => ?_⟩
    · conv => whnf
      have : longT c.1[i] = true := h3
      simp only [← hI2, this, Bool.true_or]
    · conv => whnf
      refine ⟨i + 1, ⟨⟨by omega, ?_⟩, by omega⟩, ?_⟩
      · have : longT c.1[i] = false := h3
        rw [← hI2]; simp only [this, Bool.false_or]
      · (conv => whnf); refine ⟨rfl, ?_, ?_, ?_⟩ <;> (repeat' apply And.intro) <;> first | exact trivial | rfl | exact wr_succ _ (by omega) | assumption | exact decide_eq_false (by assumption) | exact decide_eq_true (by assumption)
  rw [any_end (by simp at h2; omega)] at hI2
  rw [← hI2]
  rw [Bool.false_or]

  conv => whnf
  refine loop0 (α := Nat) (fun i => i ≤ c.2.1.length ∧ (c.2.1.drop i).any longT = c.2.1.any longT)
    (fun i => ⟨[(1, .c (.ptr 0 0)), (4, .c (.int .i64 i))], [(0, .cells 26 (cc c))], 1⟩) (fun i => c.2.1.length - i) ⟨0, ⟨by omega, rfl⟩, ?_⟩ ?_
  · (conv => whnf); refine ⟨rfl, ?_, ?_, ?_⟩ <;> (repeat' apply And.intro) <;> first | exact trivial | rfl | exact wr_succ _ (by omega) | assumption | exact decide_eq_false (by assumption) | exact decide_eq_true (by assumption)
  rintro i ⟨hI1, hI2⟩
  conv => whnf
  intro _
  refine ⟨fun h2 => ?_, fun h2 => ?_⟩
  · have h2 : i < c.2.1.length := by simp at h2; omega
    rw [any_step h2] at hI2
    conv => whnf
    try (intro _; conv => whnf)
    refine ⟨by omega, ?_⟩
    rw [gt_nat (d := SD) c.2.1 i h2]
    conv => whnf
    refine ⟨fun h3 => ?_, fun h3 => ?_⟩
    · conv => whnf
      have : longT c.2.1[i] = true := h3
      simp only [← hI2, this, Bool.true_or]
    · conv => whnf
      refine ⟨i + 1, ⟨⟨by omega, ?_⟩, by omega⟩, ?_⟩
      · have : longT c.2.1[i] = false := h3
        rw [← hI2]; simp only [this, Bool.false_or]
      · (conv => whnf); refine ⟨rfl, ?_, ?_, ?_⟩ <;> (repeat' apply And.intro) <;> first | exact trivial | rfl | exact wr_succ _ (by omega) | assumption | exact decide_eq_false (by assumption) | exact decide_eq_true (by assumption)
  rw [any_end (by simp at h2; omega)] at hI2
  rw [← hI2]
  rw [Bool.false_or]

  conv => whnf
  refine loop0 (α := Nat) (fun i => i ≤ c.2.2.1.length ∧ (c.2.2.1.drop i).any largeRule = c.2.2.1.any largeRule)
    (fun i => ⟨[(1, .c (.ptr 0 0)), (5, .c (.int .i64 i))], [(0, .cells 26 (cc c))], 1⟩) (fun i => c.2.2.1.length - i) ⟨0, ⟨by omega, rfl⟩, ?_⟩ ?_
  · (conv => whnf); refine ⟨rfl, ?_, ?_, ?_⟩ <;> (repeat' apply And.intro) <;> first | exact trivial | rfl | exact wr_succ _ (by omega) | assumption | exact decide_eq_false (by assumption) | exact decide_eq_true (by assumption)
  rintro i ⟨hI1, hI2⟩
  conv => whnf
  intro _
  refine ⟨fun h2 => ?_, fun h2 => ?_⟩
  · have h2 : i < c.2.2.1.length := by simp at h2; omega
    rw [any_step h2] at hI2
    conv => whnf
    try (intro _; conv => whnf)
    refine ⟨by omega, ?_⟩
    rw [gt_nat (d := RD) c.2.2.1 i h2]
    conv => whnf
    refine call1 (keep_LargeRule c.2.2.1[i]) rfl ?_
    conv => whnf
    refine ⟨fun h3 => ?_, fun h3 => ?_⟩
    · conv => whnf
      have : largeRule c.2.2.1[i] = true := h3
      simp only [← hI2, this, Bool.true_or]
    · conv => whnf
      refine ⟨i + 1, ⟨⟨by omega, ?_⟩, by omega⟩, ?_⟩
      · have : largeRule c.2.2.1[i] = false := h3
        rw [← hI2]; simp only [this, Bool.false_or]
      · (conv => whnf); refine ⟨rfl, ?_, ?_, ?_⟩ <;> (repeat' apply And.intro) <;> first | exact trivial | rfl | exact wr_succ _ (by omega) | assumption | exact decide_eq_false (by assumption) | exact decide_eq_true (by assumption)
  rw [any_end (by simp at h2; omega)] at hI2
  rw [← hI2]
  rw [Bool.false_or]

  conv => whnf
  refine loop0 (α := Nat) (fun i => i ≤ c.2.2.2.1.length ∧ (c.2.2.2.1.drop i).any longI = c.2.2.2.1.any longI)
    (fun i => ⟨[(1, .c (.ptr 0 0)), (6, .c (.int .i64 i))], [(0, .cells 26 (cc c))], 1⟩) (fun i => c.2.2.2.1.length - i) ⟨0, ⟨by omega, rfl⟩, ?_⟩ ?_
  · (conv => whnf); refine ⟨rfl, ?_, ?_, ?_⟩ <;> (repeat' apply And.intro) <;> first | exact trivial | rfl | exact wr_succ _ (by omega) | assumption | exact decide_eq_false (by assumption) | exact decide_eq_true (by assumption)
  rintro i ⟨hI1, hI2⟩
  conv => whnf
  intro _
  refine ⟨fun h2 => ?_, fun h2 => ?_⟩
  · have h2 : i < c.2.2.2.1.length := by simp at h2; omega
    rw [any_step h2] at hI2
    conv => whnf
    try (intro _; conv => whnf)
    refine ⟨by omega, ?_⟩
    rw [gt_nat (d := ID) c.2.2.2.1 i h2]
    conv => whnf
    try (intro _; conv => whnf)
    refine ⟨fun _ => by omega, ?_⟩
    rw [gt_nat (d := ID) c.2.2.2.1 i h2]
    conv => whnf
    refine ⟨fun h3 => ?_, fun h3 => ?_⟩
    · conv => whnf
      have : longI c.2.2.2.1[i] = true := h3
      simp only [← hI2, this, Bool.true_or]
    · conv => whnf
      refine ⟨i + 1, ⟨⟨by omega, ?_⟩, by omega⟩, ?_⟩
      · have : longI c.2.2.2.1[i] = false := h3
        rw [← hI2]; simp only [this, Bool.false_or]
      · (conv => whnf); refine ⟨rfl, ?_, ?_, ?_⟩ <;> (repeat' apply And.intro) <;> first | exact trivial | rfl | exact wr_succ _ (by omega) | assumption | exact decide_eq_false (by assumption) | exact decide_eq_true (by assumption)
  rw [any_end (by simp at h2; omega)] at hI2
  rw [← hI2]
  conv => whnf

theorem keep_CopyCat (c : CD.T) (h1 : c.1.length ≤ 1000) (h2 : c.2.1.length ≤ 1000) (h3 : c.2.2.1.length ≤ 1000) (h4 : c.2.2.2.1.length ≤ 1000) :
    FnD Try.prog 17 [.agg (cc c)] (· = .agg (cc c)) := by
  refine fn0 Try.func17 rfl rfl rfl ?_
  conv => whnf
  refine ⟨by show (0 + c.1.length) * 16 ≤ 140737488355328; omega, ?_⟩
  conv => whnf
  refine ⟨by show (0 + c.2.1.length) * 16 ≤ 140737488355328; omega, ?_⟩
  conv => whnf
  refine ⟨by show (0 + c.2.2.1.length) * 96 ≤ 140737488355328; omega, ?_⟩
  conv => whnf
  refine ⟨by show (0 + c.2.2.2.1.length) * 32 ≤ 140737488355328; omega, ?_⟩
  conv => whnf
  rfl

theorem ID_eqb (x y : ID.T) : ID.eqb x y = (decide (x.1 = y.1) && decide (x.2 = y.2)) := rfl
theorem keep_Cats (a b : CD.T) : FnD Try.prog 22 [.agg (cc a), .agg (cc b)] (· = .c (.bool (.sym (CD.eqb a b)))) := by
  refine fn0 Try.func22 rfl rfl rfl ?_
  conv => whnf
  refine call1 (keep_Texts a.1 b.1) rfl ?_
  conv => whnf
  refine callg0 (fun _ => keep_Texts a.2.1 b.2.1) rfl ?_
  conv => whnf
  intro _
  conv => whnf
  intro _
  conv => whnf
  intro _
  conv => whnf
  intro _
  conv => whnf
  have hE : CD.eqb a b = (eqL SD.eqb a.1 b.1 && (eqL SD.eqb a.2.1 b.2.1 && (eqL RD.eqb a.2.2.1 b.2.2.1 && (eqL ID.eqb a.2.2.2.1 b.2.2.2.1 && decide (a.2.2.2.2 = b.2.2.2.2))))) := rfl
  refine ⟨fun h1 => ?_, fun h1 => ?_⟩
  · conv => whnf
    rw [hE]
    simp only [Bool.or_eq_true, Bool.not_eq_true', decide_eq_false_iff_not] at h1
    rcases h1 with (((h | h) | h) | h) | h
    · rw [h]; simp
    · rw [h]; simp
    · rw [eqL_len (l := a.2.2.1) (by omega)]; simp
    · rw [eqL_len (l := a.2.2.2.1) (by omega)]; simp
    · simp [h]
  simp only [Bool.or_eq_false_iff, Bool.not_eq_false', decide_eq_true_eq] at h1
  obtain ⟨⟨⟨⟨g1, g2⟩, g3⟩, g4⟩, g5⟩ := h1
  have g3 : a.2.2.1.length = b.2.2.1.length := by omega
  have g4 : a.2.2.2.1.length = b.2.2.2.1.length := by omega
  rw [hE, g1, g2, g5]
  simp only [Bool.true_and, decide_true, Bool.and_true]
  conv => whnf
  refine loop0 (α := Nat) (fun i => i ≤ a.2.2.1.length ∧ eqL RD.eqb (a.2.2.1.drop i) (b.2.2.1.drop i) = eqL RD.eqb a.2.2.1 b.2.2.1)
    (fun i => ⟨[(2, .c (.ptr 0 0)), (3, .c (.ptr 1 0)), (5, .c (.int .i64 i))], [(0, .cells 26 (cc a)), (1, .cells 26 (cc b))], 2⟩) (fun i => a.2.2.1.length - i) ⟨0, ⟨by omega, rfl⟩, ?_⟩ ?_
  · (conv => whnf); refine ⟨rfl, ?_, ?_, ?_⟩ <;> (repeat' apply And.intro) <;> first | exact trivial | rfl | exact wr_succ _ (by omega) | assumption | exact decide_eq_false (by assumption) | exact decide_eq_true (by assumption)
  rintro i ⟨hI1, hI2⟩
  conv => whnf
  intro _
  refine ⟨fun h2 => ?_, fun h2 => ?_⟩
  · have h2 : i < a.2.2.1.length := by simp at h2; omega
    have hb2 : i < b.2.2.1.length := by omega
    rw [eqL_step h2 hb2] at hI2
    conv => whnf
    refine any0 ?_
    conv => whnf
    try (intro _; conv => whnf)
    refine ⟨by omega, ?_⟩
    rw [gt_nat (d := RD) a.2.2.1 i h2]
    conv => whnf
    try (intro _; conv => whnf)
    refine ⟨by omega, ?_⟩
    rw [gt_nat (d := RD) b.2.2.1 i hb2]
    conv => whnf
    refine callr0 (keep_Rule a.2.2.1[i] b.2.2.1[i]) rfl ?_
    conv => whnf
    refine ⟨.inl (by kernel_rfl), after0 ?_⟩
    conv => whnf
    have hx : RD.eqb a.2.2.1[i] b.2.2.1[i] = !(!RD.eqb a.2.2.1[i] b.2.2.1[i]) := by simp
    refine ⟨fun h3 => ?_, fun h3 => ?_⟩
    · conv => whnf
      rw [h3] at hx
      simp only [← hI2, hx, Bool.not_true, Bool.false_and]
    · conv => whnf
      rw [h3] at hx
      refine ⟨i + 1, ⟨⟨by omega, ?_⟩, by omega⟩, ?_⟩
      · rw [← hI2, hx]; simp
      · (conv => whnf); refine ⟨rfl, ?_, ?_, ?_⟩ <;> (repeat' apply And.intro) <;> first | exact trivial | rfl | exact wr_succ _ (by omega) | assumption | exact decide_eq_false (by assumption) | exact decide_eq_true (by assumption)
  rw [eqL_end (by simp at h2; omega) (by simp at h2; omega)] at hI2
  rw [← hI2]
  rw [Bool.true_and]

  conv => whnf
  refine loop0 (α := Nat) (fun i => i ≤ a.2.2.2.1.length ∧ eqL ID.eqb (a.2.2.2.1.drop i) (b.2.2.2.1.drop i) = eqL ID.eqb a.2.2.2.1 b.2.2.2.1)
    (fun i => ⟨[(2, .c (.ptr 0 0)), (3, .c (.ptr 1 0)), (6, .c (.int .i64 i))], [(0, .cells 26 (cc a)), (1, .cells 26 (cc b))], 2⟩) (fun i => a.2.2.2.1.length - i) ⟨0, ⟨by omega, rfl⟩, ?_⟩ ?_
  · (conv => whnf); refine ⟨rfl, ?_, ?_, ?_⟩ <;> (repeat' apply And.intro) <;> first | exact trivial | rfl | exact wr_succ _ (by omega) | assumption | exact decide_eq_false (by assumption) | exact decide_eq_true (by assumption)
  rintro i ⟨hI1, hI2⟩
  conv => whnf
  intro _
  refine ⟨fun h2 => ?_, fun h2 => ?_⟩
  · have h2 : i < a.2.2.2.1.length := by simp at h2; omega
    have hb2 : i < b.2.2.2.1.length := by omega
    rw [eqL_step h2 hb2] at hI2
    conv => whnf
    refine any0 ?_
    conv => whnf
    try (intro _; conv => whnf)
    refine ⟨by omega, ?_⟩
    rw [gt_nat (d := ID) a.2.2.2.1 i h2]
    conv => whnf
    try (intro _; conv => whnf)
    refine ⟨by omega, ?_⟩
    rw [gt_nat (d := ID) b.2.2.2.1 i hb2]
    conv => whnf
    try (intro _; conv => whnf)
    refine ⟨fun _ => by omega, ?_⟩
    rw [gt_nat (d := ID) a.2.2.2.1 i h2]
    conv => whnf
    try (intro _; conv => whnf)
    refine ⟨fun _ => by omega, ?_⟩
    rw [gt_nat (d := ID) b.2.2.2.1 i hb2]
    conv => whnf
    refine ⟨.inl (by kernel_rfl), after0 ?_⟩
    conv => whnf
    have hx : ID.eqb a.2.2.2.1[i] b.2.2.2.1[i] = !(!decide (a.2.2.2.1[i].1 = b.2.2.2.1[i].1) || !decide (a.2.2.2.1[i].2 = b.2.2.2.1[i].2)) := by rw [ID_eqb]; simp
    refine ⟨fun h3 => ?_, fun h3 => ?_⟩
    · conv => whnf
      rw [h3] at hx
      simp only [← hI2, hx, Bool.not_true, Bool.false_and]
    · conv => whnf
      rw [h3] at hx
      refine ⟨i + 1, ⟨⟨by omega, ?_⟩, by omega⟩, ?_⟩
      · rw [← hI2, hx]; simp
      · (conv => whnf); refine ⟨rfl, ?_, ?_, ?_⟩ <;> (repeat' apply And.intro) <;> first | exact trivial | rfl | exact wr_succ _ (by omega) | assumption | exact decide_eq_false (by assumption) | exact decide_eq_true (by assumption)
  rw [eqL_end (by simp at h2; omega) (by simp at h2; omega)] at hI2
  rw [← hI2]
  conv => whnf
end Go.Proofs.Ythpllblcbbkfdaa
