/- Several texts of the proof, one behind the other; put together by a program of the session (mrg.py). Own work. -/
import Derived.Test.YtnldokebmfojeaaPart5
/- The walks of hedgerowkeep: texts, catalogs. Own work. -/
set_option linter.unusedVariables false
set_option maxRecDepth 100000
namespace Go.Proofs.Ytnldokebmfojeaa
open Go Go.RowKit OE

abbrev SD : D := .str
/-- an index: type, name -/
abbrev ID : D := .pair .str .str
/-- a catalog: types of nodes, of edges, rules, indexes, the next rule's Id -/
abbrev CD : D := .pair (.list .str) (.pair (.list .str) (.pair (.list RD) (.pair (.list ID) (.int .i64))))
abbrev cc (c : CD.T) : List C := [.dat .str c.1, .dat .str c.2.1, .dat RD c.2.2.1, .dat ID c.2.2.2.1, .int .i64 c.2.2.2.2]

theorem keep_Texts (a b : List SD.T) : FnD Try.prog 56 [.c (.dat SD a), .c (.dat SD b)] (· = .c (.bool (.sym (eqL SD.eqb a b)))) := by
  refine fn0 Try.func56 rfl rfl rfl ?_
  conv => whnf
  intro ha
  conv => whnf
  intro hb
  refine ⟨fun h1 => ?_, fun h1 => ?_⟩
  · conv => whnf
    rw [eqL_len (by simp at h1; omega)]
  have h1 : a.length = b.length := by simp at h1; omega
  conv => whnf
  refine loop0 (α := Nat) (fun i => i ≤ a.length ∧ eqL SD.eqb (a.drop i) (b.drop i) = eqL SD.eqb a b)
    (fun i => ⟨[(0, .c (.dat SD a)), (1, .c (.dat SD b)), (5, .c (.int .i64 i))], [], 0⟩) (fun i => a.length - i) ⟨0, ⟨by omega, rfl⟩, ?_⟩ ?_
  · (conv => whnf); refine ⟨rfl, ?_, ?_, ?_⟩ <;> (repeat' apply And.intro) <;> first | exact trivial | rfl | exact wr_succ _ (by omega) | assumption | exact decide_eq_false (by assumption) | exact decide_eq_true (by assumption)
  · rintro i ⟨hI1, hI2⟩
    conv => whnf
    intro _
    refine ⟨fun h2 => ?_, fun h2 => ?_⟩
    · have h2 : i < a.length := by simp at h2; omega
      conv => whnf
      have hb2 : i < b.length := by omega
      rw [eqL_step h2 hb2] at hI2
      refine any0 ?_
      conv => whnf
      try (intro _; conv => whnf)
      refine ⟨by omega, ?_⟩
      rw [gt_nat (d := SD) a i h2]
      conv => whnf
      try (intro _; conv => whnf)
      refine ⟨by omega, ?_⟩
      rw [gt_nat (d := SD) b i hb2]
      conv => whnf
      refine ⟨.inl (by kernel_rfl), after0 ?_⟩
      conv => whnf
      refine ⟨fun h4 => ?_, fun h4 => ?_⟩
      · conv => whnf
        have : SD.eqb a[i] b[i] = false := by simpa [D.eqb] using h4
        simp only [← hI2, this, Bool.false_and]
      · conv => whnf
        have : SD.eqb a[i] b[i] = true := by simpa [D.eqb] using h4
        refine ⟨i + 1, ⟨⟨by omega, ?_⟩, by omega⟩, ?_⟩
        · rw [← hI2, this]; simp
        · (conv => whnf); refine ⟨rfl, ?_, ?_, ?_⟩ <;> (repeat' apply And.intro) <;> first | exact trivial | rfl | exact wr_succ _ (by omega) | assumption | exact decide_eq_false (by assumption) | exact decide_eq_true (by assumption)
    · conv => whnf
      rw [← hI2, eqL_end (by simp at h2; omega) (by simp at h2; omega)]

def longT (s : SD.T) : Bool := decide ((1000 : Int) < s.length)
def longI (i : ID.T) : Bool := decide ((1000 : Int) < i.1.length) || decide ((1000 : Int) < i.2.length)
def largeCat (c : CD.T) : Bool := decide ((100 : Int) < c.1.length) || decide ((100 : Int) < c.2.1.length) || decide ((100 : Int) < c.2.2.1.length) || decide ((100 : Int) < c.2.2.2.1.length) ||
  (c.1.any longT || (c.2.1.any longT || (c.2.2.1.any largeRule || c.2.2.2.1.any longI)))
theorem keep_LargeCat (c : CD.T) : FnD Try.prog 12 [.agg (cc c)] (· = .c (.bool (.sym (largeCat c)))) := by
  refine fn0 Try.func12 rfl rfl rfl ?_
  conv => whnf
  intro hc1
  conv => whnf
  intro hc2
  conv => whnf
  intro hc3
  conv => whnf
  intro hc4
  conv => whnf
  refine ⟨fun h1 => ?_, fun h1 => ?_⟩
  · conv => whnf
    simp only [largeCat, h1, Bool.true_or]
  have hm : largeCat c = (c.1.any longT || (c.2.1.any longT || (c.2.2.1.any largeRule || c.2.2.2.1.any longI))) := by simp only [largeCat, h1, Bool.false_or]
  rw [hm]
  conv => whnf
  refine loop0 (α := Nat) (fun i => i ≤ c.1.length ∧ (c.1.drop i).any longT = c.1.any longT)
    (fun i => ⟨[(1, .c (.ptr 0 0)), (3, .c (.int .i64 i))], [(0, .cells 29 (cc c))], 1⟩) (fun i => c.1.length - i) ⟨0, ⟨by omega, rfl⟩, ?_⟩ ?_
  · (conv => whnf); refine ⟨rfl, ?_, ?_, ?_⟩ <;> (repeat' apply And.intro) <;> first | exact trivial | rfl | exact wr_succ _ (by omega) | assumption | exact decide_eq_false (by assumption) | exact decide_eq_true (by assumption)
  rintro i ⟨hI1, hI2⟩
  conv => whnf
  intro _
  refine ⟨fun h2 => ?_, fun h2 => ?_⟩
  · have h2 : i < c.1.length := by simp at h2; omega
    rw [any_step h2] at hI2
    conv => whnf
    try (intro _; conv => whnf)
    refine ⟨by omega, ?_⟩
    rw [gt_nat (d := SD) c.1 i h2]
    conv => whnf
    refine ⟨fun h3 => ?_, fun h3 => ?_⟩
    · conv => whnf
      have : longT c.1[i] = true := h3
      simp only [← hI2, this, Bool.true_or]
    · conv => whnf
      refine ⟨i + 1, ⟨⟨by omega, ?_⟩, by omega⟩, ?_⟩
      · have : longT c.1[i] = false := h3
        rw [← hI2]; simp only [this, Bool.false_or]
      · (conv => whnf); refine ⟨rfl, ?_, ?_, ?_⟩ <;> (repeat' apply And.intro) <;> first | exact trivial | rfl | exact wr_succ _ (by omega) | assumption | exact decide_eq_false (by assumption) | exact decide_eq_true (by assumption)
  rw [any_end (by simp at h2; omega)] at hI2
  rw [← hI2]
  rw [Bool.false_or]

  conv => whnf
  refine loop0 (α := Nat) (fun i => i ≤ c.2.1.length ∧ (c.2.1.drop i).any longT = c.2.1.any longT)
    (fun i => ⟨[(1, .c (.ptr 0 0)), (4, .c (.int .i64 i))], [(0, .cells 29 (cc c))], 1⟩) (fun i => c.2.1.length - i) ⟨0, ⟨by omega, rfl⟩, ?_⟩ ?_
  · (conv => whnf); refine ⟨rfl, ?_, ?_, ?_⟩ <;> (repeat' apply And.intro) <;> first | exact trivial | rfl | exact wr_succ _ (by omega) | assumption | exact decide_eq_false (by assumption) | exact decide_eq_true (by assumption)
  rintro i ⟨hI1, hI2⟩
  conv => whnf
  intro _
  refine ⟨fun h2 => ?_, fun h2 => ?_⟩
  · have h2 : i < c.2.1.length := by simp at h2; omega
    rw [any_step h2] at hI2
    conv => whnf
    try (intro _; conv => whnf)
    refine ⟨by omega, ?_⟩
    rw [gt_nat (d := SD) c.2.1 i h2]
    conv => whnf
    refine ⟨fun h3 => ?_, fun h3 => ?_⟩
    · conv => whnf
      have : longT c.2.1[i] = true := h3
      simp only [← hI2, this, Bool.true_or]
    · conv => whnf
      refine ⟨i + 1, ⟨⟨by omega, ?_⟩, by omega⟩, ?_⟩
      · have : longT c.2.1[i] = false := h3
        rw [← hI2]; simp only [this, Bool.false_or]
      · (conv => whnf); refine ⟨rfl, ?_, ?_, ?_⟩ <;> (repeat' apply And.intro) <;> first | exact trivial | rfl | exact wr_succ _ (by omega) | assumption | exact decide_eq_false (by assumption) | exact decide_eq_true (by assumption)
  rw [any_end (by simp at h2; omega)] at hI2
  rw [← hI2]
  rw [Bool.false_or]

  conv => whnf
  refine loop0 (α := Nat) (fun i => i ≤ c.2.2.1.length ∧ (c.2.2.1.drop i).any largeRule = c.2.2.1.any largeRule)
    (fun i => ⟨[(1, .c (.ptr 0 0)), (5, .c (.int .i64 i))], [(0, .cells 29 (cc c))], 1⟩) (fun i => c.2.2.1.length - i) ⟨0, ⟨by omega, rfl⟩, ?_⟩ ?_
  · (conv => whnf); refine ⟨rfl, ?_, ?_, ?_⟩ <;> (repeat' apply And.intro) <;> first | exact trivial | rfl | exact wr_succ _ (by omega) | assumption | exact decide_eq_false (by assumption) | exact decide_eq_true (by assumption)
  rintro i ⟨hI1, hI2⟩
  conv => whnf
  intro _
  refine ⟨fun h2 => ?_, fun h2 => ?_⟩
  · have h2 : i < c.2.2.1.length := by simp at h2; omega
    rw [any_step h2] at hI2
    conv => whnf
    try (intro _; conv => whnf)
    refine ⟨by omega, ?_⟩
    rw [gt_nat (d := RD) c.2.2.1 i h2]
    conv => whnf
    refine call1 (keep_LargeRule c.2.2.1[i]) rfl ?_
    conv => whnf
    refine ⟨fun h3 => ?_, fun h3 => ?_⟩
    · conv => whnf
      have : largeRule c.2.2.1[i] = true := h3
      simp only [← hI2, this, Bool.true_or]
    · conv => whnf
      refine ⟨i + 1, ⟨⟨by omega, ?_⟩, by omega⟩, ?_⟩
      · have : largeRule c.2.2.1[i] = false := h3
        rw [← hI2]; simp only [this, Bool.false_or]
      · (conv => whnf); refine ⟨rfl, ?_, ?_, ?_⟩ <;> (repeat' apply And.intro) <;> first | exact trivial | rfl | exact wr_succ _ (by omega) | assumption | exact decide_eq_false (by assumption) | exact decide_eq_true (by assumption)
  rw [any_end (by simp at h2; omega)] at hI2
  rw [← hI2]
  rw [Bool.false_or]

  conv => whnf
  refine loop0 (α := Nat) (fun i => i ≤ c.2.2.2.1.length ∧ (c.2.2.2.1.drop i).any longI = c.2.2.2.1.any longI)
    (fun i => ⟨[(1, .c (.ptr 0 0)), (6, .c (.int .i64 i))], [(0, .cells 29 (cc c))], 1⟩) (fun i => c.2.2.2.1.length - i) ⟨0, ⟨by omega, rfl⟩, ?_⟩ ?_
  · (conv => whnf); refine ⟨rfl, ?_, ?_, ?_⟩ <;> (repeat' apply And.intro) <;> first | exact trivial | rfl | exact wr_succ _ (by omega) | assumption | exact decide_eq_false (by assumption) | exact decide_eq_true (by assumption)
  rintro i ⟨hI1, hI2⟩
  conv => whnf
  intro _
  refine ⟨fun h2 => ?_, fun h2 => ?_⟩
  · have h2 : i < c.2.2.2.1.length := by simp at h2; omega
    rw [any_step h2] at hI2
    conv => whnf
    try (intro _; conv => whnf)
    refine ⟨by omega, ?_⟩
    rw [gt_nat (d := ID) c.2.2.2.1 i h2]
    conv => whnf
    try (intro _; conv => whnf)
    refine ⟨fun _ => by omega, ?_⟩
    rw [gt_nat (d := ID) c.2.2.2.1 i h2]
    conv => whnf
    refine ⟨fun h3 => ?_, fun h3 => ?_⟩
    · conv => whnf
      have : longI c.2.2.2.1[i] = true := h3
      simp only [← hI2, this, Bool.true_or]
    · conv => whnf
      refine ⟨i + 1, ⟨⟨by omega, ?_⟩, by omega⟩, ?_⟩
      · have : longI c.2.2.2.1[i] = false := h3
        rw [← hI2]; simp only [this, Bool.false_or]
      · (conv => whnf); refine ⟨rfl, ?_, ?_, ?_⟩ <;> (repeat' apply And.intro) <;> first | exact trivial | rfl | exact wr_succ _ (by omega) | assumption | exact decide_eq_false (by assumption) | exact decide_eq_true (by assumption)
  rw [any_end (by simp at h2; omega)] at hI2
  rw [← hI2]
  conv => whnf

theorem keep_CopyCat (c : CD.T) (h1 : c.1.length ≤ 1000) (h2 : c.2.1.length ≤ 1000) (h3 : c.2.2.1.length ≤ 1000) (h4 : c.2.2.2.1.length ≤ 1000) :
    FnD Try.prog 22 [.agg (cc c)] (· = .agg (cc c)) := by
  refine fn0 Try.func22 rfl rfl rfl ?_
  conv => whnf
  refine ⟨by show (0 + c.1.length) * 16 ≤ 140737488355328; omega, ?_⟩
  conv => whnf
  refine ⟨by show (0 + c.2.1.length) * 16 ≤ 140737488355328; omega, ?_⟩
  conv => whnf
  refine ⟨by show (0 + c.2.2.1.length) * 96 ≤ 140737488355328; omega, ?_⟩
  conv => whnf
  refine ⟨by show (0 + c.2.2.2.1.length) * 32 ≤ 140737488355328; omega, ?_⟩
  conv => whnf
  rfl

theorem ID_eqb (x y : ID.T) : ID.eqb x y = (decide (x.1 = y.1) && decide (x.2 = y.2)) := rfl
theorem keep_Cats (a b : CD.T) : FnD Try.prog 35 [.agg (cc a), .agg (cc b)] (· = .c (.bool (.sym (CD.eqb a b)))) := by
  refine fn0 Try.func35 rfl rfl rfl ?_
  conv => whnf
  refine call1 (keep_Texts a.1 b.1) rfl ?_
  conv => whnf
  refine callg0 (fun _ => keep_Texts a.2.1 b.2.1) rfl ?_
  conv => whnf
  intro _
  conv => whnf
  intro _
  conv => whnf
  intro _
  conv => whnf
  intro _
  conv => whnf
  have hE : CD.eqb a b = (eqL SD.eqb a.1 b.1 && (eqL SD.eqb a.2.1 b.2.1 && (eqL RD.eqb a.2.2.1 b.2.2.1 && (eqL ID.eqb a.2.2.2.1 b.2.2.2.1 && decide (a.2.2.2.2 = b.2.2.2.2))))) := rfl
  refine ⟨fun h1 => ?_, fun h1 => ?_⟩
  · conv => whnf
    rw [hE]
    simp only [Bool.or_eq_true, Bool.not_eq_true', decide_eq_false_iff_not] at h1
    rcases h1 with (((h | h) | h) | h) | h
    · rw [h]; simp
    · rw [h]; simp
    · rw [eqL_len (l := a.2.2.1) (by omega)]; simp
    · rw [eqL_len (l := a.2.2.2.1) (by omega)]; simp
    · simp [h]
  simp only [Bool.or_eq_false_iff, Bool.not_eq_false', decide_eq_true_eq] at h1
  obtain ⟨⟨⟨⟨g1, g2⟩, g3⟩, g4⟩, g5⟩ := h1
  have g3 : a.2.2.1.length = b.2.2.1.length := by omega
  have g4 : a.2.2.2.1.length = b.2.2.2.1.length := by omega
  rw [hE, g1, g2, g5]
  simp only [Bool.true_and, decide_true, Bool.and_true]
  conv => whnf
  refine loop0 (α := Nat) (fun i => i ≤ a.2.2.1.length ∧ eqL RD.eqb (a.2.2.1.drop i) (b.2.2.1.drop i) = eqL RD.eqb a.2.2.1 b.2.2.1)
    (fun i => ⟨[(2, .c (.ptr 0 0)), (3, .c (.ptr 1 0)), (5, .c (.int .i64 i))], [(0, .cells 29 (cc a)), (1, .cells 29 (cc b))], 2⟩) (fun i => a.2.2.1.length - i) ⟨0, ⟨by omega, rfl⟩, ?_⟩ ?_
  · (conv => whnf); refine ⟨rfl, ?_, ?_, ?_⟩ <;> (repeat' apply And.intro) <;> first | exact trivial | rfl | exact wr_succ _ (by omega) | assumption | exact decide_eq_false (by assumption) | exact decide_eq_true (by assumption)
  rintro i ⟨hI1, hI2⟩
  conv => whnf
  intro _
  refine ⟨fun h2 => ?_, fun h2 => ?_⟩
  · have h2 : i < a.2.2.1.length := by simp at h2; omega
    have hb2 : i < b.2.2.1.length := by omega
    rw [eqL_step h2 hb2] at hI2
    conv => whnf
    refine any0 ?_
    conv => whnf
    try (intro _; conv => whnf)
    refine ⟨by omega, ?_⟩
    rw [gt_nat (d := RD) a.2.2.1 i h2]
    conv => whnf
    try (intro _; conv => whnf)
    refine ⟨by omega, ?_⟩
    rw [gt_nat (d := RD) b.2.2.1 i hb2]
    conv => whnf
    refine callr0 (keep_Rule a.2.2.1[i] b.2.2.1[i]) rfl ?_
    conv => whnf
    refine ⟨.inl (by kernel_rfl), after0 ?_⟩
    conv => whnf
    have hx : RD.eqb a.2.2.1[i] b.2.2.1[i] = !(!RD.eqb a.2.2.1[i] b.2.2.1[i]) := by simp
    refine ⟨fun h3 => ?_, fun h3 => ?_⟩
    · conv => whnf
      rw [h3] at hx
      simp only [← hI2, hx, Bool.not_true, Bool.false_and]
    · conv => whnf
      rw [h3] at hx
      refine ⟨i + 1, ⟨⟨by omega, ?_⟩, by omega⟩, ?_⟩
      · rw [← hI2, hx]; simp
      · (conv => whnf); refine ⟨rfl, ?_, ?_, ?_⟩ <;> (repeat' apply And.intro) <;> first | exact trivial | rfl | exact wr_succ _ (by omega) | assumption | exact decide_eq_false (by assumption) | exact decide_eq_true (by assumption)
  rw [eqL_end (by simp at h2; omega) (by simp at h2; omega)] at hI2
  rw [← hI2]
  rw [Bool.true_and]

  conv => whnf
  refine loop0 (α := Nat) (fun i => i ≤ a.2.2.2.1.length ∧ eqL ID.eqb (a.2.2.2.1.drop i) (b.2.2.2.1.drop i) = eqL ID.eqb a.2.2.2.1 b.2.2.2.1)
    (fun i => ⟨[(2, .c (.ptr 0 0)), (3, .c (.ptr 1 0)), (6, .c (.int .i64 i))], [(0, .cells 29 (cc a)), (1, .cells 29 (cc b))], 2⟩) (fun i => a.2.2.2.1.length - i) ⟨0, ⟨by omega, rfl⟩, ?_⟩ ?_
  · (conv => whnf); refine ⟨rfl, ?_, ?_, ?_⟩ <;> (repeat' apply And.intro) <;> first | exact trivial | rfl | exact wr_succ _ (by omega) | assumption | exact decide_eq_false (by assumption) | exact decide_eq_true (by assumption)
  rintro i ⟨hI1, hI2⟩
  conv => whnf
  intro _
  refine ⟨fun h2 => ?_, fun h2 => ?_⟩
  · have h2 : i < a.2.2.2.1.length := by simp at h2; omega
    have hb2 : i < b.2.2.2.1.length := by omega
    rw [eqL_step h2 hb2] at hI2
    conv => whnf
    refine any0 ?_
    conv => whnf
    try (intro _; conv => whnf)
    refine ⟨by omega, ?_⟩
    rw [gt_nat (d := ID) a.2.2.2.1 i h2]
    conv => whnf
    try (intro _; conv => whnf)
    refine ⟨by omega, ?_⟩
    rw [gt_nat (d := ID) b.2.2.2.1 i hb2]
    conv => whnf
    try (intro _; conv => whnf)
    refine ⟨fun _ => by omega, ?_⟩
    rw [gt_nat (d := ID) a.2.2.2.1 i h2]
    conv => whnf
    try (intro _; conv => whnf)
    refine ⟨fun _ => by omega, ?_⟩
    rw [gt_nat (d := ID) b.2.2.2.1 i hb2]
    conv => whnf
    refine ⟨.inl (by kernel_rfl), after0 ?_⟩
    conv => whnf
    have hx : ID.eqb a.2.2.2.1[i] b.2.2.2.1[i] = !(!decide (a.2.2.2.1[i].1 = b.2.2.2.1[i].1) || !decide (a.2.2.2.1[i].2 = b.2.2.2.1[i].2)) := by rw [ID_eqb]; simp
    refine ⟨fun h3 => ?_, fun h3 => ?_⟩
    · conv => whnf
      rw [h3] at hx
      simp only [← hI2, hx, Bool.not_true, Bool.false_and]
    · conv => whnf
      rw [h3] at hx
      refine ⟨i + 1, ⟨⟨by omega, ?_⟩, by omega⟩, ?_⟩
      · rw [← hI2, hx]; simp
      · (conv => whnf); refine ⟨rfl, ?_, ?_, ?_⟩ <;> (repeat' apply And.intro) <;> first | exact trivial | rfl | exact wr_succ _ (by omega) | assumption | exact decide_eq_false (by assumption) | exact decide_eq_true (by assumption)
  rw [eqL_end (by simp at h2; omega) (by simp at h2; omega)] at hI2
  rw [← hI2]
  conv => whnf
end Go.Proofs.Ytnldokebmfojeaa
/- The walks of the reading of replies: numbers, texts, properties; the program's and the reference's. Own work. -/
set_option linter.unusedVariables false
set_option maxRecDepth 100000
namespace Go.Proofs.Ytnldokebmfojeaa
open Go Go.RowKit OE

abbrev kp0 : List (Nat × Bool) := [(0, false)]
def nS (s : List UInt8) (k : Int) : Nat × Nat := (Num.getN s k).getD (0, 0)
def tS (s : List UInt8) (k m : Int) : List UInt8 × Nat := (Num.getT s k m).getD ([], 0)
theorem nS_bd {s : List UInt8} {k : Int} (h : (Num.getN s k).isSome = true) : k + ((nS s k).2 : Int) ≤ s.length := by
  unfold nS
  cases hg : Num.getN s k with
  | none => rw [hg] at h; cases h
  | some p =>
    obtain ⟨n, i⟩ := p
    have := Num.getN_bd hg
    simp only [Option.getD_some]
    omega
theorem tS_bd {s : List UInt8} {k m : Int} (h : (Num.getT s k m).isSome = true) : k + ((tS s k m).2 : Int) ≤ s.length := by
  unfold tS
  cases hg : Num.getT s k m with
  | none => rw [hg] at h; cases h
  | some p =>
    obtain ⟨n, i⟩ := p
    have := getT_bd hg
    simp only [Option.getD_some]
    omega
/-- where reading stands, and whether something was bad -/
abbrev obT (T : Nat) (s : List UInt8) (q : Int × Bool) : List (Nat × Ob) := [(0, .cells T [.str s, .int .i64 q.1, .bool (.sym q.2)])]
abbrev obA := obT 72
def rdN (s : List UInt8) (most : Int) (q : Int × Bool) : Int × Int × Bool := if q.2 = true ∨ (Num.getN s q.1).isSome = false ∨ most < ((nS s q.1).1 : Int) then (0, q.1, true) else (IntKind.wrap .i64 (nS s q.1).1, q.1 + (nS s q.1).2, q.2)
def rdT (s : List UInt8) (most : Int) (q : Int × Bool) : List UInt8 × Int × Bool := if q.2 = true ∨ (Num.getT s q.1 most).isSome = false then ([], q.1, true) else ((tS s q.1 most).1, q.1 + (tS s q.1 most).2, q.2)
def inS (s : List UInt8) (q : Int × Bool) : Prop := 0 ≤ q.1 ∧ q.1 ≤ s.length
theorem not_false' {b : Bool} (h : ¬ b = false) : b = true := by cases b <;> simp_all
theorem rdN_in {s : List UInt8} {q : Int × Bool} {most : Int} (h : inS s q) : inS s (rdN s most q).2 := by
  unfold rdN
  obtain ⟨h0, h1⟩ := h
  split
  · exact ⟨h0, h1⟩
  · rename_i hc
    have := nS_bd (not_false' fun h => hc (.inr (.inl h)))
    exact ⟨by dsimp only; omega, by dsimp only; omega⟩
theorem rdT_in {s : List UInt8} {q : Int × Bool} {most : Int} (h : inS s q) : inS s (rdT s most q).2 := by
  unfold rdT
  obtain ⟨h0, h1⟩ := h
  split
  · exact ⟨h0, h1⟩
  · rename_i hc
    have := tS_bd (not_false' fun h => hc (.inr h))
    exact ⟨by dsimp only; omega, by dsimp only; omega⟩
theorem yesno {a b : Bool} {X : Prop} [Decidable X] (h : (a || !b || decide X) = false) : ¬ (a = true ∨ b = false ∨ X) := by
  rw [Bool.or_eq_false_iff, Bool.or_eq_false_iff, decide_eq_false_iff_not] at h
  rintro (e | e | e)
  · rw [e] at h; cases h.1.1
  · rw [e] at h; cases h.1.2
  · exact h.2 e
theorem yesyes {a b : Bool} {X : Prop} [Decidable X] (h : (a || !b || decide X) = true) : a = true ∨ b = false ∨ X := by
  rw [Bool.or_eq_true, Bool.or_eq_true, decide_eq_true_eq, Bool.not_eq_true'] at h
  rcases h with (h | h) | h
  · exact .inl h
  · exact .inr (.inl h)
  · exact .inr (.inr h)
theorem yesno2 {a b : Bool} (h : (a || !b) = false) : ¬ (a = true ∨ b = false) := by
  cases a <;> cases b <;> simp_all
theorem yesyes2 {a b : Bool} (h : (a || !b) = true) : a = true ∨ b = false := by
  cases a <;> cases b <;> simp_all
theorem ra_number (s : List UInt8) (hs : s.length ≤ 100000000) (most : Int) (hm0 : 0 ≤ most) (hm : most ≤ 4611686018427387903) (q : Int × Bool) (h : inS s q) : FnP Try.prog 23 [.c (.ptr 0 0), .c (.int .i64 most)] (obA s q) 1 kp0 (.c (.int .i64 (rdN s most q).1)) (obA s (rdN s most q).2) 1 := by
  obtain ⟨h0, h1⟩ := h
  have e0 : IntKind.wrap .u64 most = most := wru64 _ hm0 (by omega)
  refine fnP noI Try.func23 rfl rfl rfl rfl ?_
  conv => whnf
  refine any0 ?_
  conv => whnf
  refine callr0 (num_Get s q.1 (Nat.le_trans hs (by decide))) rfl ?_
  conv => whnf
  refine ⟨.inl (by kernel_rfl), after0 ?_⟩
  conv => whnf
  rw [e0]
  refine ⟨fun a => ?_, fun a => ?_⟩
  · rw [show rdN s most q = (0, q.1, true) from if_pos (yesyes a)]
    conv => whnf
    refine ⟨rfl, ?_, ?_, ?_⟩ <;> (repeat' apply And.intro) <;> first | exact trivial | rfl | assumption
  have a := yesno a
  have hl := nS_bd (not_false' fun h => a (.inr (.inl h)))
  have e1 : IntKind.wrap .i64 (q.1 + ((nS s q.1).2 : Int)) = q.1 + ((nS s q.1).2 : Int) := wr64 _ (by omega) (by omega)
  rw [show rdN s most q = (IntKind.wrap .i64 (nS s q.1).1, q.1 + (nS s q.1).2, q.2) from if_neg a]
  rw [show (Num.getN s q.1).getD (0, 0) = nS s q.1 from rfl]
  conv => whnf
  skip
  skip
  rw [e1]
  refine ⟨rfl, ?_, ?_, ?_⟩ <;> (repeat' apply And.intro) <;> first | exact trivial | rfl | assumption
theorem ra_text (s : List UInt8) (hs : s.length ≤ 100000000) (most : Int) (hm : most ≤ 1073741824) (q : Int × Bool) (h : inS s q) : FnP Try.prog 30 [.c (.ptr 0 0), .c (.int .i64 most)] (obA s q) 1 kp0 (.c (.str (rdT s most q).1)) (obA s (rdT s most q).2) 1 := by
  obtain ⟨h0, h1⟩ := h
  refine fnP noI Try.func30 rfl rfl rfl rfl ?_
  conv => whnf
  refine any0 ?_
  conv => whnf
  refine callr0 (num_GetText s q.1 most (Nat.le_trans hs (by decide)) (by omega)) rfl ?_
  conv => whnf
  refine ⟨.inl (by kernel_rfl), after0 ?_⟩
  conv => whnf
  refine ⟨fun a => ?_, fun a => ?_⟩
  · rw [show rdT s most q = ([], q.1, true) from if_pos (yesyes2 a)]
    conv => whnf
    refine ⟨rfl, ?_, ?_, ?_⟩ <;> (repeat' apply And.intro) <;> first | exact trivial | rfl | assumption
  have a := yesno2 a
  have hl := tS_bd (not_false' fun h => a (.inr h))
  have e1 : IntKind.wrap .i64 (q.1 + ((tS s q.1 most).2 : Int)) = q.1 + ((tS s q.1 most).2 : Int) := wr64 _ (by omega) (by omega)
  rw [show rdT s most q = ((tS s q.1 most).1, q.1 + (tS s q.1 most).2, q.2) from if_neg a]
  rw [show (Num.getT s q.1 most).getD ([], 0) = tS s q.1 most from rfl]
  conv => whnf
  skip
  skip
  rw [e1]
  refine ⟨rfl, ?_, ?_, ?_⟩ <;> (repeat' apply And.intro) <;> first | exact trivial | rfl | assumption
theorem ra_id (s : List UInt8) (hs : s.length ≤ 100000000) (q : Int × Bool) (h : inS s q) : FnP Try.prog 24 [.c (.ptr 0 0)] (obA s q) 1 kp0 (.c (.int .i64 (rdN s 4611686018427387903 q).1)) (obA s (rdN s 4611686018427387903 q).2) 1 := by
  refine fnP noI Try.func24 rfl rfl rfl rfl ?_
  conv => whnf
  refine callp0 [0] rfl rfl (ra_number s hs 4611686018427387903 (by decide) (by decide) q h) rfl rfl rfl rfl rfl ?_
  conv => whnf
  refine ⟨rfl, ?_, ?_, ?_⟩ <;> (repeat' apply And.intro) <;> first | exact trivial | rfl | assumption
/-! properties, as rows that may be nil -/
def pS (s : List UInt8) (k : Int) : List PD.T × Nat := (decPs s k).getD ([], 0)
def rdP (s : List UInt8) (q : Int × Bool) : List PD.T × Int × Bool := if q.2 = true ∨ (decPs s q.1).isSome = false then ([], q.1, true) else ((pS s q.1).1, q.1 + (pS s q.1).2, q.2)
theorem decPs_bd {s : List UInt8} {k : Int} {l : List PD.T} {m : Nat} (h : decPs s k = some (l, m)) : k + m ≤ s.length := by
  unfold decPs at h
  cases hg : Num.getN s k with
  | none => rw [hg] at h; cases h
  | some p =>
    obtain ⟨n, i⟩ := p
    have hb := Num.getN_bd hg
    rw [hg] at h
    dsimp only at h
    split at h
    · cases h
    · cases hd : decL n s (k + i) with
      | none => rw [hd] at h; cases h
      | some q =>
        obtain ⟨l', m'⟩ := q
        have := decL_bd hd (by omega)
        rw [hd] at h
        dsimp only at h
        split at h
        · simp only [Option.some.injEq, Prod.mk.injEq] at h
          omega
        · cases h
theorem pS_bd {s : List UInt8} {k : Int} (h : (decPs s k).isSome = true) : k + ((pS s k).2 : Int) ≤ s.length := by
  unfold pS
  cases hg : decPs s k with
  | none => rw [hg] at h; cases h
  | some p => exact decPs_bd hg
theorem rdP_in {s : List UInt8} {q : Int × Bool} (h : inS s q) : inS s (rdP s q).2 := by
  unfold rdP
  obtain ⟨h0, h1⟩ := h
  split
  · exact ⟨h0, h1⟩
  · rename_i hc
    have := pS_bd (not_false' fun h => hc (.inr h))
    exact ⟨by dsimp only; omega, by dsimp only; omega⟩
theorem ra_props (s : List UInt8) (hs : s.length ≤ 100000000) (q : Int × Bool) (h : inS s q) : FnP Try.prog 49 [.c (.ptr 0 0)] (obA s q) 1 kp0 (.c (.dat PD (rdP s q).1)) (obA s (rdP s q).2) 1 := by
  obtain ⟨h0, h1⟩ := h
  refine fnP noI Try.func49 rfl rfl rfl rfl ?_
  conv => whnf
  refine any0 ?_
  conv => whnf
  refine callr0 (val_DecodeProps s q.1 hs) rfl ?_
  conv => whnf
  refine ⟨.inl (by kernel_rfl), after0 ?_⟩
  conv => whnf
  refine ⟨fun a => ?_, fun a => ?_⟩
  · rw [show rdP s q = ([], q.1, true) from if_pos (yesyes2 a)]
    conv => whnf
    refine ⟨rfl, ?_, ?_, ?_⟩ <;> (repeat' apply And.intro) <;> first | exact trivial | rfl | assumption
  have a := yesno2 a
  have hl := pS_bd (not_false' fun h => a (.inr h))
  have e1 : IntKind.wrap .i64 (q.1 + ((pS s q.1).2 : Int)) = q.1 + ((pS s q.1).2 : Int) := wr64 _ (by omega) (by omega)
  rw [show rdP s q = ((pS s q.1).1, q.1 + (pS s q.1).2, q.2) from if_neg a]
  rw [show (decPs s q.1).getD ([], 0) = pS s q.1 from rfl]
  conv => whnf
  skip
  skip
  rw [e1]
  refine ⟨rfl, ?_, ?_, ?_⟩ <;> (repeat' apply And.intro) <;> first | exact trivial | rfl | assumption
end Go.Proofs.Ytnldokebmfojeaa
/- The walks of the reading of nodes, edges, lists of them. Own work. -/
set_option linter.unusedVariables false
set_option maxRecDepth 100000
namespace Go.Proofs.Ytnldokebmfojeaa
open Go Go.RowKit OE

/-- a cut behind the block that a loop ends by -/
theorem cut_blk {E : En} {cur : FI} {c : Code} {id : Nat} {r : List It} {st : St} {stk : List Fm} {α : Type} (I : α → Prop) (σ : α → St) (h1 : Mean E cur (.code c :: .blk id :: .fin (fun st' => ∃ y, I y ∧ sub (σ y) st' stk) :: r) st stk)
    (h2 : ∀ y, I y → Mean E cur r (σ y) stk) : Mean E cur (.code c :: .blk id :: r) st stk := by
  intro w0 η S a w hS hR
  have hfin : ∀ e a w, TW E.P w0 cur S (RR E.P w0 (OE.Fin w0 E.post) cur S) (.fin (fun st' => ∃ y, I y ∧ sub (σ y) st' stk) :: r) e a w → TW E.P w0 cur S (RR E.P w0 (OE.Fin w0 E.post) cur S) r e a w := by
    intro e a w hq
    cases e with
    | normal =>
      obtain ⟨η1, st1, hR1, y, hy, hs⟩ := hq
      obtain ⟨η2, hR2⟩ := sub_sound hs hS hR1
      exact h2 y hy w0 η2 S a w hS hR2
    | exit id => exact hq
    | goto l => exact hq
    | ret => exact hq
    | panic ch => exact hq
    | outgrown => exact hq
  refine wp_mono (h1 w0 η S a w hS hR) ?_
  intro e a w hq
  cases e with
  | normal => exact hfin .normal a w hq
  | exit j =>
    simp only [TW] at hq ⊢
    split
    · rename_i e
      rw [if_pos e] at hq
      exact hfin .normal a w hq
    · rename_i e
      rw [if_neg e] at hq
      exact hfin (.exit j) a w hq
  | goto l => exact hfin _ a w hq
  | ret => exact hfin _ a w hq
  | panic ch => exact hfin _ a w hq
  | outgrown => exact hfin _ a w hq
abbrev mxI : Int := 4611686018427387903
def oneN (s : List UInt8) (q : Int × Bool) : ND.T × Int × Bool := (((rdN s mxI q).1, (rdT s 16 (rdN s mxI q).2).1, (rdP s (rdT s 16 (rdN s mxI q).2).2).1), (rdP s (rdT s 16 (rdN s mxI q).2).2).2)
def oneE (s : List UInt8) (q : Int × Bool) : ED.T × Int × Bool :=
  (((rdN s mxI q).1, (rdT s 16 (rdN s mxI q).2).1, (rdN s mxI (rdT s 16 (rdN s mxI q).2).2).1, (rdN s mxI (rdN s mxI (rdT s 16 (rdN s mxI q).2).2).2).1, (rdP s (rdN s mxI (rdN s mxI (rdT s 16 (rdN s mxI q).2).2).2).2).1), (rdP s (rdN s mxI (rdN s mxI (rdT s 16 (rdN s mxI q).2).2).2).2).2)
theorem oneN_in {s : List UInt8} {q : Int × Bool} (h : inS s q) : inS s (oneN s q).2 := rdP_in (rdT_in (rdN_in h))
theorem oneE_in {s : List UInt8} {q : Int × Bool} (h : inS s q) : inS s (oneE s q).2 := rdP_in (rdN_in (rdN_in (rdT_in (rdN_in h))))
theorem ra_node (s : List UInt8) (hs : s.length ≤ 100000000) (q : Int × Bool) (h : inS s q) : FnP Try.prog 26 [.c (.ptr 0 0)] (obA s q) 1 kp0 (.agg [.int .i64 (oneN s q).1.1, .str (oneN s q).1.2.1, .dat PD (oneN s q).1.2.2]) (obA s (oneN s q).2) 1 := by
  refine fnP noI Try.func26 rfl rfl rfl rfl ?_
  conv => whnf
  refine callp0 [0] rfl rfl (ra_id s hs q h) rfl rfl rfl rfl rfl ?_
  conv => whnf
  refine callp0 [0] rfl rfl (ra_text s hs 16 (by decide) _ (rdN_in h)) rfl rfl rfl rfl rfl ?_
  conv => whnf
  refine callp0 [0] rfl rfl (ra_props s hs _ (rdT_in (rdN_in h))) rfl rfl rfl rfl rfl ?_
  conv => whnf
  refine ⟨rfl, ?_, ?_, ?_⟩ <;> (repeat' apply And.intro) <;> first | exact trivial | rfl | assumption
theorem ra_edge (s : List UInt8) (hs : s.length ≤ 100000000) (q : Int × Bool) (h : inS s q) : FnP Try.prog 28 [.c (.ptr 0 0)] (obA s q) 1 kp0 (.agg [.int .i64 (oneE s q).1.1, .str (oneE s q).1.2.1, .int .i64 (oneE s q).1.2.2.1, .int .i64 (oneE s q).1.2.2.2.1, .dat PD (oneE s q).1.2.2.2.2]) (obA s (oneE s q).2) 1 := by
  refine fnP noI Try.func28 rfl rfl rfl rfl ?_
  conv => whnf
  refine callp0 [0] rfl rfl (ra_id s hs q h) rfl rfl rfl rfl rfl ?_
  conv => whnf
  refine callp0 [0] rfl rfl (ra_text s hs 16 (by decide) _ (rdN_in h)) rfl rfl rfl rfl rfl ?_
  conv => whnf
  refine callp0 [0] rfl rfl (ra_id s hs _ (rdT_in (rdN_in h))) rfl rfl rfl rfl rfl ?_
  conv => whnf
  refine callp0 [0] rfl rfl (ra_id s hs _ (rdN_in (rdT_in (rdN_in h)))) rfl rfl rfl rfl rfl ?_
  conv => whnf
  refine callp0 [0] rfl rfl (ra_props s hs _ (rdN_in (rdN_in (rdT_in (rdN_in h))))) rfl rfl rfl rfl rfl ?_
  conv => whnf
  refine ⟨rfl, ?_, ?_, ?_⟩ <;> (repeat' apply And.intro) <;> first | exact trivial | rfl | assumption
/-- a list that is read: as long as nothing is bad -/
def lstA {α : Type} (one : Int × Bool → α × Int × Bool) : Nat → List α → Int × Bool → List α × Int × Bool
  | 0, acc, q => (acc, q)
  | n + 1, acc, q => if q.2 = true then ([], q) else lstA one n (acc ++ [(one q).1]) (one q).2
def listA {α : Type} (s : List UInt8) (one : Int × Bool → α × Int × Bool) (q : Int × Bool) : List α × Int × Bool := lstA one (rdN s 1024 q).1.toNat [] (rdN s 1024 q).2
theorem rdN_val (s : List UInt8) (q : Int × Bool) {most : Int} (h0 : 0 ≤ most) (hm : most ≤ 4611686018427387903) : 0 ≤ (rdN s most q).1 ∧ (rdN s most q).1 ≤ most := by
  unfold rdN
  split
  · exact ⟨Int.le_refl 0, h0⟩
  · rename_i hc
    have : ¬ most < ((nS s q.1).1 : Int) := fun h => hc (.inr (.inr h))
    rw [wr64 _ (by omega) (by omega)]
    exact ⟨by omega, by omega⟩
def lsSt (T f : Nat) (U : Nat) (d : D) (s : List UInt8) (q : Int × Bool) (n j : Nat) : List d.T → St
  | [] => ⟨[(0, .c (.ptr 0 0)), (1, .c (.bm f 0 0)), (5, .c (.val (.slice none 0 0))), (7, .c (.int .i64 n)), (8, .c (.int .i64 j))], obT T s q, 1⟩
  | x :: xs => ⟨[(0, .c (.ptr 0 0)), (1, .c (.bm f 0 0)), (5, .c (.row 1)), (7, .c (.int .i64 n)), (8, .c (.int .i64 j))], (1, .row U d (x :: xs)) :: obT T s q, 2⟩
def lsEn (T : Nat) (U : Nat) (d : D) (s : List UInt8) (q : Int × Bool) : List d.T → St
  | [] => ⟨[(5, .c (.val (.slice none 0 0)))], obT T s q, 1⟩
  | x :: xs => ⟨[(5, .c (.row 1))], (1, .row U d (x :: xs)) :: obT T s q, 2⟩
theorem al_node (s : List UInt8) (hs : s.length ≤ 100000000) (q : Int × Bool) (h : inS s q) : FnP Try.prog 25 [.c (.ptr 0 0), .c (.bm 26 0 0)] (obA s q) 1 kp0 (.c (.dat ND (listA s (oneN s) q).1)) (obA s (listA s (oneN s) q).2) 1 := by
  have hv := rdN_val s q (most := 1024) (by decide) (by decide)
  have hi := rdN_in (most := 1024) h
  unfold listA
  refine fnP noI Try.func25 rfl rfl rfl rfl ?_
  conv => whnf
  refine callp0 [0] rfl rfl (ra_number s hs 1024 (by decide) (by decide) q h) rfl rfl rfl rfl rfl ?_
  conv => whnf
  generalize rdN s 1024 q = y at hv hi
  obtain ⟨m, q1⟩ := y
  dsimp only at hv hi
  obtain ⟨n, rfl⟩ := Int.eq_ofNat_of_zero_le hv.1
  rw [Int.toNat_natCast]
  generalize hR : lstA (oneN s) n [] q1 = R
  refine ⟨cut_blk (α := List ND.T × Int × Bool) (fun y => y = R) (fun y => lsEn 72 56 ND s y.2 y.1) (LoopOk.out ?_) ?_⟩
  · refine loop0 (α := Nat × List ND.T × Int × Bool) (fun p => p.1 ≤ n ∧ p.2.1.length = p.1 ∧ inS s p.2.2 ∧ lstA (oneN s) (n - p.1) p.2.1 p.2.2 = R) (fun p => lsSt 72 26 56 ND s p.2.2 n p.1 p.2.1) (fun p => n - p.1) ⟨(0, [], q1), ⟨by dsimp only; omega, rfl, hi, hR⟩, ?_⟩ ?_
    · (conv => whnf); refine ⟨rfl, ?_, ?_, ?_⟩ <;> (repeat' apply And.intro) <;> first | exact trivial | rfl | exact wr_succ _ (by omega) | assumption | exact decide_eq_false (by assumption) | exact decide_eq_true (by assumption)
    rintro ⟨j, acc, q'⟩ ⟨hj, hl, hq, hE⟩
    dsimp only at hj hl hq hE ⊢
    cases acc with
    | nil =>
      conv => whnf
      refine ⟨fun a => ?_, fun a => ?_⟩
      · have a : j < n := by rw [decide_eq_true_eq] at a; omega
        obtain ⟨m, hm⟩ : ∃ m, n - j = m + 1 := ⟨n - j - 1, by omega⟩
        rw [hm, show lstA (oneN s) (m + 1) [] q' = if q'.2 = true then ([], q') else lstA (oneN s) m ([] ++ [(oneN s q').1]) (oneN s q').2 from rfl] at hE
        conv => whnf
        refine ⟨fun b => ?_, fun b => ?_⟩
        · have b : q'.2 = true := b
          rw [if_pos b] at hE
          rw [← hE]
          conv => whnf
          refine ⟨rfl, ?_, ?_, ?_⟩ <;> (repeat' apply And.intro) <;> first | exact trivial | rfl | assumption
        have b : ¬ q'.2 = true := by have b : q'.2 = false := b; rw [b]; decide
        rw [if_neg b] at hE
        conv => whnf
        refine callp0 [0] rfl rfl (ra_node s hs q' hq) rfl rfl rfl rfl rfl ?_
        conv => whnf
        refine ⟨by show (0 + 1) * 48 ≤ 140737488355328; omega, ?_⟩
        conv => whnf
        refine ⟨(j + 1, [] ++ [(oneN s q').1], (oneN s q').2), ⟨⟨by dsimp only; omega, by dsimp only; rw [List.length_append, hl]; rfl, oneN_in hq, by dsimp only; rw [show n - (j + 1) = m by omega]; exact hE⟩, by dsimp only; omega⟩, ?_⟩
        (conv => whnf); refine ⟨rfl, ?_, ?_, ?_⟩ <;> (repeat' apply And.intro) <;> first | exact trivial | rfl | exact wr_succ _ (by omega) | assumption | exact decide_eq_false (by assumption) | exact decide_eq_true (by assumption)
      · have a : j = n := by rw [decide_eq_false_iff_not] at a; omega
        rw [show n - j = 0 by omega, show lstA (oneN s) 0 [] q' = ([], q') from rfl] at hE
        conv => whnf
        refine ⟨([], q'), hE, ?_⟩
        (conv => whnf); refine ⟨rfl, ?_, ?_, ?_⟩ <;> (repeat' apply And.intro) <;> first | exact trivial | rfl | exact wr_succ _ (by omega) | assumption | exact decide_eq_false (by assumption) | exact decide_eq_true (by assumption)
    | cons x xs =>
      conv => whnf
      refine ⟨fun a => ?_, fun a => ?_⟩
      · have a : j < n := by rw [decide_eq_true_eq] at a; omega
        obtain ⟨m, hm⟩ : ∃ m, n - j = m + 1 := ⟨n - j - 1, by omega⟩
        rw [hm, show lstA (oneN s) (m + 1) (x :: xs) q' = if q'.2 = true then ([], q') else lstA (oneN s) m ((x :: xs) ++ [(oneN s q').1]) (oneN s q').2 from rfl] at hE
        conv => whnf
        refine ⟨fun b => ?_, fun b => ?_⟩
        · have b : q'.2 = true := b
          rw [if_pos b] at hE
          rw [← hE]
          conv => whnf
          refine ⟨rfl, ?_, ?_, ?_⟩ <;> (repeat' apply And.intro) <;> first | exact trivial | rfl | assumption
        have b : ¬ q'.2 = true := by have b : q'.2 = false := b; rw [b]; decide
        rw [if_neg b] at hE
        conv => whnf
        refine callp0 [0] rfl rfl (ra_node s hs q' hq) rfl rfl rfl rfl rfl ?_
        conv => whnf
        refine ⟨by show ((x :: xs).length + 1) * 48 ≤ 140737488355328; omega, ?_⟩
        conv => whnf
        refine ⟨(j + 1, (x :: xs) ++ [(oneN s q').1], (oneN s q').2), ⟨⟨by dsimp only; omega, by dsimp only; rw [List.length_append, hl]; rfl, oneN_in hq, by dsimp only; rw [show n - (j + 1) = m by omega]; exact hE⟩, by dsimp only; omega⟩, ?_⟩
        (conv => whnf); refine ⟨rfl, ?_, ?_, ?_⟩ <;> (repeat' apply And.intro) <;> first | exact trivial | rfl | exact wr_succ _ (by omega) | assumption | exact decide_eq_false (by assumption) | exact decide_eq_true (by assumption)
      · have a : j = n := by rw [decide_eq_false_iff_not] at a; omega
        rw [show n - j = 0 by omega, show lstA (oneN s) 0 (x :: xs) q' = ((x :: xs), q') from rfl] at hE
        conv => whnf
        refine ⟨((x :: xs), q'), hE, ?_⟩
        (conv => whnf); refine ⟨rfl, ?_, ?_, ?_⟩ <;> (repeat' apply And.intro) <;> first | exact trivial | rfl | exact wr_succ _ (by omega) | assumption | exact decide_eq_false (by assumption) | exact decide_eq_true (by assumption)
  · rintro ⟨acc, q'⟩ rfl
    cases acc with
    | nil =>
      refine go0 ?_
      conv => whnf
      refine ⟨rfl, ?_, ?_, ?_⟩ <;> (repeat' apply And.intro) <;> first | exact trivial | rfl | assumption
    | cons x xs =>
      refine freeze_rule (b := 1) rfl (go0 ?_)
      conv => whnf
      refine ⟨rfl, ?_, ?_, ?_⟩ <;> (repeat' apply And.intro) <;> first | exact trivial | rfl | assumption
theorem al_edge (s : List UInt8) (hs : s.length ≤ 100000000) (q : Int × Bool) (h : inS s q) : FnP Try.prog 27 [.c (.ptr 0 0), .c (.bm 28 0 0)] (obA s q) 1 kp0 (.c (.dat ED (listA s (oneE s) q).1)) (obA s (listA s (oneE s) q).2) 1 := by
  have hv := rdN_val s q (most := 1024) (by decide) (by decide)
  have hi := rdN_in (most := 1024) h
  unfold listA
  refine fnP noI Try.func27 rfl rfl rfl rfl ?_
  conv => whnf
  refine callp0 [0] rfl rfl (ra_number s hs 1024 (by decide) (by decide) q h) rfl rfl rfl rfl rfl ?_
  conv => whnf
  generalize rdN s 1024 q = y at hv hi
  obtain ⟨m, q1⟩ := y
  dsimp only at hv hi
  obtain ⟨n, rfl⟩ := Int.eq_ofNat_of_zero_le hv.1
  rw [Int.toNat_natCast]
  generalize hR : lstA (oneE s) n [] q1 = R
  refine ⟨cut_blk (α := List ED.T × Int × Bool) (fun y => y = R) (fun y => lsEn 72 64 ED s y.2 y.1) (LoopOk.out ?_) ?_⟩
  · refine loop0 (α := Nat × List ED.T × Int × Bool) (fun p => p.1 ≤ n ∧ p.2.1.length = p.1 ∧ inS s p.2.2 ∧ lstA (oneE s) (n - p.1) p.2.1 p.2.2 = R) (fun p => lsSt 72 28 64 ED s p.2.2 n p.1 p.2.1) (fun p => n - p.1) ⟨(0, [], q1), ⟨by dsimp only; omega, rfl, hi, hR⟩, ?_⟩ ?_
    · (conv => whnf); refine ⟨rfl, ?_, ?_, ?_⟩ <;> (repeat' apply And.intro) <;> first | exact trivial | rfl | exact wr_succ _ (by omega) | assumption | exact decide_eq_false (by assumption) | exact decide_eq_true (by assumption)
    rintro ⟨j, acc, q'⟩ ⟨hj, hl, hq, hE⟩
    dsimp only at hj hl hq hE ⊢
    cases acc with
    | nil =>
      conv => whnf
      refine ⟨fun a => ?_, fun a => ?_⟩
      · have a : j < n := by rw [decide_eq_true_eq] at a; omega
        obtain ⟨m, hm⟩ : ∃ m, n - j = m + 1 := ⟨n - j - 1, by omega⟩
        rw [hm, show lstA (oneE s) (m + 1) [] q' = if q'.2 = true then ([], q') else lstA (oneE s) m ([] ++ [(oneE s q').1]) (oneE s q').2 from rfl] at hE
        conv => whnf
        refine ⟨fun b => ?_, fun b => ?_⟩
        · have b : q'.2 = true := b
          rw [if_pos b] at hE
          rw [← hE]
          conv => whnf
          refine ⟨rfl, ?_, ?_, ?_⟩ <;> (repeat' apply And.intro) <;> first | exact trivial | rfl | assumption
        have b : ¬ q'.2 = true := by have b : q'.2 = false := b; rw [b]; decide
        rw [if_neg b] at hE
        conv => whnf
        refine callp0 [0] rfl rfl (ra_edge s hs q' hq) rfl rfl rfl rfl rfl ?_
        conv => whnf
        refine ⟨by show (0 + 1) * 64 ≤ 140737488355328; omega, ?_⟩
        conv => whnf
        refine ⟨(j + 1, [] ++ [(oneE s q').1], (oneE s q').2), ⟨⟨by dsimp only; omega, by dsimp only; rw [List.length_append, hl]; rfl, oneE_in hq, by dsimp only; rw [show n - (j + 1) = m by omega]; exact hE⟩, by dsimp only; omega⟩, ?_⟩
        (conv => whnf); refine ⟨rfl, ?_, ?_, ?_⟩ <;> (repeat' apply And.intro) <;> first | exact trivial | rfl | exact wr_succ _ (by omega) | assumption | exact decide_eq_false (by assumption) | exact decide_eq_true (by assumption)
      · have a : j = n := by rw [decide_eq_false_iff_not] at a; omega
        rw [show n - j = 0 by omega, show lstA (oneE s) 0 [] q' = ([], q') from rfl] at hE
        conv => whnf
        refine ⟨([], q'), hE, ?_⟩
        (conv => whnf); refine ⟨rfl, ?_, ?_, ?_⟩ <;> (repeat' apply And.intro) <;> first | exact trivial | rfl | exact wr_succ _ (by omega) | assumption | exact decide_eq_false (by assumption) | exact decide_eq_true (by assumption)
    | cons x xs =>
      conv => whnf
      refine ⟨fun a => ?_, fun a => ?_⟩
      · have a : j < n := by rw [decide_eq_true_eq] at a; omega
        obtain ⟨m, hm⟩ : ∃ m, n - j = m + 1 := ⟨n - j - 1, by omega⟩
        rw [hm, show lstA (oneE s) (m + 1) (x :: xs) q' = if q'.2 = true then ([], q') else lstA (oneE s) m ((x :: xs) ++ [(oneE s q').1]) (oneE s q').2 from rfl] at hE
        conv => whnf
        refine ⟨fun b => ?_, fun b => ?_⟩
        · have b : q'.2 = true := b
          rw [if_pos b] at hE
          rw [← hE]
          conv => whnf
          refine ⟨rfl, ?_, ?_, ?_⟩ <;> (repeat' apply And.intro) <;> first | exact trivial | rfl | assumption
        have b : ¬ q'.2 = true := by have b : q'.2 = false := b; rw [b]; decide
        rw [if_neg b] at hE
        conv => whnf
        refine callp0 [0] rfl rfl (ra_edge s hs q' hq) rfl rfl rfl rfl rfl ?_
        conv => whnf
        refine ⟨by show ((x :: xs).length + 1) * 64 ≤ 140737488355328; omega, ?_⟩
        conv => whnf
        refine ⟨(j + 1, (x :: xs) ++ [(oneE s q').1], (oneE s q').2), ⟨⟨by dsimp only; omega, by dsimp only; rw [List.length_append, hl]; rfl, oneE_in hq, by dsimp only; rw [show n - (j + 1) = m by omega]; exact hE⟩, by dsimp only; omega⟩, ?_⟩
        (conv => whnf); refine ⟨rfl, ?_, ?_, ?_⟩ <;> (repeat' apply And.intro) <;> first | exact trivial | rfl | exact wr_succ _ (by omega) | assumption | exact decide_eq_false (by assumption) | exact decide_eq_true (by assumption)
      · have a : j = n := by rw [decide_eq_false_iff_not] at a; omega
        rw [show n - j = 0 by omega, show lstA (oneE s) 0 (x :: xs) q' = ((x :: xs), q') from rfl] at hE
        conv => whnf
        refine ⟨((x :: xs), q'), hE, ?_⟩
        (conv => whnf); refine ⟨rfl, ?_, ?_, ?_⟩ <;> (repeat' apply And.intro) <;> first | exact trivial | rfl | exact wr_succ _ (by omega) | assumption | exact decide_eq_false (by assumption) | exact decide_eq_true (by assumption)
  · rintro ⟨acc, q'⟩ rfl
    cases acc with
    | nil =>
      refine go0 ?_
      conv => whnf
      refine ⟨rfl, ?_, ?_, ?_⟩ <;> (repeat' apply And.intro) <;> first | exact trivial | rfl | assumption
    | cons x xs =>
      refine freeze_rule (b := 1) rfl (go0 ?_)
      conv => whnf
      refine ⟨rfl, ?_, ?_, ?_⟩ <;> (repeat' apply And.intro) <;> first | exact trivial | rfl | assumption
def oneI (s : List UInt8) (q : Int × Bool) : Int × Int × Bool := rdN s mxI q
theorem oneI_in {s : List UInt8} {q : Int × Bool} (h : inS s q) : inS s (oneI s q).2 := rdN_in h
abbrev LD : D := .int .i64
theorem al_id (s : List UInt8) (hs : s.length ≤ 100000000) (q : Int × Bool) (h : inS s q) : FnP Try.prog 29 [.c (.ptr 0 0), .c (.bm 24 0 0)] (obA s q) 1 kp0 (.c (.dat LD (listA s (oneI s) q).1)) (obA s (listA s (oneI s) q).2) 1 := by
  have hv := rdN_val s q (most := 1024) (by decide) (by decide)
  have hi := rdN_in (most := 1024) h
  unfold listA
  refine fnP noI Try.func29 rfl rfl rfl rfl ?_
  conv => whnf
  refine callp0 [0] rfl rfl (ra_number s hs 1024 (by decide) (by decide) q h) rfl rfl rfl rfl rfl ?_
  conv => whnf
  generalize rdN s 1024 q = y at hv hi
  obtain ⟨m, q1⟩ := y
  dsimp only at hv hi
  obtain ⟨n, rfl⟩ := Int.eq_ofNat_of_zero_le hv.1
  rw [Int.toNat_natCast]
  generalize hR : lstA (oneI s) n [] q1 = R
  refine ⟨cut_blk (α := List LD.T × Int × Bool) (fun y => y = R) (fun y => lsEn 72 2 LD s y.2 y.1) (LoopOk.out ?_) ?_⟩
  · refine loop0 (α := Nat × List LD.T × Int × Bool) (fun p => p.1 ≤ n ∧ p.2.1.length = p.1 ∧ inS s p.2.2 ∧ lstA (oneI s) (n - p.1) p.2.1 p.2.2 = R) (fun p => lsSt 72 24 2 LD s p.2.2 n p.1 p.2.1) (fun p => n - p.1) ⟨(0, [], q1), ⟨by dsimp only; omega, rfl, hi, hR⟩, ?_⟩ ?_
    · (conv => whnf); refine ⟨rfl, ?_, ?_, ?_⟩ <;> (repeat' apply And.intro) <;> first | exact trivial | rfl | exact wr_succ _ (by omega) | assumption | exact decide_eq_false (by assumption) | exact decide_eq_true (by assumption)
    rintro ⟨j, acc, q'⟩ ⟨hj, hl, hq, hE⟩
    dsimp only at hj hl hq hE ⊢
    cases acc with
    | nil =>
      conv => whnf
      refine ⟨fun a => ?_, fun a => ?_⟩
      · have a : j < n := by rw [decide_eq_true_eq] at a; omega
        obtain ⟨m, hm⟩ : ∃ m, n - j = m + 1 := ⟨n - j - 1, by omega⟩
        rw [hm, show lstA (oneI s) (m + 1) [] q' = if q'.2 = true then ([], q') else lstA (oneI s) m ([] ++ [(oneI s q').1]) (oneI s q').2 from rfl] at hE
        conv => whnf
        refine ⟨fun b => ?_, fun b => ?_⟩
        · have b : q'.2 = true := b
          rw [if_pos b] at hE
          rw [← hE]
          conv => whnf
          refine ⟨rfl, ?_, ?_, ?_⟩ <;> (repeat' apply And.intro) <;> first | exact trivial | rfl | assumption
        have b : ¬ q'.2 = true := by have b : q'.2 = false := b; rw [b]; decide
        rw [if_neg b] at hE
        conv => whnf
        refine callp0 [0] rfl rfl (ra_id s hs q' hq) rfl rfl rfl rfl rfl ?_
        conv => whnf
        refine ⟨by show (0 + 1) * 8 ≤ 140737488355328; omega, ?_⟩
        conv => whnf
        refine ⟨(j + 1, [] ++ [(oneI s q').1], (oneI s q').2), ⟨⟨by dsimp only; omega, by dsimp only; rw [List.length_append, hl]; rfl, oneI_in hq, by dsimp only; rw [show n - (j + 1) = m by omega]; exact hE⟩, by dsimp only; omega⟩, ?_⟩
        (conv => whnf); refine ⟨rfl, ?_, ?_, ?_⟩ <;> (repeat' apply And.intro) <;> first | exact trivial | rfl | exact wr_succ _ (by omega) | assumption | exact decide_eq_false (by assumption) | exact decide_eq_true (by assumption)
      · have a : j = n := by rw [decide_eq_false_iff_not] at a; omega
        rw [show n - j = 0 by omega, show lstA (oneI s) 0 [] q' = ([], q') from rfl] at hE
        conv => whnf
        refine ⟨([], q'), hE, ?_⟩
        (conv => whnf); refine ⟨rfl, ?_, ?_, ?_⟩ <;> (repeat' apply And.intro) <;> first | exact trivial | rfl | exact wr_succ _ (by omega) | assumption | exact decide_eq_false (by assumption) | exact decide_eq_true (by assumption)
    | cons x xs =>
      conv => whnf
      refine ⟨fun a => ?_, fun a => ?_⟩
      · have a : j < n := by rw [decide_eq_true_eq] at a; omega
        obtain ⟨m, hm⟩ : ∃ m, n - j = m + 1 := ⟨n - j - 1, by omega⟩
        rw [hm, show lstA (oneI s) (m + 1) (x :: xs) q' = if q'.2 = true then ([], q') else lstA (oneI s) m ((x :: xs) ++ [(oneI s q').1]) (oneI s q').2 from rfl] at hE
        conv => whnf
        refine ⟨fun b => ?_, fun b => ?_⟩
        · have b : q'.2 = true := b
          rw [if_pos b] at hE
          rw [← hE]
          conv => whnf
          refine ⟨rfl, ?_, ?_, ?_⟩ <;> (repeat' apply And.intro) <;> first | exact trivial | rfl | assumption
        have b : ¬ q'.2 = true := by have b : q'.2 = false := b; rw [b]; decide
        rw [if_neg b] at hE
        conv => whnf
        refine callp0 [0] rfl rfl (ra_id s hs q' hq) rfl rfl rfl rfl rfl ?_
        conv => whnf
        refine ⟨by show ((x :: xs).length + 1) * 8 ≤ 140737488355328; omega, ?_⟩
        conv => whnf
        refine ⟨(j + 1, (x :: xs) ++ [(oneI s q').1], (oneI s q').2), ⟨⟨by dsimp only; omega, by dsimp only; rw [List.length_append, hl]; rfl, oneI_in hq, by dsimp only; rw [show n - (j + 1) = m by omega]; exact hE⟩, by dsimp only; omega⟩, ?_⟩
        (conv => whnf); refine ⟨rfl, ?_, ?_, ?_⟩ <;> (repeat' apply And.intro) <;> first | exact trivial | rfl | exact wr_succ _ (by omega) | assumption | exact decide_eq_false (by assumption) | exact decide_eq_true (by assumption)
      · have a : j = n := by rw [decide_eq_false_iff_not] at a; omega
        rw [show n - j = 0 by omega, show lstA (oneI s) 0 (x :: xs) q' = ((x :: xs), q') from rfl] at hE
        conv => whnf
        refine ⟨((x :: xs), q'), hE, ?_⟩
        (conv => whnf); refine ⟨rfl, ?_, ?_, ?_⟩ <;> (repeat' apply And.intro) <;> first | exact trivial | rfl | exact wr_succ _ (by omega) | assumption | exact decide_eq_false (by assumption) | exact decide_eq_true (by assumption)
  · rintro ⟨acc, q'⟩ rfl
    cases acc with
    | nil =>
      refine go0 ?_
      conv => whnf
      refine ⟨rfl, ?_, ?_, ?_⟩ <;> (repeat' apply And.intro) <;> first | exact trivial | rfl | assumption
    | cons x xs =>
      refine freeze_rule (b := 1) rfl (go0 ?_)
      conv => whnf
      refine ⟨rfl, ?_, ?_, ?_⟩ <;> (repeat' apply And.intro) <;> first | exact trivial | rfl | assumption
end Go.Proofs.Ytnldokebmfojeaa
/- The walks of cmp.Or, and of cmp.Compare at texts. Own work. -/
set_option linter.unusedVariables false
set_option maxRecDepth 100000
namespace Go.Proofs.Ytnldokebmfojeaa
open Go Go.RowKit OE

abbrev ZD : D := .int .i64
def orI : List Int → Int
  | [] => 0
  | x :: l => if x = 0 then orI l else x

theorem orI_step {l : List Int} {i : Nat} (h : i < l.length) : orI (l.drop i) = if l[i] = 0 then orI (l.drop (i + 1)) else l[i] := by
  rw [List.drop_eq_getElem_cons h]; rfl
theorem cmp_Or (l : List Int) : FnD Try.prog 74 [.c (.dat (.int .i64) l)] (· = .c (.int .i64 (orI l))) := by
  refine fn0 Try.func74 rfl rfl rfl ?_
  conv => whnf
  intro _
  conv => whnf
  refine loop0 (α := Nat) (fun i => i ≤ l.length ∧ orI (l.drop i) = orI l)
    (fun i => ⟨[(3, .c (.int .i64 0)), (6, .c (.dat (.int .i64) l)), (7, .c (.int .i64 l.length)), (8, .c (.int .i64 i))], [], 0⟩) (fun i => l.length - i) ⟨0, ⟨by omega, rfl⟩, ?_⟩ ?_
  · (conv => whnf); refine ⟨rfl, ?_, ?_, ?_⟩ <;> (repeat' apply And.intro) <;> first | exact trivial | rfl | exact wr_succ _ (by omega) | assumption | exact decide_eq_false (by assumption) | exact decide_eq_true (by assumption)
  rintro i ⟨hI1, hI2⟩
  conv => whnf
  refine ⟨fun h2 => ?_, fun h2 => ?_⟩
  · have h2 : i < l.length := by simp at h2; omega
    rw [orI_step h2] at hI2
    conv => whnf
    try (intro _; conv => whnf)
    refine ⟨by omega, ?_⟩
    rw [gt_nat (d := ZD) l i h2]
    conv => whnf
    refine ⟨fun h3 => ?_, fun h3 => ?_⟩
    · conv => whnf
      simp at h3
      rw [if_neg h3] at hI2
      rw [hI2]
    · conv => whnf
      simp at h3
      rw [if_pos h3] at hI2
      refine ⟨i + 1, ⟨⟨by omega, hI2⟩, by omega⟩, ?_⟩
      (conv => whnf); refine ⟨rfl, ?_, ?_, ?_⟩ <;> (repeat' apply And.intro) <;> first | exact trivial | rfl | exact wr_succ _ (by omega) | assumption | exact decide_eq_false (by assumption) | exact decide_eq_true (by assumption)
  · conv => whnf
    rw [← hI2, List.drop_of_length_le (by simp at h2; omega)]
    rfl

/-- the order of texts, as a number -/
def cmpT (a b : List UInt8) : Int := if Op.bytesLess a b = true then -1 else if Op.bytesLess b a = true then 1 else 0
theorem isNaN_string (a : List UInt8) : FnD Try.prog 83 [.c (.str a)] (· = .c (.bool (.sym false))) := by
  refine fn0 Try.func83 rfl rfl rfl ?_
  conv => whnf
  simp
theorem cmp_string (a b : List UInt8) : FnD Try.prog 75 [.c (.str a), .c (.str b)] (· = .c (.int .i64 (cmpT a b))) := by
  refine fn0 Try.func75 rfl rfl rfl ?_
  conv => whnf
  refine call1 (isNaN_string a) rfl ?_
  conv => whnf
  refine call1 (isNaN_string b) rfl ?_
  conv => whnf
  refine fk rfl ?_
  conv => whnf
  refine fk rfl ?_
  conv => whnf
  refine ⟨fun h1 => ?_, fun h1 => ?_⟩
  · conv => whnf
    rw [cmpT, if_pos h1]
  conv => whnf
  refine ⟨fun h2 => ?_, fun h2 => ?_⟩
  · conv => whnf
    have h3 : Op.bytesLess b a = true := by
      have := bl_not b a
      rw [h1] at this
      rcases bl_tri a b with h | h | h
      · rw [h1] at h; cases h
      · subst h; simp [h1] at h2
      · exact h
    rw [cmpT, if_neg (by simp [h1]), if_pos h3]
  · conv => whnf
    have h3 : Op.bytesLess b a = false := by
      rcases bl_tri a b with h | h | h
      · rw [h1] at h; cases h
      · subst h; exact h1
      · simp [h1] at h2; subst h2; exact h1
    rw [cmpT, if_neg (by simp [h1]), if_neg (by simp [h3])]
theorem cmpT_zero (a b : List UInt8) : cmpT a b = 0 ↔ a = b := by
  unfold cmpT
  rcases bl_tri a b with h | h | h
  · rw [if_pos h]
    exact ⟨fun h => (by cases h), fun e => by subst e; rw [bytesLess_irr] at h; cases h⟩
  · subst h; rw [bytesLess_irr]; simp
  · have h1 : ¬ Op.bytesLess a b = true := fun h' => by
      have := bl_trans h h'
      rw [bytesLess_irr] at this; cases this
    rw [if_neg h1, if_pos h]
    exact ⟨fun h => (by cases h), fun e => by subst e; rw [bytesLess_irr] at h; cases h⟩
end Go.Proofs.Ytnldokebmfojeaa
/- The order of indexes, and the walks of cat.ahead and of the reference's. Own work. -/
set_option linter.unusedVariables false
set_option maxRecDepth 100000
namespace Go.Proofs.Ytnldokebmfojeaa
open Go Go.RowKit OE

def ltIx (a b : ID.T) : Bool := Op.bytesLess a.1 b.1 || (decide (a.1 = b.1) && Op.bytesLess a.2 b.2)
def cmpIx (a b : ID.T) : Int := orI [cmpT a.1 b.1, cmpT a.2 b.2]
theorem cmpIx_eq (a b : ID.T) : cmpIx a b = if ltIx a b = true then -1 else if a = b then 0 else 1 := by
  obtain ⟨x, y⟩ := a
  obtain ⟨x', y'⟩ := b
  unfold cmpIx ltIx
  simp only [orI]
  by_cases h1 : x = x'
  · subst h1
    rw [(cmpT_zero x x).2 rfl, bytesLess_irr]
    simp only [Bool.false_or, decide_true, Bool.true_and, if_true, Prod.mk.injEq, true_and]
    by_cases h2 : y = y'
    · subst h2
      rw [(cmpT_zero y y).2 rfl, bytesLess_irr]; simp
    · have h3 : cmpT y y' ≠ 0 := fun h => h2 ((cmpT_zero _ _).1 h)
      rw [if_neg h3]
      unfold cmpT at h3 ⊢
      by_cases h4 : Op.bytesLess y y' = true
      · rw [if_pos h4, if_pos h4]
      · rw [if_neg h4, if_neg h4, if_neg h2]
        rcases bl_tri y y' with h | h | h
        · exact (h4 h).elim
        · exact (h2 h).elim
        · rw [if_pos h]
  · have h3 : cmpT x x' ≠ 0 := fun h => h1 ((cmpT_zero _ _).1 h)
    rw [if_neg h3]
    simp only [decide_eq_false h1, Bool.false_and, Bool.or_false]
    unfold cmpT
    by_cases h4 : Op.bytesLess x x' = true
    · rw [if_pos h4, if_pos h4]
    · rw [if_neg h4, if_neg h4, if_neg (show ¬ ((x, y) : ID.T) = (x', y') from fun e => h1 (congrArg Prod.fst e))]
      rcases bl_tri x x' with h | h | h
      · exact (h4 h).elim
      · exact (h1 h).elim
      · rw [if_pos h]
theorem ltIx_irr (a : ID.T) : ltIx a a = false := by unfold ltIx; rw [bytesLess_irr, bytesLess_irr]; simp
theorem ltIx_iff (a b : ID.T) : ltIx a b = true ↔ Op.bytesLess a.1 b.1 = true ∨ a.1 = b.1 ∧ Op.bytesLess a.2 b.2 = true := by
  simp only [ltIx, Bool.or_eq_true, Bool.and_eq_true, decide_eq_true_eq]
theorem ltIx_trans {a b c : ID.T} (h1 : ltIx a b = true) (h2 : ltIx b c = true) : ltIx a c = true := by
  rw [ltIx_iff] at *
  rcases h1 with h1 | ⟨e1, h1⟩ <;> rcases h2 with h2 | ⟨e2, h2⟩
  · exact .inl (bl_trans h1 h2)
  · exact .inl (e2 ▸ h1)
  · exact .inl (e1 ▸ h2)
  · exact .inr ⟨e1.trans e2, bl_trans h1 h2⟩
theorem ltIx_tri (a b : ID.T) : ltIx a b = true ∨ a = b ∨ ltIx b a = true := by
  rw [ltIx_iff, ltIx_iff]
  obtain ⟨x, y⟩ := a
  obtain ⟨x', y'⟩ := b
  dsimp only
  rcases bl_tri x x' with h | rfl | h
  · exact .inl (.inl h)
  · rcases bl_tri y y' with h | rfl | h
    · exact .inl (.inr ⟨rfl, h⟩)
    · exact .inr (.inl rfl)
    · exact .inr (.inr (.inr ⟨rfl, h⟩))
  · exact .inr (.inr (.inl h))
theorem cmpIx_lt (a b : ID.T) : decide (cmpIx a b < 0) = ltIx a b := by
  rw [cmpIx_eq]
  cases h : ltIx a b with
  | true => rfl
  | false => simp only [Bool.false_eq_true, if_false]; split <;> rfl
theorem cmpIx_zero (a b : ID.T) : cmpIx a b = 0 ↔ a = b := by
  rw [cmpIx_eq]
  cases h : ltIx a b with
  | true =>
    simp only [if_true]
    exact ⟨fun h => (by cases h), fun e => by subst e; rw [ltIx_irr] at h; cases h⟩
  | false =>
    simp only [Bool.false_eq_true, if_false]
    by_cases e : a = b
    · rw [if_pos e]; simp [e]
    · rw [if_neg e]; exact ⟨fun h => (by cases h), fun h => (e h).elim⟩

abbrev ic (i : ID.T) : List C := [.str i.1, .str i.2]
theorem cat_ahead (a b : ID.T) : FnD Try.prog 60 [.agg (ic a), .agg (ic b)] (· = .c (.int .i64 (cmpIx a b))) := by
  refine fn0 Try.func60 rfl rfl rfl ?_
  conv => whnf
  refine any0 ?_
  conv => whnf
  refine callr0 (cmp_string a.1 b.1) rfl ?_
  conv => whnf
  refine callr0 (cmp_string a.2 b.2) rfl ?_
  conv => whnf
  refine lendr0 (cmp_Or [cmpT a.1 b.1, cmpT a.2 b.2]) rfl rfl ?_
  conv => whnf
  refine ⟨.inl (by kernel_rfl), after0 ?_⟩
  conv => whnf
  rfl
end Go.Proofs.Ytnldokebmfojeaa
/- The walks of schema.Has, rule.Known, the reference's. Own work. -/
set_option linter.unusedVariables false
set_option maxRecDepth 100000
namespace Go.Proofs.Ytnldokebmfojeaa
open Go Go.RowKit OE

noncomputable def inlC : Nat → Option (FI × Code) := lk [(82, fiOf Try.f82, bodyOf Try.f82)]
instance : InlOk inlC := inl_cons Try.func82 rfl rfl inl_nil

def hasT (l : List SD.T) (v : List UInt8) : Bool := l.any fun x => decide (v = x)
theorem slices_Contains (l : List SD.T) (v : List UInt8) : FnD Try.prog 73 [.c (.dat SD l), .c (.str v)] (· = .c (.bool (.sym (hasT l v)))) := by
  refine fnI inlC Try.func73 rfl rfl rfl ?_
  conv => whnf
  intro hl
  conv => whnf
  refine loop0 (α := Nat) (fun i => i ≤ l.length ∧ (l.drop i).any (fun x => decide (v = x)) = hasT l v)
    (fun i => ⟨[(0, .c (.dat SD l)), (1, .c (.str v)), (7, .c (.int .i64 l.length)), (8, .c (.int .i64 i))], [], 0⟩) (fun i => l.length - i) ⟨0, ⟨by omega, rfl⟩, ?_⟩ ?_
  · (conv => whnf); refine ⟨rfl, ?_, ?_, ?_⟩ <;> (repeat' apply And.intro) <;> first | exact trivial | rfl | exact wr_succ _ (by omega) | assumption | exact decide_eq_false (by assumption) | exact decide_eq_true (by assumption)
  rintro i ⟨hI1, hI2⟩
  conv => whnf
  refine ⟨fun h2 => ?_, fun h2 => ?_⟩
  · have h2 : i < l.length := by simp at h2; omega
    rw [any_step h2] at hI2
    conv => whnf
    try (intro _; conv => whnf)
    refine ⟨by omega, ?_⟩
    rw [gt_nat (d := SD) l i h2]
    conv => whnf
    refine ⟨fun h3 => ?_, fun h3 => ?_⟩
    · conv => whnf
      rw [← hI2, h3]
      simp
    · conv => whnf
      refine ⟨i + 1, ⟨⟨by omega, ?_⟩, by omega⟩, ?_⟩
      · rw [← hI2, h3, Bool.false_or]
      · (conv => whnf); refine ⟨rfl, ?_, ?_, ?_⟩ <;> (repeat' apply And.intro) <;> first | exact trivial | rfl | exact wr_succ _ (by omega) | assumption | exact decide_eq_false (by assumption) | exact decide_eq_true (by assumption)
  · conv => whnf
    rw [← hI2, any_end (by simp at h2; omega)]
    rfl

/-- a catalog's types of a kind -/
def kindS (c : CD.T) (k : Int) : List SD.T := if k = 1 then c.1 else if k = 2 then c.2.1 else []
noncomputable def inlN : Nat → Option (FI × Code) := lk [(72, fiOf Try.f72, bodyOf Try.f72)]
instance : InlOk inlN := inl_cons Try.func72 rfl rfl inl_nil
theorem schema_Has (c : CD.T) (k : Int) (v : List UInt8) : FnD Try.prog 59 [.agg (cc c), .c (.int .i64 k), .c (.str v)] (· = .c (.bool (.sym (hasT (kindS c k) v)))) := by
  refine fnI inlN Try.func59 rfl rfl rfl ?_
  conv => whnf
  refine ⟨fun h1 => ?_, fun h1 => ?_⟩
  · conv => whnf
    refine call1 (slices_Contains c.1 v) rfl ?_
    conv => whnf
    simp at h1; simp [kindS, h1]
  · conv => whnf
    refine ⟨fun h2 => ?_, fun h2 => ?_⟩
    · conv => whnf
      refine call1 (slices_Contains c.2.1 v) rfl ?_
      conv => whnf
      simp at h1 h2; simp [kindS, h2]
    · conv => whnf
      simp at h1 h2; simp [kindS, h1, h2, hasT]

/-- are a rule's types known? -/
def knownS (c : CD.T) (r : RD.T) : Bool :=
  if r.2.1 = 1 ∨ r.2.1 = 2 then hasT (kindS c 1) r.2.2.1
  else if r.2.1 = 3 then hasT (kindS c 2) r.2.2.1 && hasT (kindS c 1) r.2.2.2.2.1 && hasT (kindS c 1) r.2.2.2.2.2.1
  else if r.2.1 = 4 then hasT (kindS c 2) r.2.2.1 else false
theorem rule_Known (c : CD.T) (r : RD.T) : FnD Try.prog 78 [.agg (cc c), .agg (rc r)] (· = .c (.bool (.sym (knownS c r)))) := by
  refine fn0 Try.func78 rfl rfl rfl ?_
  conv => whnf
  refine ⟨fun h1 => ?_, fun h1 => ?_⟩
  · conv => whnf
    refine call1 (schema_Has c 1 r.2.2.1) rfl ?_
    conv => whnf
    simp at h1; simp [knownS, h1]
  conv => whnf
  refine ⟨fun h2 => ?_, fun h2 => ?_⟩
  · conv => whnf
    refine call1 (schema_Has c 1 r.2.2.1) rfl ?_
    conv => whnf
    simp at h1 h2; simp [knownS, h2]
  conv => whnf
  refine ⟨fun h3 => ?_, fun h3 => ?_⟩
  · conv => whnf
    refine call1 (schema_Has c 2 r.2.2.1) rfl ?_
    conv => whnf
    refine callg0 (fun _ => schema_Has c 1 r.2.2.2.2.1) rfl ?_
    conv => whnf
    refine callg0 (fun _ => schema_Has c 1 r.2.2.2.2.2.1) rfl ?_
    conv => whnf
    simp at h1 h2 h3; simp [knownS, h3]
  conv => whnf
  refine ⟨fun h4 => ?_, fun h4 => ?_⟩
  · conv => whnf
    refine call1 (schema_Has c 2 r.2.2.1) rfl ?_
    conv => whnf
    simp at h1 h2 h3 h4; simp [knownS, h4]
  · conv => whnf
    simp at h1 h2 h3 h4; simp [knownS, h1, h2, h3, h4]

theorem small_cat {c : CD.T} (h : largeCat c = false) : c.1.length ≤ 1000 ∧ c.2.1.length ≤ 1000 ∧ c.2.2.1.length ≤ 1000 ∧ c.2.2.2.1.length ≤ 1000 := by
  simp only [largeCat, Bool.or_eq_false_iff, decide_eq_false_iff_not] at h
  omega

end Go.Proofs.Ytnldokebmfojeaa
/- The walks of schema.Types and of the reference's Types. Own work. -/
set_option linter.unusedVariables false
set_option maxRecDepth 100000
namespace Go.Proofs.Ytnldokebmfojeaa
open Go Go.RowKit OE

/-- each above the one ahead of it -/
def risF : List SD.T → Bool
  | x :: y :: l => Op.bytesLess x y && risF (y :: l)
  | _ => true
def tyS (l : List SD.T) : Bool := !decide ((16 : Int) < l.length) && (risF l && l.all nameS)
def typesS (c : CD.T) : Bool := tyS c.1 && tyS c.2.1

theorem ris_step {l : List SD.T} {i : Nat} (h : i + 1 < l.length) : risF (l.drop i) = (Op.bytesLess l[i] l[i + 1] && risF (l.drop (i + 1))) := by
  rw [List.drop_eq_getElem_cons (show i < l.length by omega), List.drop_eq_getElem_cons h]; rfl
theorem ris_end {l : List SD.T} {i : Nat} (h : l.length ≤ i + 1) : risF (l.drop i) = true := by
  cases hd : l.drop i with
  | nil => rfl
  | cons x m =>
    cases m with
    | nil => rfl
    | cons y m =>
      have := congrArg List.length hd
      rw [List.length_drop, List.length_cons, List.length_cons] at this
      omega

theorem schema_rising (l : List SD.T) : FnD Try.prog 76 [.c (.dat SD l)] (· = .c (.bool (.sym (risF l)))) := by
  refine fn0 Try.func76 rfl rfl rfl ?_
  conv => whnf
  refine loop0 (α := Nat) (fun i => i ≤ l.length ∧ risF (l.drop i) = risF l) (fun i => ⟨[(0, .c (.dat SD l)), (3, .c (.int .i64 ((i : Int) + 1)))], [], 0⟩) (fun i => l.length - i) ⟨0, ⟨by omega, rfl⟩, ?_⟩ ?_
  · (conv => whnf); refine ⟨rfl, ?_, ?_, ?_⟩ <;> (repeat' apply And.intro) <;> first | exact trivial | rfl | exact wr_succ _ (by omega) | assumption | exact decide_eq_false (by assumption) | exact decide_eq_true (by assumption)
  rintro i ⟨hI1, hI2⟩
  conv => whnf
  intro hl
  refine ⟨fun h2 => ?_, fun h2 => ?_⟩
  · have h2 : i + 1 < l.length := by simp at h2; omega
    rw [ris_step h2] at hI2
    have e1 : IntKind.wrap .i64 ((i : Int) + 1 - 1) = (i : Int) := by rw [wr64 _ (by omega) (by omega)]; omega
    have e2 : ((i : Int) + 1) = ((i + 1 : Nat) : Int) := by omega
    conv => whnf
    refine any0 ?_
    conv => whnf
    refine ⟨by omega, ?_⟩
    conv => whnf
    rw [e1]
    refine ⟨by omega, ?_⟩
    rw [gt_nat (d := SD) l i (by omega)]
    rw [e2, gt_nat (d := SD) l (i + 1) h2]
    conv => whnf
    refine ⟨.inl (by kernel_rfl), after0 ?_⟩
    conv => whnf
    have e3 : (Op.bytesLess l[i + 1] l[i] || decide (l[i + 1] = l[i])) = !Op.bytesLess l[i] l[i + 1] := bl_not _ _
    refine ⟨fun h3 => ?_, fun h3 => ?_⟩
    · conv => whnf
      have : Op.bytesLess l[i] l[i + 1] = false := by simpa using e3.symm.trans h3
      rw [← hI2, this]; rfl
    · conv => whnf
      have : Op.bytesLess l[i] l[i + 1] = true := by simpa using e3.symm.trans h3
      refine ⟨i + 1, ⟨⟨by omega, by rw [← hI2, this]; simp⟩, by omega⟩, ?_⟩
      have e4 : IntKind.wrap .i64 (((i + 1 : Nat) : Int) + 1) = ((i + 1 : Nat) : Int) + 1 := wr64 _ (by omega) (by omega)
      (conv => whnf); exact ⟨rfl, ⟨rfl, e4.symm, trivial⟩, trivial, trivial⟩
  · conv => whnf
    rw [← hI2, ris_end (by simp at h2; omega)]

theorem schema_Types (c : CD.T) : FnD Try.prog 61 [.agg (cc c)] (· = .c (.bool (.sym (typesS c)))) := by
  refine fn0 Try.func61 rfl rfl rfl ?_
  conv => whnf
  intro _
  conv => whnf
  refine unroll0 3 ?_
  conv => whnf
  refine tk rfl ?_
  conv => whnf
  intro _
  conv => whnf
  refine ⟨⟨by decide, by show (0 : Int) < 2; decide⟩, ?_⟩
  conv => whnf
  refine ⟨⟨by decide, by show (0 : Int) < 2; decide⟩, ?_⟩
  conv => whnf
  intro _
  conv => whnf
  refine callg0 (fun _ => schema_rising c.1) rfl ?_
  conv => whnf
  refine ⟨fun h0 => ?_, fun h0 => ?_⟩
  · conv => whnf
    have h0 : (decide ((16 : Int) < (c.1).length) || !risF c.1) = true := h0
    have : tyS c.1 = false := by
      unfold tyS
      cases hr : risF c.1 with
      | true => rw [hr] at h0; simp at h0; simp; omega
      | false => simp
    rw [typesS, this]; simp
  have h0 : (decide ((16 : Int) < (c.1).length) || !risF c.1) = false := h0
  have hT0 : tyS c.1 = (c.1).all nameS := by
    rw [Bool.or_eq_false_iff] at h0
    rw [tyS, h0.1, not_f h0.2]; rfl
  conv => whnf
  intro _
  conv => whnf
  refine loop0 (α := Nat) (fun i => i ≤ (c.1).length ∧ ((c.1).drop i).all nameS = (c.1).all nameS)
    (fun i => ⟨[(1, .c (.ptr 0 0)), (11, .c (.row 1)), (12, .c (.int .i64 2)), (13, .c (.int .i64 0)), (25, .c (.dat SD c.1)), (26, .c (.int .i64 (c.1).length)), (27, .c (.int .i64 i))], [(0, .cells 29 (cc c)), (1, .row 25 (.list .str) [c.1, c.2.1])], 2⟩) (fun i => (c.1).length - i) ⟨0, ⟨by omega, rfl⟩, ?_⟩ ?_
  · (conv => whnf); refine ⟨rfl, ?_, ?_, ?_⟩ <;> (repeat' apply And.intro) <;> first | exact trivial | rfl | exact wr_succ _ (by omega) | assumption | exact decide_eq_false (by assumption) | exact decide_eq_true (by assumption)
  rintro i ⟨hI1, hI2⟩
  conv => whnf
  refine ⟨fun h2 => ?_, fun h2 => ?_⟩
  · have h2 : i < (c.1).length := by simp at h2; omega
    rw [all_step h2] at hI2
    conv => whnf
    try (intro _; conv => whnf)
    refine ⟨by omega, ?_⟩
    rw [gt_nat (d := SD) (c.1) i h2]
    conv => whnf
    refine call1 (val_Name (c.1)[i]) rfl ?_
    conv => whnf
    refine ⟨fun h3 => ?_, fun h3 => ?_⟩
    · conv => whnf
      rw [not_t h3, Bool.false_and] at hI2
      rw [← hI2] at hT0
      rw [typesS, hT0]; simp
    · conv => whnf
      rw [not_f h3, Bool.true_and] at hI2
      refine ⟨i + 1, ⟨⟨by omega, hI2⟩, by omega⟩, ?_⟩
      (conv => whnf); refine ⟨rfl, ?_, ?_, ?_⟩ <;> (repeat' apply And.intro) <;> first | exact trivial | rfl | exact wr_succ _ (by omega) | assumption | exact decide_eq_false (by assumption) | exact decide_eq_true (by assumption)
  rw [all_end (by simp at h2; omega)] at hI2
  rw [← hI2] at hT0
  conv => whnf
  refine tk rfl ?_
  conv => whnf
  intro _
  conv => whnf
  refine ⟨⟨by decide, by show (1 : Int) < 2; decide⟩, ?_⟩
  conv => whnf
  refine ⟨⟨by decide, by show (1 : Int) < 2; decide⟩, ?_⟩
  conv => whnf
  intro _
  conv => whnf
  refine callg0 (fun _ => schema_rising c.2.1) rfl ?_
  conv => whnf
  refine ⟨fun h1 => ?_, fun h1 => ?_⟩
  · conv => whnf
    have h1 : (decide ((16 : Int) < (c.2.1).length) || !risF c.2.1) = true := h1
    have : tyS c.2.1 = false := by
      unfold tyS
      cases hr : risF c.2.1 with
      | true => rw [hr] at h1; simp at h1; simp; omega
      | false => simp
    rw [typesS, this]; simp
  have h1 : (decide ((16 : Int) < (c.2.1).length) || !risF c.2.1) = false := h1
  have hT1 : tyS c.2.1 = (c.2.1).all nameS := by
    rw [Bool.or_eq_false_iff] at h1
    rw [tyS, h1.1, not_f h1.2]; rfl
  conv => whnf
  intro _
  conv => whnf
  refine loop0 (α := Nat) (fun i => i ≤ (c.2.1).length ∧ ((c.2.1).drop i).all nameS = (c.2.1).all nameS)
    (fun i => ⟨[(1, .c (.ptr 0 0)), (11, .c (.row 1)), (12, .c (.int .i64 2)), (13, .c (.int .i64 1)), (25, .c (.dat SD c.2.1)), (26, .c (.int .i64 (c.2.1).length)), (27, .c (.int .i64 i))], [(0, .cells 29 (cc c)), (1, .row 25 (.list .str) [c.1, c.2.1])], 2⟩) (fun i => (c.2.1).length - i) ⟨0, ⟨by omega, rfl⟩, ?_⟩ ?_
  · (conv => whnf); refine ⟨rfl, ?_, ?_, ?_⟩ <;> (repeat' apply And.intro) <;> first | exact trivial | rfl | exact wr_succ _ (by omega) | assumption | exact decide_eq_false (by assumption) | exact decide_eq_true (by assumption)
  rintro i ⟨hI1, hI2⟩
  conv => whnf
  refine ⟨fun h2 => ?_, fun h2 => ?_⟩
  · have h2 : i < (c.2.1).length := by simp at h2; omega
    rw [all_step h2] at hI2
    conv => whnf
    try (intro _; conv => whnf)
    refine ⟨by omega, ?_⟩
    rw [gt_nat (d := SD) (c.2.1) i h2]
    conv => whnf
    refine call1 (val_Name (c.2.1)[i]) rfl ?_
    conv => whnf
    refine ⟨fun h3 => ?_, fun h3 => ?_⟩
    · conv => whnf
      rw [not_t h3, Bool.false_and] at hI2
      rw [← hI2] at hT1
      rw [typesS, hT1]; simp
    · conv => whnf
      rw [not_f h3, Bool.true_and] at hI2
      refine ⟨i + 1, ⟨⟨by omega, hI2⟩, by omega⟩, ?_⟩
      (conv => whnf); refine ⟨rfl, ?_, ?_, ?_⟩ <;> (repeat' apply And.intro) <;> first | exact trivial | rfl | exact wr_succ _ (by omega) | assumption | exact decide_eq_false (by assumption) | exact decide_eq_true (by assumption)
  rw [all_end (by simp at h2; omega)] at hI2
  rw [← hI2] at hT1
  conv => whnf
  refine fk rfl ?_
  conv => whnf
  rw [typesS, hT0, hT1]; rfl
end Go.Proofs.Ytnldokebmfojeaa
/- Which catalogs are good; the walks of cat.Good and of the reference's. Own work. -/
set_option linter.unusedVariables false
set_option maxRecDepth 100000
namespace Go.Proofs.Ytnldokebmfojeaa
open Go Go.RowKit OE

abbrev stR (r : RD.T) : Int := r.2.2.2.2.2.2.2
/-- a rule but for its Id and State -/
def bareS (r : RD.T) : RD.T := (0, r.2.1, r.2.2.1, r.2.2.2.1, r.2.2.2.2.1, r.2.2.2.2.2.1, r.2.2.2.2.2.2.1, 0)
def alikeS (q r : RD.T) : Bool := RD.eqb (bareS q) (bareS r)
def goodR (c : CD.T) (r : RD.T) : Bool := decide (r.1 < c.2.2.2.2) && (formS r && (knownS c r && (decide (1 ≤ stR r) && decide (stR r ≤ 2))))
/-- rules that stand behind others that are good -/
def goodL (c : CD.T) : List RD.T → Int → List RD.T → Bool
  | _, _, [] => true
  | d, last, r :: l => decide (last < r.1) && (goodR c r && (!(d.any fun q => alikeS q r) && goodL c (d ++ [r]) r.1 l))
def bldN (l : List RD.T) : Nat := l.countP fun r => decide (stR r = 1)
def rulesS (c : CD.T) : Bool := goodL c [] 0 c.2.2.1 && (decide (bldN c.2.2.1 ≤ 1) && decide (c.2.2.1.length ≤ 16))
/-- indexes that stand behind one (or none) -/
def idxL (c : CD.T) : Option ID.T → List ID.T → Bool
  | _, [] => true
  | p, x :: l => !(!hasT c.1 x.1 || !nameS x.2 || (match p with | none => false | some q => !ltIx q x)) && idxL c (some x) l
def idxS (c : CD.T) : Bool := idxL c none c.2.2.2.1
def goodC (c : CD.T) : Bool := typesS c && (decide (1 ≤ c.2.2.2.2) && (decide (c.2.2.2.2 ≤ 1000000) && (decide (c.2.2.2.1.length ≤ 16) && (idxS c && rulesS c))))

theorem goodL_step {c : CD.T} {d : List RD.T} {last : Int} {l : List RD.T} {i : Nat} (h : i < l.length) : goodL c d last (l.drop i) = (decide (last < l[i].1) && (goodR c l[i] && (!(d.any fun q => alikeS q l[i]) && goodL c (d ++ [l[i]]) l[i].1 (l.drop (i + 1))))) := by
  rw [List.drop_eq_getElem_cons h]; rfl
theorem idx_step0 {c : CD.T} {l : List ID.T} (h : 0 < l.length) : idxL c none l = (!(!hasT c.1 l[0].1 || !nameS l[0].2 || false) && idxL c (some l[0]) (l.drop 1)) := by
  cases l with
  | nil => simp at h
  | cons x l => rfl
theorem idx_step {c : CD.T} {l : List ID.T} {i : Nat} (h : i + 1 < l.length) : idxL c (some l[i]) (l.drop (i + 1)) = (!(!hasT c.1 l[i + 1].1 || !nameS l[i + 1].2 || !ltIx l[i] l[i + 1]) && idxL c (some l[i + 1]) (l.drop (i + 2))) := by
  rw [List.drop_eq_getElem_cons h]; rfl
theorem idx_end (c : CD.T) (p : Option ID.T) {l : List ID.T} {i : Nat} (h : l.length ≤ i) : idxL c p (l.drop i) = true := by
  rw [List.drop_of_length_le h]; cases p <;> rfl
/-- what stands ahead of a place -/
def prevI (l : List ID.T) : Nat → Option ID.T
  | 0 => none
  | i + 1 => l[i]?
theorem bld_step {l : List RD.T} {i : Nat} (h : i < l.length) : bldN (l.take (i + 1)) = bldN (l.take i) + (if decide (stR l[i] = 1) = true then 1 else 0) := by
  unfold bldN
  rw [take_step h, List.countP_append, List.countP_singleton]
theorem bld_le (l : List RD.T) : bldN l ≤ l.length := List.countP_le_length

theorem cat_bare (r : RD.T) : FnD Try.prog 77 [.agg (rc r)] (· = .agg (rc (bareS r))) := by
  refine fn0 Try.func77 rfl rfl rfl ?_
  conv => whnf
  rfl
theorem dle (a b : Int) : decide (a ≤ b) = !decide (b < a) := by
  rw [Bool.eq_iff_iff]; simp
theorem goodStep (c : CD.T) (r : RD.T) (last : Int) (A X : Bool) : (decide (last < r.1) && (goodR c r && (!A && X))) = (!(decide (r.1 ≤ last) || decide (c.2.2.2.2 ≤ r.1) || !formS r || !knownS c r || decide (stR r < 1) || decide (2 < stR r) || A) && X) := by
  unfold goodR
  rw [dle r.1 last, dle c.2.2.2.2 r.1, dle 1 (stR r), dle (stR r) 2]
  simp only [Bool.not_or, Bool.not_not, Bool.and_assoc]
theorem le64 {n : Nat} (h : n ≤ 140737488351232) : n ≤ 9223372036854775807 := by omega
theorem bare_ok {r : RD.T} (h : Wf RD r) : RD.ok (bareS r) := by
  obtain ⟨h1, h2, h3, h4, h5, h6, h7, h8⟩ := h
  exact ⟨by show (Lit.int .i64 0).wf = true; decide, h2, le64 h3, le64 h4, le64 h5, le64 h6, h7, by show (Lit.int .i64 0).wf = true; decide⟩

theorem cat_goodRules (c : CD.T) (hw : ∀ r ∈ c.2.2.1, Wf RD r) (hl : c.2.2.1.length ≤ 1000) : FnD Try.prog 62 [.agg (cc c)] (· = .c (.bool (.sym (rulesS c)))) := by
  refine fn0 Try.func62 rfl rfl rfl ?_
  conv => whnf
  intro _
  conv => whnf
  refine loop0 (α := Nat × Int × List (RD.T × Int)) (fun p => p.1 ≤ c.2.2.1.length ∧ (∀ k : RD.T, mval (kd := RD) (vd := .int .i64) p.2.2 k = ((c.2.2.1.take p.1).countP (fun q => RD.eqb (bareS q) k) : Nat)) ∧ goodL c (c.2.2.1.take p.1) p.2.1 (c.2.2.1.drop p.1) = goodL c [] 0 c.2.2.1)
    (fun p => ⟨[(1, .c (.ptr 0 0)), (3, .c (.mp 1)), (4, .c (.int .i64 p.2.1)), (5, .c (.int .i64 (bldN (c.2.2.1.take p.1)))), (10, .c (.dat RD c.2.2.1)), (11, .c (.int .i64 c.2.2.1.length)), (12, .c (.int .i64 p.1))],
      [(0, .cells 29 (cc c)), (1, .dmp 147 RD (.int .i64) p.2.2)], 2⟩) (fun p => c.2.2.1.length - p.1) ⟨(0, 0, []), ⟨by simp, fun k => by simp [mval, midx, D.df], rfl⟩, ?_⟩ ?_
  · (conv => whnf); refine ⟨rfl, ?_, ?_, ?_⟩ <;> (repeat' apply And.intro) <;> first | exact trivial | rfl | exact wr_succ _ (by omega) | assumption | exact decide_eq_false (by assumption) | exact decide_eq_true (by assumption)
  rintro ⟨i, last, es⟩ ⟨hI1, hI3, hI4⟩
  dsimp only at hI1 hI3 hI4 ⊢
  conv => whnf
  refine ⟨fun h2 => ?_, fun h2 => ?_⟩
  · have h2 : i < c.2.2.1.length := by simp at h2; omega
    rw [goodL_step h2] at hI4
    have hb := bld_step h2
    have hwr := hw c.2.2.1[i] (List.getElem_mem h2)
    conv => whnf
    try (intro _; conv => whnf)
    refine ⟨by omega, ?_⟩
    rw [gt_nat (d := RD) c.2.2.1 i h2]
    conv => whnf
    generalize hr : c.2.2.1[i] = r at hI4 hb hwr
    refine any0 ?_
    conv => whnf
    refine callr0 (cat_bare r) rfl ?_
    conv => whnf
    have hok := bare_ok hwr
    refine ⟨hok, ?_⟩
    conv => whnf
    refine ⟨hok, ?_⟩
    conv => whnf
    rw [show ((bareS r).1, (bareS r).2.1, (bareS r).2.2.1, (bareS r).2.2.2.1, (bareS r).2.2.2.2.1, (bareS r).2.2.2.2.2.1, (bareS r).2.2.2.2.2.2.1, (bareS r).2.2.2.2.2.2.2) = bareS r from rfl]
    have hlen := ent_len (kd := RD) (vd := .int .i64) es (bareS r)
    have hcnt := hI3 (bareS r)
    have hle : (c.2.2.1.take i).countP (fun q => RD.eqb (bareS q) (bareS r)) ≤ 1000 := Nat.le_trans List.countP_le_length (by rw [List.length_take]; omega)
    refine ⟨⟨by omega, by omega⟩, ?_⟩
    conv => whnf
    rw [Int.toNat_natCast, ent_mset (kd := RD) (vd := .int .i64) es (bareS r), hcnt, wr_succ' _ (by omega)]
    refine ⟨x0 3 5 rfl (by kernel_rfl) rfl rfl rfl rfl rfl rfl ?_ ?_, after0 ?_⟩
    · exact hok
    · show SV.c (.int .i64 (mval (kd := RD) (vd := .int .i64) (ment es (bareS r)) (bareS r))) = _
      rw [mval_ment (kd := RD) (vd := .int .i64), hcnt]
    conv => whnf
    refine callg0 (fun _ => rule_Form r) rfl ?_
    conv => whnf
    refine callg0 (fun _ => rule_Known c r) rfl ?_
    conv => whnf
    refine callg0 (fun _ => cat_bare r) rfl ?_
    conv => whnf
    refine ⟨fun _ => hok, ?_⟩
    conv => whnf
    rw [show ((bareS r).1, (bareS r).2.1, (bareS r).2.2.1, (bareS r).2.2.2.1, (bareS r).2.2.2.2.1, (bareS r).2.2.2.2.2.1, (bareS r).2.2.2.2.2.2.1, (bareS r).2.2.2.2.2.2.2) = bareS r from rfl, mval_mset (kd := RD) (vd := .int .i64), if_pos rfl]
    have hany : (c.2.2.1.take i).any (fun q => alikeS q r) = decide ((1 : Int) < (((c.2.2.1.take i).countP (fun q => RD.eqb (bareS q) (bareS r)) + 1 : Nat) : Int)) := by
      rw [Bool.eq_iff_iff, List.any_eq_true, decide_eq_true_eq]
      have : 0 < (c.2.2.1.take i).countP (fun q => RD.eqb (bareS q) (bareS r)) ↔ _ := List.countP_pos_iff
      constructor
      · intro h; have := this.2 h; omega
      · intro h; exact this.1 (by omega)
    rw [hany, goodStep] at hI4
    refine ⟨fun h4 => ?_, fun h4 => ?_⟩
    · rw [show (!_ && _) = _ from congrArg (fun b => !b && _) h4] at hI4
      rw [show rulesS c = false by unfold rulesS; rw [← hI4]; rfl]
      conv => whnf
    · rw [show (!_ && _) = _ from congrArg (fun b => !b && _) h4] at hI4
      conv => whnf
      simp only [Bool.not_false, Bool.true_and] at hI4
      have hle1 := bld_le (c.2.2.1.take i)
      rw [List.length_take] at hle1
      have hts : c.2.2.1.take (i + 1) = c.2.2.1.take i ++ [r] := by rw [take_step h2, hr]
      have hmap : ∀ k : RD.T, mval (kd := RD) (vd := .int .i64) (mset (kd := RD) (vd := .int .i64) es (bareS r) (((c.2.2.1.take i).countP (fun q => RD.eqb (bareS q) (bareS r)) + 1 : Nat) : Int)) k = ((c.2.2.1.take (i + 1)).countP (fun q => RD.eqb (bareS q) k) : Nat) := by
        intro k
        rw [mval_mset (kd := RD) (vd := .int .i64), hts, List.countP_append, List.countP_singleton]
        by_cases hk : bareS r = k
        · subst hk; rw [if_pos rfl, if_pos ((D.eqb_iff RD _ _).2 rfl)]
        · rw [if_neg hk, hI3 k, if_neg (fun e => hk ((D.eqb_iff RD _ _).1 e))]; rfl
      refine ⟨fun h5 => ?_, fun h5 => ?_⟩
      · conv => whnf
        rw [if_pos (by exact h5)] at hb
        refine ⟨(i + 1, r.1, mset (kd := RD) (vd := .int .i64) es (bareS r) (((c.2.2.1.take i).countP (fun q => RD.eqb (bareS q) (bareS r)) + 1 : Nat) : Int)), ⟨⟨by dsimp only; omega, hmap, by dsimp only; rw [hts, hI4]⟩, by dsimp only; omega⟩, ?_⟩
        rw [hb]
        (conv => whnf); refine ⟨rfl, ?_, ?_, ?_⟩ <;> (repeat' apply And.intro) <;> first | exact trivial | rfl | exact wr_succ _ (by omega) | assumption | exact decide_eq_false (by assumption) | exact decide_eq_true (by assumption)
      · conv => whnf
        rw [if_neg (by rw [Bool.not_eq_true]; exact h5)] at hb
        refine ⟨(i + 1, r.1, mset (kd := RD) (vd := .int .i64) es (bareS r) (((c.2.2.1.take i).countP (fun q => RD.eqb (bareS q) (bareS r)) + 1 : Nat) : Int)), ⟨⟨by dsimp only; omega, hmap, by dsimp only; rw [hts, hI4]⟩, by dsimp only; omega⟩, ?_⟩
        rw [hb]
        (conv => whnf); refine ⟨rfl, ?_, ?_, ?_⟩ <;> (repeat' apply And.intro) <;> first | exact trivial | rfl | exact wr_succ _ (by omega) | assumption | exact decide_eq_false (by assumption) | exact decide_eq_true (by assumption)
  · conv => whnf
    rw [List.take_of_length_le (by simp at h2; omega), List.drop_of_length_le (by simp at h2; omega)] at hI4
    rw [show goodL c c.2.2.1 last [] = true from rfl] at hI4
    intro _
    conv => whnf
    rw [List.take_of_length_le (by simp at h2; omega)]
    rw [show rulesS c = (decide (((bldN c.2.2.1 : Nat) : Int) ≤ 1) && decide ((c.2.2.1.length : Int) ≤ 16)) by
      unfold rulesS; rw [← hI4, Bool.true_and]; norm_cast]

theorem dc16 (n : Nat) : decide ((n : Int) ≤ 16) = decide (n ≤ 16) := by
  rw [Bool.eq_iff_iff, decide_eq_true_eq, decide_eq_true_eq]; omega
theorem wr_prd (i : Nat) (h : i ≤ 9223372036854775806) : IntKind.wrap .i64 (((i + 1 : Nat) : Int) - 1) = (i : Int) := by
  rw [show ((i + 1 : Nat) : Int) - 1 = (i : Int) by omega]
  exact wr64 _ (by omega) (by omega)
theorem cat_Good (c : CD.T) (hw : ∀ r ∈ c.2.2.1, Wf RD r) (hl : c.2.2.1.length ≤ 1000) : FnD Try.prog 40 [.agg (cc c)] (· = .c (.bool (.sym (goodC c)))) := by
  refine fn0 Try.func40 rfl rfl rfl ?_
  conv => whnf
  intro hl2
  conv => whnf
  refine loop0 (fun i => i ≤ c.2.2.2.1.length ∧ idxL c (prevI c.2.2.2.1 i) (c.2.2.2.1.drop i) = idxS c) (fun i => ⟨[(1, .c (.ptr 0 0)), (6, .c (.dat ID c.2.2.2.1)), (7, .c (.int .i64 c.2.2.2.1.length)), (8, .c (.int .i64 i))], [(0, .cells 29 (cc c))], 1⟩) (fun i => c.2.2.2.1.length - i) ⟨0, ⟨by simp, rfl⟩, ?_⟩ ?_
  · (conv => whnf); refine ⟨rfl, ?_, ?_, ?_⟩ <;> (repeat' apply And.intro) <;> first | exact trivial | rfl | exact wr_succ _ (by omega) | assumption | exact decide_eq_false (by assumption) | exact decide_eq_true (by assumption)
  rintro i ⟨hI1, hI2⟩
  conv => whnf
  refine ⟨fun h2 => ?_, fun h2 => ?_⟩
  · have h2 : i < c.2.2.2.1.length := by simp at h2; omega
    conv => whnf
    try (intro _; conv => whnf)
    refine ⟨by omega, ?_⟩
    rw [gt_nat (d := ID) c.2.2.2.1 i h2]
    conv => whnf
    cases i with
    | zero =>
      rw [show prevI c.2.2.2.1 0 = none from rfl, List.drop_zero, idx_step0 h2] at hI2
      refine any0 ?_
      conv => whnf
      refine callr0 (schema_Has c 1 c.2.2.2.1[0].1) rfl ?_
      conv => whnf
      refine callrg0 (fun _ => val_Name c.2.2.2.1[0].2) rfl ?_
      conv => whnf
      refine ⟨fun h => by simp at h, ?_⟩
      conv => whnf
      refine callrg0 (fun _ => cat_ahead _ c.2.2.2.1[0]) rfl ?_
      conv => whnf
      refine ⟨.inl (by kernel_rfl), after0 ?_⟩
      conv => whnf
      refine ⟨fun h3 => ?_, fun h3 => ?_⟩
      · have h3 : (!hasT c.1 c.2.2.2.1[0].1 || !nameS c.2.2.2.1[0].2 || false) = true := h3
        rw [h3] at hI2
        rw [show goodC c = false by unfold goodC; rw [← hI2]; simp]
        conv => whnf
      · have h3 : (!hasT c.1 c.2.2.2.1[0].1 || !nameS c.2.2.2.1[0].2 || false) = false := h3
        rw [h3, Bool.not_false, Bool.true_and] at hI2
        conv => whnf
        refine ⟨1, ⟨⟨by omega, by rw [← hI2]; exact congrArg (fun p => idxL c p _) (List.getElem?_eq_getElem h2)⟩, by omega⟩, ?_⟩
        (conv => whnf); refine ⟨rfl, ?_, ?_, ?_⟩ <;> (repeat' apply And.intro) <;> first | exact trivial | rfl | exact wr_succ _ (by omega) | assumption | exact decide_eq_false (by assumption) | exact decide_eq_true (by assumption)
    | succ i =>
      rw [show prevI c.2.2.2.1 (i + 1) = some c.2.2.2.1[i] from List.getElem?_eq_getElem (by omega), idx_step h2] at hI2
      refine any0 ?_
      conv => whnf
      refine callr0 (schema_Has c 1 c.2.2.2.1[i + 1].1) rfl ?_
      conv => whnf
      refine callrg0 (fun _ => val_Name c.2.2.2.1[i + 1].2) rfl ?_
      conv => whnf
      rw [wr_prd i (by omega)]
      refine ⟨fun _ => by omega, ?_⟩
      rw [gt_nat (d := ID) c.2.2.2.1 i (by omega)]
      conv => whnf
      refine callrg0 (fun _ => cat_ahead _ c.2.2.2.1[i + 1]) rfl ?_
      conv => whnf
      refine ⟨.inl (by kernel_rfl), after0 ?_⟩
      conv => whnf
      rw [show decide ((0 : Int) < ((i + 1 : Nat) : Int)) = true from decide_eq_true (by omega), Bool.true_and, dle 0, cmpIx_lt]
      refine ⟨fun h3 => ?_, fun h3 => ?_⟩
      · have h3 : (!hasT c.1 c.2.2.2.1[i + 1].1 || !nameS c.2.2.2.1[i + 1].2 || !ltIx c.2.2.2.1[i] c.2.2.2.1[i + 1]) = true := h3
        rw [h3] at hI2
        rw [show goodC c = false by unfold goodC; rw [← hI2]; simp]
        conv => whnf
      · have h3 : (!hasT c.1 c.2.2.2.1[i + 1].1 || !nameS c.2.2.2.1[i + 1].2 || !ltIx c.2.2.2.1[i] c.2.2.2.1[i + 1]) = false := h3
        rw [h3, Bool.not_false, Bool.true_and] at hI2
        conv => whnf
        refine ⟨i + 2, ⟨⟨by omega, by rw [← hI2]; exact congrArg (fun p => idxL c p _) (List.getElem?_eq_getElem h2)⟩, by omega⟩, ?_⟩
        (conv => whnf); refine ⟨rfl, ?_, ?_, ?_⟩ <;> (repeat' apply And.intro) <;> first | exact trivial | rfl | exact wr_succ _ (by omega) | assumption | exact decide_eq_false (by assumption) | exact decide_eq_true (by assumption)
  · rw [idx_end c _ (by simp at h2; omega)] at hI2
    conv => whnf
    refine call1 (schema_Types c) rfl ?_
    conv => whnf
    intro _
    conv => whnf
    refine callg0 (fun _ => cat_goodRules c hw hl) rfl ?_
    conv => whnf
    unfold goodC
    rw [← hI2]
    rw [dc16]
    simp only [Bool.true_and, Bool.and_assoc]

/-- the Id ahead of a place -/
def prevR (l : List RD.T) : Nat → Int
  | 0 => 0
  | i + 1 => (gt (d := RD) l i).1
theorem prevR_succ {l : List RD.T} {i : Nat} (h : i < l.length) : prevR l (i + 1) = l[i].1 := by
  show (gt (d := RD) l i).1 = _
  rw [gt_nat (d := RD) l i h]
theorem refStep (c : CD.T) (r : RD.T) (last : Int) (b : Bool) (hb : (decide (r.1 < 1) || b) = !decide (last < r.1)) (A X : Bool) : (decide (last < r.1) && (goodR c r && (!A && X))) = (!(decide (r.1 < 1) || decide (c.2.2.2.2 ≤ r.1) || b || !formS r || !knownS c r || (!decide (stR r = 1) && !decide (stR r = 2))) && (!A && X)) := by
  have h1 : (decide (1 ≤ stR r) && decide (stR r ≤ 2)) = !(!decide (stR r = 1) && !decide (stR r = 2)) := by
    rw [Bool.eq_iff_iff]; simp; omega
  have h2 : decide (last < r.1) = !(decide (r.1 < 1) || b) := by rw [hb, Bool.not_not]
  unfold goodR
  rw [h1, h2, dle c.2.2.2.2 r.1]
  generalize (!decide (stR r = 1) && !decide (stR r = 2)) = g
  simp only [Bool.not_or, Bool.not_not]
  ac_rfl
theorem anyT_step {l : List RD.T} {r : RD.T} {k : Nat} (h : k < l.length) : (l.take (k + 1)).any (fun q => alikeS q r) = ((l.take k).any (fun q => alikeS q r) || alikeS l[k] r) := by
  rw [take_step h, List.any_append]; simp
theorem idz1 (a : Int) : decide (a < 1) = !decide (0 < a) := by
  rw [Bool.eq_iff_iff]; simp; omega
theorem idz2 (a q : Int) (h : 0 ≤ q) : (decide (a < 1) || decide (a ≤ q)) = !decide (q < a) := by
  rw [Bool.eq_iff_iff]; simp; omega
end Go.Proofs.Ytnldokebmfojeaa
/- The walks of answer.id, empty, Good and of the reference's. Own work. -/
set_option linter.unusedVariables false
set_option maxRecDepth 100000
namespace Go.Proofs.Ytnldokebmfojeaa
open Go Go.RowKit OE

def okId (n : Int) : Bool := decide (0 ≤ n) && decide (n ≤ 4611686018427387903)
def idsS (l : List Int) : Bool := l.all okId
theorem ids_take {l : List Int} {i : Nat} (h : i < l.length) : (l.take (i + 1)).all okId = ((l.take i).all okId && okId l[i]) := by
  rw [List.take_add_one, List.all_append, List.getElem?_eq_getElem h]
  simp
theorem ans_id (l : List Int) : FnD Try.prog 36 [.c (.dat LD l)] (· = .c (.bool (.sym (idsS l)))) := by
  refine fn0 Try.func36 rfl rfl rfl ?_
  conv => whnf
  intro hlen
  conv => whnf
  refine loop0 (α := Nat) (fun i => i ≤ l.length ∧ (l.take i).all okId = true) (fun i => ⟨[(5, .c (.dat LD l)), (6, .c (.int .i64 l.length)), (7, .c (.int .i64 i))], [], 0⟩) (fun i => l.length - i) ⟨0, ⟨by omega, by simp⟩, ?_⟩ ?_
  · (conv => whnf); refine ⟨rfl, ?_, ?_, ?_⟩ <;> (repeat' apply And.intro) <;> first | exact trivial | rfl | exact wr_succ _ (by omega) | assumption | exact decide_eq_false (by assumption) | exact decide_eq_true (by assumption)
  rintro i ⟨hi, hI⟩
  conv => whnf
  refine ⟨fun h2 => ?_, fun h2 => ?_⟩
  · have h2 : i < l.length := by rw [decide_eq_true_eq] at h2; omega
    conv => whnf
    try (intro _; conv => whnf)
    refine ⟨by omega, ?_⟩
    rw [gt_nat (d := LD) l i h2]
    conv => whnf
    refine ⟨fun h3 => ?_, fun h3 => ?_⟩
    · have h3 : okId l[i] = false := by
        rw [Bool.or_eq_true, decide_eq_true_eq, decide_eq_true_eq] at h3
        unfold okId
        rcases h3 with h | h
        · rw [decide_eq_false (Int.not_le.2 h)]; rfl
        · rw [decide_eq_false (Int.not_le.2 h), Bool.and_false]
      have : idsS l = false := by
        unfold idsS
        rw [List.all_eq_false]
        exact ⟨l[i], List.getElem_mem h2, by rw [h3]; decide⟩
      rw [this]
      conv => whnf
    have h3 : okId l[i] = true := by
      rw [Bool.or_eq_false_iff, decide_eq_false_iff_not, decide_eq_false_iff_not] at h3
      unfold okId
      rw [decide_eq_true (Int.not_lt.1 h3.1), decide_eq_true (Int.not_lt.1 h3.2)]; rfl
    conv => whnf
    refine ⟨i + 1, ⟨⟨by omega, by rw [ids_take h2, hI, h3]; rfl⟩, by omega⟩, ?_⟩
    (conv => whnf); refine ⟨rfl, ?_, ?_, ?_⟩ <;> (repeat' apply And.intro) <;> first | exact trivial | rfl | exact wr_succ _ (by omega) | assumption | exact decide_eq_false (by assumption) | exact decide_eq_true (by assumption)
  · have h2 : l.length ≤ i := by rw [decide_eq_false_iff_not] at h2; omega
    rw [show idsS l = true by rw [List.take_of_length_le h2] at hI; exact hI]
    conv => whnf
/-- a reply: code, Id, rule, nodes, edges, Ids, catalog -/
abbrev AD : D := .pair (.int .i64) (.pair (.int .i64) (.pair (.int .i64) (.pair (.list ND) (.pair (.list ED) (.pair (.list LD) CD)))))
abbrev ac (r : AD.T) : List C := [.int .i64 r.1, .int .i64 r.2.1, .int .i64 r.2.2.1, .dat ND r.2.2.2.1, .dat ED r.2.2.2.2.1, .dat LD r.2.2.2.2.2.1, .dat .str r.2.2.2.2.2.2.1, .dat .str r.2.2.2.2.2.2.2.1, .dat RD r.2.2.2.2.2.2.2.2.1, .dat ID r.2.2.2.2.2.2.2.2.2.1, .int .i64 r.2.2.2.2.2.2.2.2.2.2]
def aC (r : AD.T) : CD.T := r.2.2.2.2.2.2
def emptyC (c : CD.T) : Bool := decide (c.2.2.2.2 = 0) && decide (c.1.length + c.2.1.length + c.2.2.1.length + c.2.2.2.1.length = 0)
theorem sum4 (a b c d : Nat) (h1 : a ≤ 140737488351232) (h2 : b ≤ 140737488351232) (h3 : c ≤ 140737488351232) (h4 : d ≤ 140737488351232) :
    IntKind.wrap .i64 (IntKind.wrap .i64 (IntKind.wrap .i64 ((a : Int) + b) + c) + d) = ((a + b + c + d : Nat) : Int) := by
  rw [wr64 ((a : Int) + b) (by omega) (by omega), wr64 ((a : Int) + b + c) (by omega) (by omega), wr64 _ (by omega) (by omega)]
  omega
theorem ans_empty (c : CD.T) (hw : Wf CD c) : FnD Try.prog 39 [.agg (cc c)] (· = .c (.bool (.sym (emptyC c)))) := by
  have w1 := hw.1.1
  have w2 := hw.2.1.1
  have w3 := hw.2.2.1.1
  have w4 := hw.2.2.2.1.1
  refine fn0 Try.func39 rfl rfl rfl ?_
  conv => whnf
  intro _
  conv => whnf
  intro _
  conv => whnf
  intro _
  conv => whnf
  intro _
  conv => whnf
  rw [sum4 _ _ _ _ w1 w2 w3 w4]
  unfold emptyC
  have e : ∀ n : Nat, decide ((n : Int) = 0) = decide (n = 0) := fun n => by
    rw [Bool.eq_iff_iff, decide_eq_true_eq, decide_eq_true_eq]; omega
  rw [e]
def goodN (n : ND.T) : Bool := okId n.1 && nameS n.2.1 && propsS n.2.2
def goodE (e : ED.T) : Bool := okId e.1 && okId e.2.2.1 && okId e.2.2.2.1 && nameS e.2.1 && propsS e.2.2.2.2
def bndA (r : AD.T) : Bool := decide ((r.1 : Int) < 0) || decide (1000 < (r.1 : Int)) || decide ((r.2.2.1 : Int) < 0) || decide (1000000 < (r.2.2.1 : Int)) || decide ((1024 : Int) < r.2.2.2.1.length) || decide ((1024 : Int) < r.2.2.2.2.1.length) || decide ((1024 : Int) < r.2.2.2.2.2.1.length)
def headA (r : AD.T) : Bool := !bndA r && (okId r.2.1 && idsS r.2.2.2.2.2.1)
def goodA (r : AD.T) : Bool := headA r && (r.2.2.2.1.all goodN && (r.2.2.2.2.1.all goodE && (emptyC (aC r) || goodC (aC r))))
theorem all_step {α : Type} {f : α → Bool} {l : List α} {i : Nat} (h : i < l.length) : (l.take (i + 1)).all f = ((l.take i).all f && f l[i]) := by
  rw [List.take_add_one, List.all_append, List.getElem?_eq_getElem h]
  simp
theorem all_no {α : Type} {f : α → Bool} {l : List α} {i : Nat} (h : i < l.length) (hf : f l[i] = false) : l.all f = false := by
  rw [List.all_eq_false]
  exact ⟨l[i], List.getElem_mem h, by rw [hf]; decide⟩
theorem ids_one (n : Int) : idsS [n] = okId n := by unfold idsS; simp
theorem ids_three (a b c : Int) : idsS [a, b, c] = (okId a && okId b && okId c) := by unfold idsS; simp [Bool.and_assoc]
theorem ans_Good (r : AD.T) (hw : Wf AD r) (hl : (aC r).2.2.1.length ≤ 1000) : FnD Try.prog 10 [.agg (ac r)] (· = .c (.bool (.sym (goodA r)))) := by
  refine fn0 Try.func10 rfl rfl rfl ?_
  conv => whnf
  intro _
  conv => whnf
  intro _
  conv => whnf
  intro _
  conv => whnf
  refine ⟨fun g => ?_, fun g => ?_⟩
  · have g : bndA r = true := g
    rw [show goodA r = false by unfold goodA headA; rw [g]; rfl]
    conv => whnf
  have g : bndA r = false := g
  conv => whnf
  refine lend0 (ans_id [r.2.1]) rfl rfl ?_
  conv => whnf
  refine callg0 (fun _ => ans_id r.2.2.2.2.2.1) rfl ?_
  conv => whnf
  rw [ids_one]
  refine ⟨fun k => ?_, fun k => ?_⟩
  · have : headA r = false := by
      unfold headA
      rw [g]
      revert k
      cases okId r.2.1 <;> cases idsS r.2.2.2.2.2.1 <;> simp
    rw [show goodA r = false by unfold goodA; rw [this]; rfl]
    conv => whnf
  have hh : headA r = true := by
    unfold headA
    rw [g]
    revert k
    cases okId r.2.1 <;> cases idsS r.2.2.2.2.2.1 <;> simp
  rw [show goodA r = (r.2.2.2.1.all goodN && (r.2.2.2.2.1.all goodE && (emptyC (aC r) || goodC (aC r)))) by unfold goodA; rw [hh]; rfl]
  conv => whnf
  intro _
  conv => whnf
  refine loop0 (α := Nat) (fun i => i ≤ r.2.2.2.1.length ∧ (r.2.2.2.1.take i).all goodN = true) (fun i => ⟨[(1, .c (.ptr 0 0)), (57, .c (.dat ND r.2.2.2.1)), (58, .c (.int .i64 r.2.2.2.1.length)), (59, .c (.int .i64 i))], [(0, .cells 31 (ac r))], 1⟩) (fun i => r.2.2.2.1.length - i) ⟨0, ⟨by omega, by simp⟩, ?_⟩ ?_
  · (conv => whnf); refine ⟨rfl, ?_, ?_, ?_⟩ <;> (repeat' apply And.intro) <;> first | exact trivial | rfl | exact wr_succ _ (by omega) | assumption | exact decide_eq_false (by assumption) | exact decide_eq_true (by assumption)
  rintro i ⟨hi, hI⟩
  conv => whnf
  refine ⟨fun h2 => ?_, fun h2 => ?_⟩
  · have h2 : i < r.2.2.2.1.length := by rw [decide_eq_true_eq] at h2; omega
    conv => whnf
    try (intro _; conv => whnf)
    refine ⟨by omega, ?_⟩
    rw [gt_nat (d := ND) r.2.2.2.1 i h2]
    conv => whnf
    refine lend0 (ans_id [r.2.2.2.1[i].1]) rfl rfl ?_
    conv => whnf
    refine callg0 (fun _ => val_Name r.2.2.2.1[i].2.1) rfl ?_
    conv => whnf
    refine callg0 (fun _ => val_Props r.2.2.2.1[i].2.2 (fun p hp => ((hw.2.2.2.1.2 _ (List.getElem_mem h2)).2.2.2 p hp).2.1)) rfl ?_
    conv => whnf
    rw [ids_one]
    refine ⟨fun h3 => ?_, fun h3 => ?_⟩
    · have : goodN r.2.2.2.1[i] = false := by
        unfold goodN
        revert h3
        cases okId r.2.2.2.1[i].1 <;> cases nameS r.2.2.2.1[i].2.1 <;> cases propsS r.2.2.2.1[i].2.2 <;> simp
      rw [all_no h2 this]
      conv => whnf
      rfl
    have h3 : goodN r.2.2.2.1[i] = true := by
      unfold goodN
      revert h3
      cases okId r.2.2.2.1[i].1 <;> cases nameS r.2.2.2.1[i].2.1 <;> cases propsS r.2.2.2.1[i].2.2 <;> simp
    conv => whnf
    refine ⟨i + 1, ⟨⟨by omega, by rw [all_step h2, hI, h3]; rfl⟩, by omega⟩, ?_⟩
    (conv => whnf); refine ⟨rfl, ?_, ?_, ?_⟩ <;> (repeat' apply And.intro) <;> first | exact trivial | rfl | exact wr_succ _ (by omega) | assumption | exact decide_eq_false (by assumption) | exact decide_eq_true (by assumption)
  have h2 : r.2.2.2.1.length ≤ i := by rw [decide_eq_false_iff_not] at h2; omega
  rw [show r.2.2.2.1.all goodN = true by rw [List.take_of_length_le h2] at hI; exact hI]
  clear hI h2 hi
  conv => whnf
  intro _
  conv => whnf
  refine loop0 (α := Nat) (fun i => i ≤ r.2.2.2.2.1.length ∧ (r.2.2.2.2.1.take i).all goodE = true) (fun i => ⟨[(1, .c (.ptr 0 0)), (82, .c (.dat ED r.2.2.2.2.1)), (83, .c (.int .i64 r.2.2.2.2.1.length)), (84, .c (.int .i64 i))], [(0, .cells 31 (ac r))], 1⟩) (fun i => r.2.2.2.2.1.length - i) ⟨0, ⟨by omega, by simp⟩, ?_⟩ ?_
  · (conv => whnf); refine ⟨rfl, ?_, ?_, ?_⟩ <;> (repeat' apply And.intro) <;> first | exact trivial | rfl | exact wr_succ _ (by omega) | assumption | exact decide_eq_false (by assumption) | exact decide_eq_true (by assumption)
  rintro i ⟨hi, hI⟩
  conv => whnf
  refine ⟨fun h2 => ?_, fun h2 => ?_⟩
  · have h2 : i < r.2.2.2.2.1.length := by rw [decide_eq_true_eq] at h2; omega
    conv => whnf
    try (intro _; conv => whnf)
    refine ⟨by omega, ?_⟩
    rw [gt_nat (d := ED) r.2.2.2.2.1 i h2]
    conv => whnf
    refine lend0 (ans_id [r.2.2.2.2.1[i].1, r.2.2.2.2.1[i].2.2.1, r.2.2.2.2.1[i].2.2.2.1]) rfl rfl ?_
    conv => whnf
    refine callg0 (fun _ => val_Name r.2.2.2.2.1[i].2.1) rfl ?_
    conv => whnf
    refine callg0 (fun _ => val_Props r.2.2.2.2.1[i].2.2.2.2 (fun p hp => ((hw.2.2.2.2.1.2 _ (List.getElem_mem h2)).2.2.2.2.2 p hp).2.1)) rfl ?_
    conv => whnf
    rw [ids_three]
    refine ⟨fun h3 => ?_, fun h3 => ?_⟩
    · have : goodE r.2.2.2.2.1[i] = false := by
        unfold goodE
        revert h3
        cases (okId r.2.2.2.2.1[i].1 && okId r.2.2.2.2.1[i].2.2.1 && okId r.2.2.2.2.1[i].2.2.2.1) <;> cases nameS r.2.2.2.2.1[i].2.1 <;> cases propsS r.2.2.2.2.1[i].2.2.2.2 <;> simp
      rw [all_no h2 this]
      conv => whnf
      rfl
    have h3 : goodE r.2.2.2.2.1[i] = true := by
      unfold goodE
      revert h3
      cases (okId r.2.2.2.2.1[i].1 && okId r.2.2.2.2.1[i].2.2.1 && okId r.2.2.2.2.1[i].2.2.2.1) <;> cases nameS r.2.2.2.2.1[i].2.1 <;> cases propsS r.2.2.2.2.1[i].2.2.2.2 <;> simp
    conv => whnf
    refine ⟨i + 1, ⟨⟨by omega, by rw [all_step h2, hI, h3]; rfl⟩, by omega⟩, ?_⟩
    (conv => whnf); refine ⟨rfl, ?_, ?_, ?_⟩ <;> (repeat' apply And.intro) <;> first | exact trivial | rfl | exact wr_succ _ (by omega) | assumption | exact decide_eq_false (by assumption) | exact decide_eq_true (by assumption)
  have h2 : r.2.2.2.2.1.length ≤ i := by rw [decide_eq_false_iff_not] at h2; omega
  rw [show r.2.2.2.2.1.all goodE = true by rw [List.take_of_length_le h2] at hI; exact hI]
  clear hI h2 hi
  conv => whnf
  refine call1 (ans_empty (aC r) hw.2.2.2.2.2.2) rfl ?_
  conv => whnf
  refine callg0 (fun _ => cat_Good (aC r) hw.2.2.2.2.2.2.2.2.1.2 hl) rfl ?_
  conv => whnf
  rfl
end Go.Proofs.Ytnldokebmfojeaa
/- The bytes of a catalog; the walks of cat.Encode and of the reference's. Own work. -/
set_option linter.unusedVariables false
set_option maxRecDepth 100000
namespace Go.Proofs.Ytnldokebmfojeaa
open Go Go.RowKit OE

def flB {α : Type} (f : α → List UInt8) (l : List α) : List UInt8 := (l.map f).flatten
theorem flB_step {α : Type} (f : α → List UInt8) {l : List α} {i : Nat} (h : i < l.length) : flB f (l.take (i + 1)) = flB f (l.take i) ++ f l[i] := by
  unfold flB; rw [take_step h, List.map_append, List.flatten_append]; simp only [List.map_cons, List.map_nil, List.flatten_cons, List.flatten_nil, List.append_nil]
theorem flB_len {α : Type} (f : α → List UInt8) (B : Nat) : ∀ {l : List α}, (∀ x ∈ l, (f x).length ≤ B) → (flB f l).length ≤ B * l.length
  | [], _ => by simp [flB]
  | x :: l, h => by
    have h1 := h x (by simp)
    have h2 := flB_len f B (l := l) (fun y hy => h y (by simp [hy]))
    unfold flB at h2 ⊢
    rw [List.map_cons, List.flatten_cons, List.length_append, List.length_cons, Nat.mul_add]
    omega
abbrev txtB (l : List SD.T) : List UInt8 := flB (α := List UInt8) Num.putT l
def ixB (i : ID.T) : List UInt8 := Num.putT i.1 ++ Num.putT i.2
/-- a good catalog's bytes -/
def catB' (c : CD.T) : List UInt8 := Num.putN c.1.length ++ txtB c.1 ++ (Num.putN c.2.1.length ++ txtB c.2.1) ++ Num.putN c.2.2.1.length ++ flB encS c.2.2.1 ++ Num.putN c.2.2.2.1.length ++ flB ixB c.2.2.2.1 ++ Num.putN (Int.toNat c.2.2.2.2)
def encCS (c : CD.T) : List UInt8 := if goodC c = true then catB' c else []
def errCS (c : CD.T) : Int := if goodC c = true then 0 else 11

theorem encS_len (r : RD.T) : (encS r).length ≤ 144 := by
  unfold encS
  split
  · rename_i h
    obtain ⟨i0, i1, k0, k1, n0, n1, s0, s1, t0, t1, t2, t3⟩ := okR h
    have p1 := putN_b r.1 i1
    have p2 := putN_b r.2.1 (Int.le_trans k1 (by decide))
    have p3 := putN_b r.2.2.2.2.2.2.2 (Int.le_trans s1 (by decide))
    have p4 := putN_b r.2.2.2.2.2.2.1 (Int.le_trans n1 (by decide))
    have q1 := putT_b t0
    have q2 := putT_b t1
    have q3 := putT_b t2
    have q4 := putT_b t3
    unfold bytS
    simp only [List.length_append]
    omega
  · simp
theorem goodL_mem {c : CD.T} : ∀ {l d : List RD.T} {x : Int}, goodL c d x l = true → ∀ r ∈ l, x < r.1 ∧ goodR c r = true
  | [], _, _, _, r, hr => by cases hr
  | a :: l, d, x, h, r, hr => by
    simp only [goodL, Bool.and_eq_true, decide_eq_true_eq] at h
    rcases List.mem_cons.1 hr with rfl | hr
    · exact ⟨h.1, h.2.1⟩
    · have := goodL_mem h.2.2.2 r hr
      exact ⟨Int.lt_trans h.1 this.1, this.2⟩
theorem idxL_mem {c : CD.T} : ∀ {l : List ID.T} {p : Option ID.T}, idxL c p l = true → ∀ x ∈ l, hasT c.1 x.1 = true ∧ nameS x.2 = true
  | [], _, _, x, hx => by cases hx
  | a :: l, p, h, x, hx => by
    simp only [idxL, Bool.and_eq_true, Bool.not_eq_true', Bool.or_eq_false_iff, Bool.not_eq_false'] at h
    rcases List.mem_cons.1 hx with rfl | hx
    · exact h.1.1
    · exact idxL_mem h.2 x hx
theorem tyS_mem {l : List SD.T} (h : tyS l = true) : l.length ≤ 16 ∧ ∀ s ∈ l, nameS s = true := by
  simp only [tyS, Bool.and_eq_true, Bool.not_eq_true', decide_eq_false_iff_not, List.all_eq_true] at h
  exact ⟨by omega, h.2.2⟩
structure GoodC (c : CD.T) : Prop where
  n1 : c.1.length ≤ 16
  n2 : c.2.1.length ≤ 16
  n3 : c.2.2.1.length ≤ 16
  n4 : c.2.2.2.1.length ≤ 16
  t1 : ∀ s ∈ c.1, nameS s = true
  t2 : ∀ s ∈ c.2.1, nameS s = true
  x0 : (1 : Int) ≤ c.2.2.2.2
  x1 : (show Int from c.2.2.2.2) ≤ 1000000
  r : ∀ r ∈ c.2.2.1, (0 : Int) < r.1 ∧ goodR c r = true
  i : ∀ x ∈ c.2.2.2.1, hasT c.1 x.1 = true ∧ nameS x.2 = true
theorem goodC_out {c : CD.T} (h : goodC c = true) : GoodC c := by
  simp only [goodC, rulesS, typesS, idxS, Bool.and_eq_true, decide_eq_true_eq] at h
  obtain ⟨⟨h1, h2⟩, h3, h4, h5, h6, h7, h8, h9⟩ := h
  have a1 := tyS_mem h1
  have a2 := tyS_mem h2
  exact ⟨a1.1, a2.1, h9, h5, a1.2, a2.2, h3, h4, goodL_mem h7, idxL_mem h6⟩
theorem hasT_mem {l : List SD.T} {v : List UInt8} (h : hasT l v = true) : v ∈ l := by
  simp only [hasT, List.any_eq_true, decide_eq_true_eq] at h
  obtain ⟨x, h1, h2⟩ := h
  rw [h2]; exact h1
theorem GoodC.il {c : CD.T} (h : GoodC c) {x : ID.T} (hx : x ∈ c.2.2.2.1) : x.1.length ≤ 16 ∧ x.2.length ≤ 16 :=
  ⟨nameS_len (h.t1 _ (hasT_mem (h.i x hx).1)), nameS_len (h.i x hx).2⟩
theorem txtB_len {l : List SD.T} (h : ∀ s ∈ l, nameS s = true) : (txtB l).length ≤ 26 * l.length := flB_len _ 26 fun s hs => putT_b (nameS_len (h s hs))

theorem gt0 {d : D} (a b : d.T) : gt [a, b] (0 : Int) = a := rfl
theorem gt1 {d : D} (a b : d.T) : gt [a, b] (IntKind.wrap .i64 (0 + 1)) = b := rfl
theorem txtB_step {l : List SD.T} {i : Nat} (h : i < l.length) : txtB (l.take (i + 1)) = txtB (l.take i) ++ Num.putT l[i] := flB_step (α := List UInt8) Num.putT h
theorem cat_Encode (c : CD.T) (hw : Wf CD c) (g3 : c.2.2.1.length ≤ 1000) : FnD Try.prog 18 [.agg (cc c)] (· = .tup [(false, [.str (encCS c)]), (false, [.int .i64 (errCS c)])]) := by
  refine fn0 Try.func18 rfl rfl rfl ?_
  conv => whnf
  refine call1 (cat_Good c hw.2.2.1.2 g3) rfl ?_
  conv => whnf
  refine ⟨fun h1 => ?_, fun h1 => ?_⟩
  · have h1 := not_t h1
    conv => whnf
    simp [encCS, errCS, h1]
  have h1 := not_f h1
  rw [encCS, errCS, if_pos h1, if_pos h1]
  have hg := goodC_out h1
  conv => whnf
  intro _
  conv => whnf
  refine unroll0 3 ?_
  conv => whnf
  refine tk rfl ?_
  conv => whnf
  intro _
  conv => whnf
  refine ⟨show (0 : Int) ≤ 0 ∧ (0 : Int) < 2 from by decide, ?_⟩
  conv => whnf
  refine ⟨show (0 : Int) ≤ 0 ∧ (0 : Int) < 2 from by decide, ?_⟩
  conv => whnf
  intro _
  conv => whnf
  rw [gt0]
  refine call1 (num_PutI ((c.1).length : Int) (Int.natCast_nonneg _) (by have := hg.n1; omega)) rfl ?_
  conv => whnf
  have pn0 := putN_b ((c.1).length : Int) (by have := hg.n1; omega)
  refine ⟨by exact Nat.le_trans (Nat.add_le_add (Nat.le_refl 0) pn0) (by decide), ?_⟩
  conv => whnf
  intro _
  conv => whnf
  refine loop0 (α := Nat × List UInt8) (fun p => p.1 ≤ (c.1).length ∧ p.2 = [] ++ Num.putN (c.1).length ++ txtB ((c.1).take p.1))
    (fun p => ⟨[(1, .c (.ptr 0 0)), (4, .c (.str p.2)), (22, .c (.row 1)), (23, .c (.int .i64 2)), (24, .c (.int .i64 0)), (34, .c (.dat SD c.1)), (35, .c (.int .i64 (c.1).length)), (36, .c (.int .i64 p.1))], [(0, .cells 29 (cc c)), (1, .row 25 (.list SD) [c.1, c.2.1])], 2⟩) (fun p => (c.1).length - p.1) ⟨(0, [] ++ Num.putN ((c.1).length : Int).toNat), ⟨Nat.zero_le _, (List.append_nil _).symm⟩, ?_⟩ ?_
  · (conv => whnf); refine ⟨rfl, ?_, ?_, ?_⟩ <;> (repeat' apply And.intro) <;> first | exact trivial | rfl | exact wr_succ _ (by omega) | assumption | exact decide_eq_false (by assumption) | exact decide_eq_true (by assumption)
  rintro ⟨i, s0⟩ ⟨hI1, hJ0⟩
  dsimp only at hI1 hJ0 ⊢
  have hsl0 : (s0).length ≤ 450 := by
    have h5 := txtB_len (l := (c.1).take i) fun s hs => hg.t1 s (List.mem_of_mem_take hs)
    have h6 := hg.n1
    rw [List.length_take] at h5
    rw [Int.toNat_natCast] at pn0
    rw [hJ0]; simp only [List.length_append, List.length_nil]; omega
  conv => whnf
  refine ⟨fun h2 => ?_, fun h2 => ?_⟩
  · have h2 : i < (c.1).length := by simp at h2; omega
    have h3 := nameS_len (hg.t1 _ (List.getElem_mem h2))
    have h4 := putT_b h3
    conv => whnf
    try (intro _; conv => whnf)
    refine ⟨by omega, ?_⟩
    rw [gt_nat (d := SD) (c.1) i h2]
    conv => whnf
    refine call1 (num_PutText _ (by omega)) rfl ?_
    conv => whnf
    refine ⟨by omega, ?_⟩
    conv => whnf
    refine ⟨(i + 1, s0 ++ Num.putT (c.1)[i]), ⟨⟨h2, ?_⟩, by dsimp only; omega⟩, ?_⟩
    · dsimp only
      rw [txtB_step h2, hJ0]; simp only [List.append_assoc]
    · (conv => whnf); refine ⟨rfl, ?_, ?_, ?_⟩ <;> (repeat' apply And.intro) <;> first | exact trivial | rfl | exact wr_succ _ (by omega) | assumption | exact decide_eq_false (by assumption) | exact decide_eq_true (by assumption)
  rw [List.take_of_length_le (by simp at h2; omega)] at hJ0
  clear h2
  conv => whnf
  refine tk rfl ?_
  conv => whnf
  intro _
  conv => whnf
  refine ⟨show (0 : Int) ≤ 1 ∧ (1 : Int) < 2 from by decide, ?_⟩
  conv => whnf
  refine ⟨show (0 : Int) ≤ 1 ∧ (1 : Int) < 2 from by decide, ?_⟩
  conv => whnf
  intro _
  conv => whnf
  rw [gt1]
  refine call1 (num_PutI ((c.2.1).length : Int) (Int.natCast_nonneg _) (by have := hg.n2; omega)) rfl ?_
  conv => whnf
  have pn1 := putN_b ((c.2.1).length : Int) (by have := hg.n2; omega)
  refine ⟨by omega, ?_⟩
  conv => whnf
  intro _
  conv => whnf
  refine loop0 (α := Nat × List UInt8) (fun p => p.1 ≤ (c.2.1).length ∧ p.2 = s0 ++ Num.putN (c.2.1).length ++ txtB ((c.2.1).take p.1))
    (fun p => ⟨[(1, .c (.ptr 0 0)), (4, .c (.str p.2)), (22, .c (.row 1)), (23, .c (.int .i64 2)), (24, .c (.int .i64 1)), (34, .c (.dat SD c.2.1)), (35, .c (.int .i64 (c.2.1).length)), (36, .c (.int .i64 p.1))], [(0, .cells 29 (cc c)), (1, .row 25 (.list SD) [c.1, c.2.1])], 2⟩) (fun p => (c.2.1).length - p.1) ⟨(0, s0 ++ Num.putN ((c.2.1).length : Int).toNat), ⟨Nat.zero_le _, (List.append_nil _).symm⟩, ?_⟩ ?_
  · (conv => whnf); refine ⟨rfl, ?_, ?_, ?_⟩ <;> (repeat' apply And.intro) <;> first | exact trivial | rfl | exact wr_succ _ (by omega) | assumption | exact decide_eq_false (by assumption) | exact decide_eq_true (by assumption)
  rintro ⟨i, s1⟩ ⟨hI1, hJ1⟩
  dsimp only at hI1 hJ1 ⊢
  have hsl1 : (s1).length ≤ 900 := by
    have h5 := txtB_len (l := (c.2.1).take i) fun s hs => hg.t2 s (List.mem_of_mem_take hs)
    have h6 := hg.n2
    rw [List.length_take] at h5
    rw [Int.toNat_natCast] at pn1
    rw [hJ1]; simp only [List.length_append]; omega
  conv => whnf
  refine ⟨fun h2 => ?_, fun h2 => ?_⟩
  · have h2 : i < (c.2.1).length := by simp at h2; omega
    have h3 := nameS_len (hg.t2 _ (List.getElem_mem h2))
    have h4 := putT_b h3
    conv => whnf
    try (intro _; conv => whnf)
    refine ⟨by omega, ?_⟩
    rw [gt_nat (d := SD) (c.2.1) i h2]
    conv => whnf
    refine call1 (num_PutText _ (by omega)) rfl ?_
    conv => whnf
    refine ⟨by omega, ?_⟩
    conv => whnf
    refine ⟨(i + 1, s1 ++ Num.putT (c.2.1)[i]), ⟨⟨h2, ?_⟩, by dsimp only; omega⟩, ?_⟩
    · dsimp only
      rw [txtB_step h2, hJ1]; simp only [List.append_assoc]
    · (conv => whnf); refine ⟨rfl, ?_, ?_, ?_⟩ <;> (repeat' apply And.intro) <;> first | exact trivial | rfl | exact wr_succ _ (by omega) | assumption | exact decide_eq_false (by assumption) | exact decide_eq_true (by assumption)
  rw [List.take_of_length_le (by simp at h2; omega)] at hJ1
  clear h2
  conv => whnf
  refine fk rfl ?_
  conv => whnf
  intro _
  conv => whnf
  refine call1 (num_PutI ((c.2.2.1).length : Int) (Int.natCast_nonneg _) (by have := hg.n3; omega)) rfl ?_
  conv => whnf
  have pn2 := putN_b ((c.2.2.1).length : Int) (by have := hg.n3; omega)
  refine ⟨by omega, ?_⟩
  conv => whnf
  intro _
  conv => whnf
  refine loop0 (α := Nat × List UInt8) (fun p => p.1 ≤ (c.2.2.1).length ∧ p.2 = s1 ++ Num.putN (c.2.2.1).length ++ flB encS ((c.2.2.1).take p.1))
    (fun p => ⟨[(1, .c (.ptr 0 0)), (4, .c (.str p.2)), (54, .c (.dat RD c.2.2.1)), (55, .c (.int .i64 (c.2.2.1).length)), (56, .c (.int .i64 p.1))], [(0, .cells 29 (cc c))], 1⟩) (fun p => (c.2.2.1).length - p.1) ⟨(0, s1 ++ Num.putN ((c.2.2.1).length : Int).toNat), ⟨Nat.zero_le _, (List.append_nil _).symm⟩, ?_⟩ ?_
  · (conv => whnf); refine ⟨rfl, ?_, ?_, ?_⟩ <;> (repeat' apply And.intro) <;> first | exact trivial | rfl | exact wr_succ _ (by omega) | assumption | exact decide_eq_false (by assumption) | exact decide_eq_true (by assumption)
  rintro ⟨i2, s2⟩ ⟨hL1, hL2⟩
  dsimp only at hL1 hL2 ⊢
  have hs2 : (s2).length ≤ 4000 := by
    have h5 := flB_len encS 144 (l := (c.2.2.1).take i2) fun s hs => encS_len s
    have h6 := hg.n3
    rw [List.length_take] at h5
    rw [Int.toNat_natCast] at pn2
    rw [hL2]; simp only [List.length_append]; omega
  conv => whnf
  refine ⟨fun h2 => ?_, fun h2 => ?_⟩
  · have h2 : i2 < (c.2.2.1).length := by simp at h2; omega
    have h4 := encS_len c.2.2.1[i2]
    conv => whnf
    try (intro _; conv => whnf)
    refine ⟨by omega, ?_⟩
    rw [gt_nat (d := RD) c.2.2.1 i2 h2]
    conv => whnf
    refine call1 (rule_Encode c.2.2.1[i2]) rfl ?_
    conv => whnf
    refine ⟨by omega, ?_⟩
    conv => whnf
    refine ⟨(i2 + 1, s2 ++ encS (c.2.2.1)[i2]), ⟨⟨h2, ?_⟩, by dsimp only; omega⟩, ?_⟩
    · dsimp only
      rw [flB_step _ h2, hL2]; simp only [List.append_assoc]
    · (conv => whnf); refine ⟨rfl, ?_, ?_, ?_⟩ <;> (repeat' apply And.intro) <;> first | exact trivial | rfl | exact wr_succ _ (by omega) | assumption | exact decide_eq_false (by assumption) | exact decide_eq_true (by assumption)
  rw [List.take_of_length_le (by simp at h2; omega)] at hL2
  clear h2
  conv => whnf
  intro _
  conv => whnf
  refine call1 (num_PutI ((c.2.2.2.1).length : Int) (Int.natCast_nonneg _) (by have := hg.n4; omega)) rfl ?_
  conv => whnf
  have pn3 := putN_b ((c.2.2.2.1).length : Int) (by have := hg.n4; omega)
  refine ⟨by omega, ?_⟩
  conv => whnf
  intro _
  conv => whnf
  refine loop0 (α := Nat × List UInt8) (fun p => p.1 ≤ (c.2.2.2.1).length ∧ p.2 = s2 ++ Num.putN (c.2.2.2.1).length ++ flB ixB ((c.2.2.2.1).take p.1))
    (fun p => ⟨[(1, .c (.ptr 0 0)), (4, .c (.str p.2)), (77, .c (.dat ID c.2.2.2.1)), (78, .c (.int .i64 (c.2.2.2.1).length)), (79, .c (.int .i64 p.1))], [(0, .cells 29 (cc c))], 1⟩) (fun p => (c.2.2.2.1).length - p.1) ⟨(0, s2 ++ Num.putN ((c.2.2.2.1).length : Int).toNat), ⟨Nat.zero_le _, (List.append_nil _).symm⟩, ?_⟩ ?_
  · (conv => whnf); refine ⟨rfl, ?_, ?_, ?_⟩ <;> (repeat' apply And.intro) <;> first | exact trivial | rfl | exact wr_succ _ (by omega) | assumption | exact decide_eq_false (by assumption) | exact decide_eq_true (by assumption)
  rintro ⟨i3, s3⟩ ⟨hM1, hM2⟩
  dsimp only at hM1 hM2 ⊢
  have hs3 : (s3).length ≤ 6000 := by
    have h5 := flB_len ixB 52 (l := (c.2.2.2.1).take i3) fun x hx => by
      have := hg.il (List.mem_of_mem_take hx)
      have q1 := putT_b this.1
      have q2 := putT_b this.2
      unfold ixB; rw [List.length_append]; omega
    have h6 := hg.n4
    rw [List.length_take] at h5
    rw [Int.toNat_natCast] at pn3
    rw [hM2]; simp only [List.length_append]; omega
  conv => whnf
  refine ⟨fun h2 => ?_, fun h2 => ?_⟩
  · have h2 : i3 < (c.2.2.2.1).length := by simp at h2; omega
    have h4 := hg.il (List.getElem_mem h2)
    have q1 := putT_b h4.1
    have q2 := putT_b h4.2
    conv => whnf
    try (intro _; conv => whnf)
    refine ⟨by omega, ?_⟩
    rw [gt_nat (d := ID) c.2.2.2.1 i3 h2]
    conv => whnf
    refine any0 ?_
    conv => whnf
    refine callr0 (num_PutText c.2.2.2.1[i3].1 (by omega)) rfl ?_
    conv => whnf
    refine callr0 (num_PutText c.2.2.2.1[i3].2 (by omega)) rfl ?_
    conv => whnf
    refine ⟨by omega, ?_⟩
    conv => whnf
    refine ⟨by rw [List.length_append]; omega, ?_⟩
    conv => whnf
    refine ⟨.inl (by kernel_rfl), after0 ?_⟩
    conv => whnf
    refine ⟨(i3 + 1, s3 ++ ixB c.2.2.2.1[i3]), ⟨⟨h2, ?_⟩, by dsimp only; omega⟩, ?_⟩
    · dsimp only
      rw [flB_step _ h2, hM2]; simp only [List.append_assoc]
    · (conv => whnf); refine ⟨rfl, ?_, ?_, ?_⟩ <;> (repeat' apply And.intro) <;> first | exact trivial | rfl | exact wr_succ _ (by omega) | assumption | exact decide_eq_false (by assumption) | exact decide_eq_true (by assumption)
  rw [List.take_of_length_le (by simp at h2; omega)] at hM2
  clear h2
  conv => whnf
  refine call1 (num_PutI (show Int from c.2.2.2.2) (Int.le_trans (by decide) hg.x0) hg.x1) rfl ?_
  conv => whnf
  have pn4 := putN_b (show Int from c.2.2.2.2) hg.x1
  refine ⟨by omega, ?_⟩
  conv => whnf
  rw [hM2, hL2, hJ1, hJ0]
  unfold catB'
  simp only [List.append_assoc, List.nil_append]
end Go.Proofs.Ytnldokebmfojeaa
/- The walk of the reference's Decode of rules. Own work; written by gendec2.py. -/
set_option linter.unusedVariables false
set_option maxRecDepth 100000
set_option maxHeartbeats 2000000
namespace Go.Proofs.Ytnldokebmfojeaa
open Go Go.RowKit OE

def decA (o : Option (RD.T × Nat)) : SV := .agg (rc (o.getD (R0, 0)).1 ++ [.int .i64 ((o.getD (R0, 0)).2 : Nat), .bool (.sym o.isSome)])

end Go.Proofs.Ytnldokebmfojeaa
/- The walks of the readers' methods, cat's and the reference's. Own work. -/
set_option linter.unusedVariables false
set_option maxRecDepth 100000
namespace Go.Proofs.Ytnldokebmfojeaa
open Go Go.RowKit OE

/-- a number that is read: it, the place behind it, and whether something was bad -/
def numA (s : List UInt8) (most a : Nat) (bad : Bool) : Nat × Nat × Bool :=
  match bad, Num.getN s a with
  | false, some p => if p.1 ≤ most then (p.1, a + p.2, false) else (0, a, true)
  | _, _ => (0, a, true)
def txA (s : List UInt8) (a : Nat) (bad : Bool) : List UInt8 × Nat × Bool :=
  match bad, Num.getT s a 16 with
  | false, some p => (p.1, a + p.2, false)
  | _, _ => ([], a, true)
theorem numA_bad {s : List UInt8} {most a : Nat} {bad : Bool} (h : (bad || !(Num.getN s a).isSome || decide ((most : Int) < (((Num.getN s a).getD (0, 0)).1 : Nat))) = true) : numA s most a bad = (0, a, true) := by
  unfold numA
  cases bad with
  | true => rfl
  | false =>
    cases hg : Num.getN s a with
    | none => rfl
    | some p =>
      rw [hg] at h
      simp at h
      exact if_neg (by omega)
theorem numA_ok {s : List UInt8} {most a : Nat} {bad : Bool} (h : (bad || !(Num.getN s a).isSome || decide ((most : Int) < (((Num.getN s a).getD (0, 0)).1 : Nat))) = false) : bad = false ∧ ∃ n k, Num.getN s a = some (n, k) ∧ n ≤ most ∧ numA s most a bad = (n, a + k, false) := by
  cases bad with
  | true => simp at h
  | false =>
    cases hg : Num.getN s a with
    | none => rw [hg] at h; simp at h
    | some p =>
      rw [hg] at h
      simp at h
      exact ⟨rfl, p.1, p.2, rfl, by omega, by unfold numA; rw [hg]; exact if_pos (by omega)⟩
theorem txA_bad {s : List UInt8} {a : Nat} {bad : Bool} (h : (bad || !(Num.getT s a 16).isSome) = true) : txA s a bad = ([], a, true) := by
  unfold txA
  cases bad with
  | true => rfl
  | false =>
    cases hg : Num.getT s a 16 with
    | none => rfl
    | some p => rw [hg] at h; simp at h
theorem txA_ok {s : List UInt8} {a : Nat} {bad : Bool} (h : (bad || !(Num.getT s a 16).isSome) = false) : bad = false ∧ ∃ t k, Num.getT s a 16 = some (t, k) ∧ txA s a bad = (t, a + k, false) := by
  cases bad with
  | true => simp at h
  | false =>
    cases hg : Num.getT s a 16 with
    | none => rw [hg] at h; simp at h
    | some p => exact ⟨rfl, p.1, p.2, rfl, by unfold txA; rw [hg]⟩
abbrev rdC (s : List UInt8) (a : Nat) (bad : Bool) : List C := [.str s, .int .i64 a, .bool (.sym bad)]

theorem cat_number (s : List UInt8) (most a : Nat) (bad : Bool) (hs : s.length ≤ 100000000) (hm : most ≤ 1000000) (ha : a ≤ 100000000) :
    FnH Try.prog 51 [.c (.ptr 0 0), .c (.int .i64 most)] 108 (rdC s a bad) (.c (.int .i64 (numA s most a bad).1)) (rdC s (numA s most a bad).2.1 (numA s most a bad).2.2) := by
  refine fnH noI Try.func51 rfl rfl rfl ?_
  conv => whnf
  refine any0 ?_
  conv => whnf
  refine callr0 (num_Get s a (by omega)) rfl ?_
  conv => whnf
  refine ⟨.inl (by kernel_rfl), after0 ?_⟩
  conv => whnf
  rw [show IntKind.wrap .u64 (most : Int) = (most : Int) from by rw [wru64 _ (by omega) (by omega)]]
  refine ⟨fun h1 => ?_, fun h1 => ?_⟩
  · rw [numA_bad h1]
    conv => whnf
    exact ⟨rfl, ⟨rfl, rfl, trivial⟩, trivial, ⟨rfl, rfl, rfl, trivial⟩, trivial⟩
  · obtain ⟨rfl, n, k, hg, hn, e⟩ := numA_ok h1
    have hb := Num.getN_bd hg
    rw [e]
    rw [hg]
    conv => whnf
    exact ⟨rfl, ⟨(wr64 (n : Int) (by omega) (by omega)).symm, rfl, trivial⟩, trivial, ⟨rfl, by
      show ((a + k : Nat) : Int) = IntKind.wrap .i64 ((a : Int) + (k : Int))
      rw [wr64 _ (by omega) (by omega)]; omega, rfl, trivial⟩, trivial⟩
theorem cat_name (s : List UInt8) (a : Nat) (bad : Bool) (hs : s.length ≤ 100000000) (ha : a ≤ 100000000) :
    FnH Try.prog 52 [.c (.ptr 0 0)] 108 (rdC s a bad) (.c (.str (txA s a bad).1)) (rdC s (txA s a bad).2.1 (txA s a bad).2.2) := by
  refine fnH noI Try.func52 rfl rfl rfl ?_
  conv => whnf
  refine any0 ?_
  conv => whnf
  refine callr0 (num_GetText s a 16 (by omega) (by omega)) rfl ?_
  conv => whnf
  refine ⟨.inl (by kernel_rfl), after0 ?_⟩
  conv => whnf
  refine ⟨fun h1 => ?_, fun h1 => ?_⟩
  · rw [txA_bad h1]
    conv => whnf
    exact ⟨rfl, ⟨rfl, rfl, trivial⟩, trivial, ⟨rfl, rfl, rfl, trivial⟩, trivial⟩
  · obtain ⟨rfl, t, k, hg, e⟩ := txA_ok h1
    have hb := gt_bd hg
    rw [e]
    rw [hg]
    conv => whnf
    exact ⟨rfl, ⟨rfl, rfl, trivial⟩, trivial, ⟨rfl, by
      show ((a + k : Nat) : Int) = IntKind.wrap .i64 ((a : Int) + (k : Int))
      rw [wr64 _ (by omega) (by omega)]; omega, rfl, trivial⟩, trivial⟩
/-- at the start -/
theorem cat_number0 (s : List UInt8) (hs : s.length ≤ 100000000) :
    FnH Try.prog 51 [.c (.ptr 0 0), .c (.int .i64 16)] 108 [.str s, .int .i64 0, .bool .ff] (.c (.int .i64 (numA s 16 0 false).1)) (rdC s (numA s 16 0 false).2.1 (numA s 16 0 false).2.2) := by
  refine fnH noI Try.func51 rfl rfl rfl ?_
  conv => whnf
  refine any0 ?_
  conv => whnf
  refine callr0 (num_Get s 0 (by omega)) rfl ?_
  conv => whnf
  refine ⟨.inl (by kernel_rfl), after0 ?_⟩
  conv => whnf
  refine ⟨fun h1 => ?_, fun h1 => ?_⟩
  · rw [numA_bad (most := 16) (a := 0) (bad := false) h1]
    conv => whnf
    exact ⟨rfl, ⟨rfl, rfl, trivial⟩, trivial, ⟨rfl, rfl, rfl, trivial⟩, trivial⟩
  · obtain ⟨_, n, k, hg, hn, e⟩ := numA_ok (most := 16) (a := 0) (bad := false) h1
    have hg : Num.getN s 0 = some (n, k) := hg
    have hb := Num.getN_bd hg
    rw [e]
    rw [hg]
    conv => whnf
    exact ⟨rfl, ⟨(wr64 (n : Int) (by omega) (by omega)).symm, rfl, trivial⟩, trivial, ⟨rfl, by
      show ((0 + k : Nat) : Int) = IntKind.wrap .i64 ((0 : Int) + (k : Int))
      rw [wr64 _ (by omega) (by omega)]; omega, rfl, trivial⟩, trivial⟩
end Go.Proofs.Ytnldokebmfojeaa
/- The empty catalog; a result that is a catalog, or one whose lists are nil. Own work. -/
set_option linter.unusedVariables false
set_option maxRecDepth 100000
namespace Go.Proofs.Ytnldokebmfojeaa
open Go Go.RowKit OE

def C0 : CD.T := CD.df
/-- the catalog's cells where all its lists are nil -/
abbrev cn : List C := [.val (.slice none 0 0), .val (.slice none 0 0), .val (.slice none 0 0), .val (.slice none 0 0), .int .i64 0]
def catT (c : CD.T) (rest : List (Bool × List C)) (r : SV) : Prop := r = .tup ((true, cc c) :: rest) ∨ (c = C0 ∧ r = .tup ((true, cn) :: rest))
theorem nilC {w : World} {ok : Nat → Prop} {d : D} {v : Value} (h : RC (DX w ok) (.val (.slice none 0 0)) v) : RC (DX w ok) (.dat d []) v := nilA v h
theorem FnD.cat {P : Program} {f : Nat} {args : List SV} {c : CD.T} {rest : List (Bool × List C)} (h : FnD P f args (catT c rest)) : FnD P f args (· = .tup ((true, cc c) :: rest)) :=
  h.res fun r hr w ok v hv => by
    rcases hr with rfl | ⟨rfl, rfl⟩
    · exact hv
    · obtain ⟨vs, e, hl⟩ := hv
      refine ⟨vs, e, ?_⟩
      generalize vs.toList = m at hl
      cases m with
      | nil => exact hl.elim
      | cons x m =>
        refine ⟨?_, hl.2⟩
        have h1 := hl.1
        unfold RP at h1 ⊢
        simp only [if_true] at h1 ⊢
        obtain ⟨us, e2, hl2⟩ := h1
        refine ⟨us, e2, ?_⟩
        generalize us.toList = n at hl2
        match n, hl2 with
        | [a, b, c, d, e], ⟨h1, h2, h3, h4, h5, _⟩ => exact ⟨nilC h1, nilC h2, nilC h3, nilC h4, h5, trivial⟩
end Go.Proofs.Ytnldokebmfojeaa
/- The catalog of bytes; the walk of cat.Decode. Own work. -/
set_option linter.unusedVariables false
set_option maxRecDepth 100000
namespace Go.Proofs.Ytnldokebmfojeaa
open Go Go.RowKit OE

/-! what is still to be read, as a continuation -/
def numK (s : List UInt8) (most a : Nat) (K : Nat → Nat → Option CD.T) : Option CD.T := match Num.getN s a with | none => none | some p => if p.1 ≤ most then K p.1 (a + p.2) else none
def namK (s : List UInt8) : Nat → Nat → List SD.T → (List SD.T → Nat → Option CD.T) → Option CD.T
  | 0, a, l, K => K l a
  | n + 1, a, l, K => match Num.getT s a 16 with | none => none | some p => namK s n (a + p.2) (l ++ [p.1]) K
def rulK (s : List UInt8) : Nat → Nat → List RD.T → (List RD.T → Nat → Option CD.T) → Option CD.T
  | 0, a, l, K => K l a
  | n + 1, a, l, K => match decS s a with | none => none | some p => rulK s n (a + p.2) (l ++ [p.1]) K
def ixK (s : List UInt8) : Nat → Nat → List ID.T → (List ID.T → Nat → Option CD.T) → Option CD.T
  | 0, a, l, K => K l a
  | n + 1, a, l, K => match Num.getT s a 16 with
    | none => none
    | some p => match Num.getT s (a + p.2 : Nat) 16 with
      | none => none
      | some q => ixK s n (a + p.2 + q.2) (l ++ [(p.1, q.1)]) K
def finK (s : List UInt8) (l1 l2 : List SD.T) (rs : List RD.T) (is : List ID.T) (nx a : Nat) : Option CD.T :=
  if a = s.length ∧ goodC (l1, l2, rs, is, ((nx : Nat) : Int)) = true then some (l1, l2, rs, is, ((nx : Nat) : Int)) else none
def k9 (s l1 l2 rs is) (a : Nat) := numK s 1000000 a fun nx a => finK s l1 l2 rs is nx a
def k8 (s l1 l2 rs) (n a : Nat) (l : List ID.T) := ixK s n a l fun is a => k9 s l1 l2 rs is a
def k7 (s l1 l2 rs) (a : Nat) := numK s 16 a fun n a => k8 s l1 l2 rs n a []
def k6 (s l1 l2) (n a : Nat) (l : List RD.T) := rulK s n a l fun rs a => k7 s l1 l2 rs a
def k5 (s l1 l2) (a : Nat) := numK s 16 a fun n a => k6 s l1 l2 n a []
def k4 (s l1) (n a : Nat) (l : List SD.T) := namK s n a l fun l2 a => k5 s l1 l2 a
def k3 (s l1) (a : Nat) := numK s 16 a fun n a => k4 s l1 n a []
def k2 (s) (n a : Nat) (l : List SD.T) := namK s n a l fun l1 a => k3 s l1 a
def decO (s : List UInt8) : Option CD.T := numK s 16 0 fun n a => k2 s n a []
def decCS (s : List UInt8) : CD.T := (decO s).getD C0
def decCE (s : List UInt8) : Int := if (decO s).isSome then 0 else 11

/-- what is known while it is read -/
structure Inv (D X : Option CD.T) (len a : Nat) (bad : Bool) : Prop where
  le : a ≤ len
  ok : bad = false → X = D
  no : bad = true → D = none
theorem numA_le (s : List UInt8) (most a : Nat) (bad : Bool) : (numA s most a bad).1 ≤ most := by
  unfold numA
  split
  · split
    · assumption
    · exact Nat.zero_le _
  · exact Nat.zero_le _
theorem num_inv {s : List UInt8} {D : Option CD.T} {most a : Nat} {bad : Bool} {K : Nat → Nat → Option CD.T} (h : Inv D (numK s most a K) s.length a bad) :
    Inv D (K (numA s most a bad).1 (numA s most a bad).2.1) s.length (numA s most a bad).2.1 (numA s most a bad).2.2 := by
  obtain ⟨h1, h2, h3⟩ := h
  unfold numA
  cases bad with
  | true => exact ⟨h1, fun e => (by cases e), h3⟩
  | false =>
    have h2 := h2 rfl
    unfold numK at h2
    cases hg : Num.getN s a with
    | none => rw [hg] at h2; exact ⟨h1, fun e => (by cases e), fun _ => h2.symm⟩
    | some p =>
      rw [hg] at h2
      dsimp only at h2 ⊢
      have hb := Num.getN_bd (m := p.1) (k := p.2) hg
      split at h2
      · rename_i hle
        rw [if_pos hle]
        exact ⟨by dsimp only; omega, fun _ => h2, fun e => (by cases e)⟩
      · rename_i hle
        rw [if_neg hle]
        exact ⟨h1, fun e => (by cases e), fun _ => h2.symm⟩
theorem nam_inv {s : List UInt8} {D : Option CD.T} {n a : Nat} {bad : Bool} {l : List SD.T} {K : List SD.T → Nat → Option CD.T} (h : Inv D (namK s (n + 1) a l K) s.length a bad) :
    Inv D (namK s n (txA s a bad).2.1 (l ++ [(txA s a bad).1]) K) s.length (txA s a bad).2.1 (txA s a bad).2.2 := by
  obtain ⟨h1, h2, h3⟩ := h
  unfold txA
  cases bad with
  | true => exact ⟨h1, fun e => (by cases e), h3⟩
  | false =>
    have h2 := h2 rfl
    unfold namK at h2
    cases hg : Num.getT s a 16 with
    | none => rw [hg] at h2; exact ⟨h1, fun e => (by cases e), fun _ => h2.symm⟩
    | some p =>
      rw [hg] at h2
      have hb := gt_bd (t := p.1) (i := p.2) hg
      exact ⟨by dsimp only; omega, fun _ => h2, fun e => (by cases e)⟩
theorem wr_nn (a k : Nat) (h : a + k ≤ 100000000) : IntKind.wrap .i64 ((a : Int) + (k : Int)) = ((a + k : Nat) : Int) := by
  rw [wr64 _ (by omega) (by omega)]; omega
theorem txA_le {s : List UInt8} (n a : Nat) (bad : Bool) (h : a ≤ n) (hn : n = s.length := by rfl) : (txA s a bad).2.1 ≤ n := by
  unfold txA
  split
  · rename_i p hg
    have hb := gt_bd (t := p.1) (i := p.2) hg
    dsimp only; omega
  · exact h
theorem decS_bd {s : List UInt8} {a : Nat} {r : RD.T} {n : Nat} (h : decS s a = some (r, n)) : a + n ≤ s.length := by
  unfold decS at h
  split at h
  · cases h
  rename_i p hp
  split at h
  · cases h
    unfold decP at hp
    split at hp
    · cases hp
    split at hp
    · cases hp
    split at hp
    · cases hp
    split at hp
    · cases hp
    split at hp
    · cases hp
    split at hp
    · cases hp
    split at hp
    · cases hp
    split at hp
    · cases hp
    rename_i h8
    cases hp
    have := gt_bd h8
    omega
  · cases h
theorem lit_ok (n : Int) (h0 : 0 ≤ n) (h1 : n ≤ 1000000) : (Lit.int .i64 n).wf = true := by
  have h2 : -9223372036854775808 ≤ n := by omega
  have h3 : n ≤ 9223372036854775807 := by omega
  simpa [Lit.wf, IntKind.min, IntKind.max, IntKind.bits, IntKind.signed] using ⟨h2, h3⟩
theorem decS_wf (s : List UInt8) (a : Nat) : Wf RD ((decS s a).getD (R0, 0)).1 := by
  cases h : decS s a with
  | none => exact ⟨by decide, by decide, by decide, by decide, by decide, by decide, by decide, by decide⟩
  | some p =>
    have hok : okS p.1 = true := by
      unfold decS at h
      split at h
      · cases h
      · split at h
        · rename_i h1; cases h; exact h1
        · cases h
    obtain ⟨i0, i1, k0, k1, n0, n1, s0, s1, t0, t1, t2, t3⟩ := okR hok
    exact ⟨lit_ok _ i0 i1, lit_ok _ (Int.le_trans (by decide) k0) (Int.le_trans k1 (by decide)), Nat.le_trans t0 (by decide), Nat.le_trans t1 (by decide), Nat.le_trans t2 (by decide), Nat.le_trans t3 (by decide), lit_ok _ n0 (Int.le_trans n1 (by decide)), lit_ok _ s0 (Int.le_trans s1 (by decide))⟩
theorem rul_inv {s : List UInt8} {D : Option CD.T} {n a : Nat} {bad : Bool} {l : List RD.T} {K : List RD.T → Nat → Option CD.T} (h : Inv D (rulK s (n + 1) a l K) s.length a bad) :
    Inv D (rulK s n (a + ((decS s a).getD (R0, 0)).2) (l ++ [((decS s a).getD (R0, 0)).1]) K) s.length (a + ((decS s a).getD (R0, 0)).2) (bad || !(decS s a).isSome) := by
  obtain ⟨h1, h2, h3⟩ := h
  unfold rulK at h2
  cases hg : decS s a with
  | none =>
    rw [hg] at h2
    refine ⟨h1, fun e => by simp at e, fun _ => ?_⟩
    cases bad with
    | true => exact h3 rfl
    | false => exact (h2 rfl).symm
  | some p =>
    rw [hg] at h2
    have hb := decS_bd (r := p.1) (n := p.2) hg
    refine ⟨hb, fun e => ?_, fun e => ?_⟩
    · cases bad with
      | true => simp at e
      | false => exact h2 rfl
    · cases bad with
      | true => exact h3 rfl
      | false => simp at e
theorem ix_inv {s : List UInt8} {D : Option CD.T} {n a : Nat} {bad : Bool} {l : List ID.T} {K : List ID.T → Nat → Option CD.T} (h : Inv D (ixK s (n + 1) a l K) s.length a bad) :
    Inv D (ixK s n (txA s (txA s a bad).2.1 (txA s a bad).2.2).2.1 (l ++ [((txA s a bad).1, (txA s (txA s a bad).2.1 (txA s a bad).2.2).1)]) K) s.length (txA s (txA s a bad).2.1 (txA s a bad).2.2).2.1 (txA s (txA s a bad).2.1 (txA s a bad).2.2).2.2 := by
  obtain ⟨h1, h2, h3⟩ := h
  have hbad : ∀ a, txA s a true = ([], a, true) := fun a => rfl
  cases bad with
  | true => rw [hbad, hbad]; exact ⟨h1, fun e => (by cases e), h3⟩
  | false =>
    have h2 := h2 rfl
    unfold ixK at h2
    cases hg : Num.getT s a 16 with
    | none =>
      rw [hg] at h2
      rw [show txA s a false = ([], a, true) by unfold txA; rw [hg], hbad]
      exact ⟨h1, fun e => (by cases e), fun _ => h2.symm⟩
    | some p =>
      rw [hg] at h2
      dsimp only at h2
      have hb := gt_bd (t := p.1) (i := p.2) hg
      rw [show txA s a false = (p.1, a + p.2, false) by unfold txA; rw [hg]]
      dsimp only
      cases hg2 : Num.getT s (a + p.2 : Nat) 16 with
      | none =>
        rw [hg2] at h2
        rw [show txA s (a + p.2) false = ([], a + p.2, true) by unfold txA; rw [hg2]]
        exact ⟨by dsimp only; omega, fun e => (by cases e), fun _ => h2.symm⟩
      | some q =>
        rw [hg2] at h2
        dsimp only at h2
        have hb2 := gt_bd (t := q.1) (i := q.2) hg2
        rw [show txA s (a + p.2) false = (q.1, a + p.2 + q.2, false) by unfold txA; rw [hg2]]
        exact ⟨by dsimp only; omega, fun _ => h2, fun e => (by cases e)⟩

abbrev hpD (s : List UInt8) (a : Nat) (bad : Bool) (l1 l2 : List SD.T) (rs : List RD.T) (is : List ID.T) : List (Nat × Ob) :=
  [(0, .cells 29 cn), (1, .cells 108 (rdC s a bad)), (2, .cells 29 [.row 4, .row 5, .row 6, .row 7, .int .i64 0]), (3, .cells 109 [.ptr 2 0, .ptr 2 1]),
   (4, .row 9 SD l1), (5, .row 9 SD l2), (6, .row 92 RD rs), (7, .row 94 ID is)]
abbrev hpE (s : List UInt8) (a : Nat) (bad : Bool) (l1 l2 : List SD.T) (rs : List RD.T) (is : List ID.T) : List (Nat × Ob) :=
  [(0, .cells 29 cn), (1, .cells 108 (rdC s a bad)), (2, .cells 29 [.row 4, .row 5, .row 6, .row 7, .int .i64 0]),
   (4, .row 9 SD l1), (5, .row 9 SD l2), (6, .row 92 RD rs), (7, .row 94 ID is)]
theorem cat_Decode (s : List UInt8) (hs : s.length ≤ 100000000) : FnD Try.prog 31 [.c (.str s)] (· = .tup [(true, cc (decCS s)), (false, [.int .i64 (decCE s)])]) := by
  refine FnD.cat ?_
  refine fn0 Try.func31 rfl rfl rfl ?_
  conv => whnf
  refine nilrl0 2 0 9 SD rfl rfl ?_
  conv => whnf
  refine nilrl0 2 1 9 SD rfl rfl ?_
  conv => whnf
  refine nilrl0 2 2 92 RD rfl rfl ?_
  conv => whnf
  refine nilrl0 2 3 94 ID rfl rfl ?_
  conv => whnf
  refine unroll0 3 ?_
  conv => whnf
  refine tk rfl ?_
  conv => whnf
  refine callh0 1 rfl ((cat_number0 s hs)) rfl rfl rfl rfl ?_
  conv => whnf
  have h0 : Inv (decO s) (k2 s (numA s 16 0 false).1 (numA s 16 0 false).2.1 []) s.length (numA s 16 0 false).2.1 (numA s 16 0 false).2.2 := num_inv ⟨Nat.zero_le _, fun _ => rfl, fun e => (by cases e)⟩
  have v0 := numA_le s 16 0 false
  generalize numA s 16 0 false = r at h0 v0
  obtain ⟨n0, a0, b0⟩ := r
  dsimp only at h0 v0 ⊢
  refine loop0 (α := Nat × Nat × Bool × List SD.T) (fun p => p.1 ≤ n0 ∧ p.2.2.2.length = p.1 ∧ Inv (decO s) (k2 s (n0 - p.1) p.2.1 p.2.2.2) s.length p.2.1 p.2.2.1)
    (fun p => ⟨[(0, .c (.str s)), (2, .c (.ptr 0 0)), (4, .c (.ptr 1 0)), (5, .c (.ptr 2 0)), (7, .c (.ptr 2 0)), (17, .c (.csl 3 2)), (18, .c (.int .i64 2)), (19, .c (.int .i64 0)), (24, .c (.int .i64 n0)), (25, .c (.int .i64 p.1))], hpD s p.2.1 p.2.2.1 p.2.2.2 [] [] [], 8⟩) (fun p => n0 - p.1) ⟨(0, a0, b0, []), ⟨Nat.zero_le _, rfl, h0⟩, ?_⟩ ?_
  · (conv => whnf); refine ⟨rfl, ?_, ?_, ?_⟩ <;> (repeat' apply And.intro) <;> first | exact trivial | rfl | exact wr_succ _ (by omega) | assumption | exact decide_eq_false (by assumption) | exact decide_eq_true (by assumption)
  clear h0
  rintro ⟨i, e0, c0, l0⟩ ⟨hI1, hn0, hv0⟩
  dsimp only at hI1 hn0 hv0 ⊢
  have ha0 := hv0.le
  conv => whnf
  refine ⟨fun h2 => ?_, fun h2 => ?_⟩
  · have h2 : i < n0 := by simp at h2; omega
    rw [show n0 - i = (n0 - (i + 1)) + 1 by omega] at hv0
    have hI4 := nam_inv (K := (k3 s)) hv0
    conv => whnf
    refine any0 ?_
    conv => whnf
    refine callrh0 1 rfl ((cat_name s e0 c0 hs (by omega))) rfl rfl rfl rfl ?_
    conv => whnf
    refine ⟨by show (l0.length + 1) * 16 ≤ 140737488355328; omega, ?_⟩
    conv => whnf
    refine ⟨.inl (by kernel_rfl), after0 ?_⟩
    conv => whnf
    refine ⟨(i + 1, (txA s e0 c0).2.1, (txA s e0 c0).2.2, l0 ++ [(txA s e0 c0).1]), ⟨⟨h2, by dsimp only; rw [List.length_append, hn0]; rfl, hI4⟩, by dsimp only; omega⟩, ?_⟩
    (conv => whnf); refine ⟨rfl, ?_, ?_, ?_⟩ <;> (repeat' apply And.intro) <;> first | exact trivial | rfl | exact wr_succ _ (by omega) | assumption | exact decide_eq_false (by assumption) | exact decide_eq_true (by assumption)
  rw [show n0 - i = 0 by simp at h2; omega] at hv0
  clear h2 hI1
  conv => whnf
  refine tk rfl ?_
  conv => whnf
  refine callh0 1 rfl ((cat_number s 16 e0 c0 hs (by omega) (by omega))) rfl rfl rfl rfl ?_
  conv => whnf
  have h1 : Inv (decO s) (k4 s l0 (numA s 16 e0 c0).1 (numA s 16 e0 c0).2.1 []) s.length (numA s 16 e0 c0).2.1 (numA s 16 e0 c0).2.2 := num_inv (K := fun n a => k4 s l0 n a []) hv0
  have v1 := numA_le s 16 e0 c0
  generalize numA s 16 e0 c0 = r at h1 v1
  obtain ⟨n1, a1, b1⟩ := r
  dsimp only at h1 v1 ⊢
  refine loop0 (α := Nat × Nat × Bool × List SD.T) (fun p => p.1 ≤ n1 ∧ p.2.2.2.length = p.1 ∧ Inv (decO s) (k4 s l0 (n1 - p.1) p.2.1 p.2.2.2) s.length p.2.1 p.2.2.1)
    (fun p => ⟨[(0, .c (.str s)), (2, .c (.ptr 0 0)), (4, .c (.ptr 1 0)), (5, .c (.ptr 2 0)), (7, .c (.ptr 2 1)), (17, .c (.csl 3 2)), (18, .c (.int .i64 2)), (19, .c (.int .i64 1)), (24, .c (.int .i64 n1)), (25, .c (.int .i64 p.1))], hpD s p.2.1 p.2.2.1 l0 p.2.2.2 [] [], 8⟩) (fun p => n1 - p.1) ⟨(0, a1, b1, []), ⟨Nat.zero_le _, rfl, h1⟩, ?_⟩ ?_
  · (conv => whnf); refine ⟨rfl, ?_, ?_, ?_⟩ <;> (repeat' apply And.intro) <;> first | exact trivial | rfl | exact wr_succ _ (by omega) | assumption | exact decide_eq_false (by assumption) | exact decide_eq_true (by assumption)
  clear h1
  rintro ⟨i, e1, c1, l1⟩ ⟨hI1, hn1, hv1⟩
  dsimp only at hI1 hn1 hv1 ⊢
  have ha1 := hv1.le
  conv => whnf
  refine ⟨fun h2 => ?_, fun h2 => ?_⟩
  · have h2 : i < n1 := by simp at h2; omega
    rw [show n1 - i = (n1 - (i + 1)) + 1 by omega] at hv1
    have hI4 := nam_inv (K := (k5 s l0)) hv1
    conv => whnf
    refine any0 ?_
    conv => whnf
    refine callrh0 1 rfl ((cat_name s e1 c1 hs (by omega))) rfl rfl rfl rfl ?_
    conv => whnf
    refine ⟨by show (l1.length + 1) * 16 ≤ 140737488355328; omega, ?_⟩
    conv => whnf
    refine ⟨.inl (by kernel_rfl), after0 ?_⟩
    conv => whnf
    refine ⟨(i + 1, (txA s e1 c1).2.1, (txA s e1 c1).2.2, l1 ++ [(txA s e1 c1).1]), ⟨⟨h2, by dsimp only; rw [List.length_append, hn1]; rfl, hI4⟩, by dsimp only; omega⟩, ?_⟩
    (conv => whnf); refine ⟨rfl, ?_, ?_, ?_⟩ <;> (repeat' apply And.intro) <;> first | exact trivial | rfl | exact wr_succ _ (by omega) | assumption | exact decide_eq_false (by assumption) | exact decide_eq_true (by assumption)
  rw [show n1 - i = 0 by simp at h2; omega] at hv1
  clear h2 hI1
  conv => whnf
  refine fk rfl ?_
  conv => whnf
  refine callh0 1 rfl ((cat_number s 16 e1 c1 hs (by omega) (by omega))) rfl rfl rfl rfl ?_
  conv => whnf
  have h2 : Inv (decO s) (k6 s l0 l1 (numA s 16 e1 c1).1 (numA s 16 e1 c1).2.1 []) s.length (numA s 16 e1 c1).2.1 (numA s 16 e1 c1).2.2 := num_inv (K := fun n a => k6 s l0 l1 n a []) hv1
  have v2 := numA_le s 16 e1 c1
  generalize numA s 16 e1 c1 = r at h2 v2
  obtain ⟨n2, a2, b2⟩ := r
  dsimp only at h2 v2 ⊢
  refine loop0 (α := Nat × Nat × Bool × List RD.T) (fun p => p.1 ≤ n2 ∧ p.2.2.2.length = p.1 ∧ Inv (decO s) (k6 s l0 l1 (n2 - p.1) p.2.1 p.2.2.2) s.length p.2.1 p.2.2.1 ∧ ∀ r ∈ p.2.2.2, Wf RD r)
    (fun p => ⟨[(0, .c (.str s)), (2, .c (.ptr 0 0)), (4, .c (.ptr 1 0)), (5, .c (.ptr 2 0)), (39, .c (.int .i64 n2)), (40, .c (.int .i64 p.1))], hpE s p.2.1 p.2.2.1 l0 l1 p.2.2.2 [], 8⟩) (fun p => n2 - p.1) ⟨(0, a2, b2, []), ⟨Nat.zero_le _, rfl, h2, fun r hr => by cases hr⟩, ?_⟩ ?_
  · (conv => whnf); refine ⟨rfl, ?_, ?_, ?_⟩ <;> (repeat' apply And.intro) <;> first | exact trivial | rfl | exact wr_succ _ (by omega) | assumption | exact decide_eq_false (by assumption) | exact decide_eq_true (by assumption)
  clear h2
  rintro ⟨i, e2, c2, l2⟩ ⟨hI1, hn2, hv2, hw2⟩
  dsimp only at hI1 hn2 hv2 hw2 ⊢
  have ha2 := hv2.le
  conv => whnf
  refine ⟨fun h2 => ?_, fun h2 => ?_⟩
  · have h2 : i < n2 := by simp at h2; omega
    rw [show n2 - i = (n2 - (i + 1)) + 1 by omega] at hv2
    conv => whnf
    refine call1 (rule_Decode s e2 (by omega)) rfl ?_
    conv => whnf
    have hv3 := rul_inv (K := k7 s l0 l1) hv2
    have hle := hv3.le
    rw [wr_nn e2 _ (by omega)]
    refine ⟨by show (l2.length + 1) * 96 ≤ 140737488355328; omega, ?_⟩
    conv => whnf
    refine ⟨(i + 1, e2 + ((decS s e2).getD (R0, 0)).2, (c2 || !(decS s e2).isSome), l2 ++ [((decS s e2).getD (R0, 0)).1]), ⟨⟨h2, by dsimp only; rw [List.length_append, hn2]; rfl, hv3, fun r hr => by
      rcases List.mem_append.1 hr with hr | hr
      · exact hw2 r hr
      · rw [List.mem_singleton.1 hr]; exact decS_wf s e2⟩, by dsimp only; omega⟩, ?_⟩
    (conv => whnf); refine ⟨rfl, ?_, ?_, ?_⟩ <;> (repeat' apply And.intro) <;> first | exact trivial | rfl | exact wr_succ _ (by omega) | assumption | exact decide_eq_false (by assumption) | exact decide_eq_true (by assumption)
  rw [show n2 - i = 0 by simp at h2; omega] at hv2
  have hq2 : l2.length ≤ 16 := by omega
  clear h2 hI1
  conv => whnf
  refine callh0 1 rfl ((cat_number s 16 e2 c2 hs (by omega) (by omega))) rfl rfl rfl rfl ?_
  conv => whnf
  have h3 : Inv (decO s) (k8 s l0 l1 l2 (numA s 16 e2 c2).1 (numA s 16 e2 c2).2.1 []) s.length (numA s 16 e2 c2).2.1 (numA s 16 e2 c2).2.2 := num_inv (K := fun n a => k8 s l0 l1 l2 n a []) hv2
  have v3 := numA_le s 16 e2 c2
  generalize numA s 16 e2 c2 = r at h3 v3
  obtain ⟨n3, a3, b3⟩ := r
  dsimp only at h3 v3 ⊢
  refine loop0 (α := Nat × Nat × Bool × List ID.T) (fun p => p.1 ≤ n3 ∧ p.2.2.2.length = p.1 ∧ Inv (decO s) (k8 s l0 l1 l2 (n3 - p.1) p.2.1 p.2.2.2) s.length p.2.1 p.2.2.1)
    (fun p => ⟨[(0, .c (.str s)), (2, .c (.ptr 0 0)), (4, .c (.ptr 1 0)), (5, .c (.ptr 2 0)), (79, .c (.int .i64 n3)), (80, .c (.int .i64 p.1))], hpE s p.2.1 p.2.2.1 l0 l1 l2 p.2.2.2, 8⟩) (fun p => n3 - p.1) ⟨(0, a3, b3, []), ⟨Nat.zero_le _, rfl, h3⟩, ?_⟩ ?_
  · (conv => whnf); refine ⟨rfl, ?_, ?_, ?_⟩ <;> (repeat' apply And.intro) <;> first | exact trivial | rfl | exact wr_succ _ (by omega) | assumption | exact decide_eq_false (by assumption) | exact decide_eq_true (by assumption)
  clear h3
  rintro ⟨i, e3, c3, l3⟩ ⟨hI1, hn3, hv3⟩
  dsimp only at hI1 hn3 hv3 ⊢
  have ha3 := hv3.le
  conv => whnf
  refine ⟨fun h2 => ?_, fun h2 => ?_⟩
  · have h2 : i < n3 := by simp at h2; omega
    rw [show n3 - i = (n3 - (i + 1)) + 1 by omega] at hv3
    have hv4 := ix_inv (K := k9 s l0 l1 l2) hv3
    have hx := txA_le s.length e3 c3 ha3
    conv => whnf
    refine callh0 1 rfl ((cat_name s e3 c3 hs (by omega))) rfl rfl rfl rfl ?_
    conv => whnf
    refine any0 ?_
    conv => whnf
    refine callrh0 1 rfl ((cat_name s (txA s e3 c3).2.1 (txA s e3 c3).2.2 hs (by omega))) rfl rfl rfl rfl ?_
    conv => whnf
    refine ⟨by show (l3.length + 1) * 32 ≤ 140737488355328; omega, ?_⟩
    conv => whnf
    refine ⟨.inl (by kernel_rfl), after0 ?_⟩
    conv => whnf
    refine ⟨(i + 1, _, _, _), ⟨⟨h2, ?_, hv4⟩, by dsimp only; omega⟩, ?_⟩
    · dsimp only; rw [List.length_append, hn3]; rfl
    (conv => whnf); refine ⟨rfl, ?_, ?_, ?_⟩ <;> (repeat' apply And.intro) <;> first | exact trivial | rfl | exact wr_succ _ (by omega) | assumption | exact decide_eq_false (by assumption) | exact decide_eq_true (by assumption)
  rw [show n3 - i = 0 by simp at h2; omega] at hv3
  clear h2 hI1
  conv => whnf
  refine fzc 4 rfl ?_
  conv => whnf
  refine fzc 5 rfl ?_
  conv => whnf
  refine fzc 6 rfl ?_
  conv => whnf
  refine fzc 7 rfl ?_
  conv => whnf
  refine callh0 1 rfl ((cat_number s 1000000 e3 c3 hs (by omega) (by omega))) rfl rfl rfl rfl ?_
  conv => whnf
  have h4 : Inv (decO s) (finK s l0 l1 l2 l3 (numA s 1000000 e3 c3).1 (numA s 1000000 e3 c3).2.1) s.length (numA s 1000000 e3 c3).2.1 (numA s 1000000 e3 c3).2.2 := num_inv (K := fun nx a => finK s l0 l1 l2 l3 nx a) hv3
  have v4 := numA_le s 1000000 e3 c3
  generalize numA s 1000000 e3 c3 = r at h4 v4
  obtain ⟨nx, a4, b4⟩ := r
  dsimp only at h4 v4 ⊢
  conv => whnf
  refine callg0 (fun _ => cat_Good (l0, l1, l2, l3, ((nx : Nat) : Int)) hw2 (by show l2.length ≤ 1000; omega)) rfl ?_
  conv => whnf
  refine ⟨fun h5 => ?_, fun h5 => ?_⟩
  · have hD : decO s = none := by
      cases b4 with
      | true => exact h4.no rfl
      | false =>
        rw [← h4.ok rfl, finK, if_neg]
        rintro ⟨g1, g2⟩
        rw [g2, g1] at h5
        simp at h5
    rw [show decCS s = C0 by rw [decCS, hD]; rfl, show decCE s = 11 by rw [decCE, hD]; rfl]
    conv => whnf
    exact .inr ⟨rfl, rfl⟩
  · simp only [Bool.or_eq_false_iff, Bool.not_eq_false', decide_eq_true_eq] at h5
    obtain ⟨⟨g1, g2⟩, g3⟩ := h5
    have hD : decO s = some (l0, l1, l2, l3, ((nx : Nat) : Int)) := by
      rw [← h4.ok g1, finK, if_pos ⟨by omega, g3⟩]
    rw [show decCS s = (l0, l1, l2, l3, ((nx : Nat) : Int)) by rw [decCS, hD]; rfl, show decCE s = 0 by rw [decCE, hD]; rfl]
    conv => whnf
    exact .inl rfl
end Go.Proofs.Ytnldokebmfojeaa
/- A catalog's bytes: what was encoded is decoded as it was, what was decoded is encoded as it stood; no program in sight. Own work. -/
set_option linter.unusedVariables false
set_option maxRecDepth 100000
namespace Go.Proofs.Ytnldokebmfojeaa
open Go Go.RowKit OE

theorem back1g (p q : List UInt8) (r : RD.T) (h : okS r = true) : decS (p ++ encS r ++ q) p.length = some (r, (encS r).length) := by
  obtain ⟨i0, i1, k0, k1, n0, n1, s0, s1, t0, t1, t2, t3⟩ := okR h
  have k1 : r.2.1 ≤ 1000000 := Int.le_trans k1 (by decide)
  have n1 : r.2.2.2.2.2.2.1 ≤ 1000000 := Int.le_trans n1 (by decide)
  have s1 : r.2.2.2.2.2.2.2 ≤ 1000000 := Int.le_trans s1 (by decide)
  have k0 : 0 ≤ r.2.1 := Int.le_trans (by decide) k0
  have e : encS r = bytS r := by unfold encS; rw [if_pos h]
  rw [e]
  have hd : decP (p ++ bytS r ++ q) p.length = some (r, (bytS r).length) := by
    obtain ⟨x1, x2, x3, x4, x5, x6, x7, x8⟩ := r
    dsimp only at *
    unfold bytS
    dsimp only
    have y1 := Int.toNat_of_nonneg i0
    have y2 := Int.toNat_of_nonneg k0
    have y7 := Int.toNat_of_nonneg n0
    have y8 := Int.toNat_of_nonneg s0
    generalize hS : (p ++ (Num.putN x1.toNat ++ Num.putN x2.toNat ++ Num.putN x8.toNat ++ Num.putN x7.toNat ++ Num.putT x3 ++ Num.putT x4 ++ Num.putT x5 ++ Num.putT x6) ++ q : List UInt8) = S
    have g1 := gnS_at (s := S) (k := (p.length : Int)) p x1.toNat (Num.putN x2.toNat ++ Num.putN x8.toNat ++ Num.putN x7.toNat ++ Num.putT x3 ++ Num.putT x4 ++ Num.putT x5 ++ Num.putT x6 ++ q) (toNat_le _ i1) (by rw [← hS]; simp only [List.append_assoc]) rfl
    have g2 := gnS_at (s := S) (k := (p.length : Int) + ((Num.putN x1.toNat).length : Int)) (p ++ Num.putN x1.toNat) x2.toNat (Num.putN x8.toNat ++ Num.putN x7.toNat ++ Num.putT x3 ++ Num.putT x4 ++ Num.putT x5 ++ Num.putT x6 ++ q) (toNat_le _ k1) (by rw [← hS]; simp only [List.append_assoc]) (by simp only [List.length_append]; omega)
    have g3 := gnS_at (s := S) (k := (p.length : Int) + ((Num.putN x1.toNat).length : Int) + ((Num.putN x2.toNat).length : Int)) (p ++ Num.putN x1.toNat ++ Num.putN x2.toNat) x8.toNat (Num.putN x7.toNat ++ Num.putT x3 ++ Num.putT x4 ++ Num.putT x5 ++ Num.putT x6 ++ q) (toNat_le _ s1) (by rw [← hS]; simp only [List.append_assoc]) (by simp only [List.length_append]; omega)
    have g4 := gnS_at (s := S) (k := (p.length : Int) + ((Num.putN x1.toNat).length : Int) + ((Num.putN x2.toNat).length : Int) + ((Num.putN x8.toNat).length : Int)) (p ++ Num.putN x1.toNat ++ Num.putN x2.toNat ++ Num.putN x8.toNat) x7.toNat (Num.putT x3 ++ Num.putT x4 ++ Num.putT x5 ++ Num.putT x6 ++ q) (toNat_le _ n1) (by rw [← hS]; simp only [List.append_assoc]) (by simp only [List.length_append]; omega)
    have g5 := gtS_at (s := S) (k := (p.length : Int) + ((Num.putN x1.toNat).length : Int) + ((Num.putN x2.toNat).length : Int) + ((Num.putN x8.toNat).length : Int) + ((Num.putN x7.toNat).length : Int)) (p ++ Num.putN x1.toNat ++ Num.putN x2.toNat ++ Num.putN x8.toNat ++ Num.putN x7.toNat) x3 (Num.putT x4 ++ Num.putT x5 ++ Num.putT x6 ++ q) t0 (by rw [← hS]; simp only [List.append_assoc]) (by simp only [List.length_append]; omega)
    have g6 := gtS_at (s := S) (k := (p.length : Int) + ((Num.putN x1.toNat).length : Int) + ((Num.putN x2.toNat).length : Int) + ((Num.putN x8.toNat).length : Int) + ((Num.putN x7.toNat).length : Int) + ((Num.putT x3).length : Int)) (p ++ Num.putN x1.toNat ++ Num.putN x2.toNat ++ Num.putN x8.toNat ++ Num.putN x7.toNat ++ Num.putT x3) x4 (Num.putT x5 ++ Num.putT x6 ++ q) t1 (by rw [← hS]; simp only [List.append_assoc]) (by simp only [List.length_append]; omega)
    have g7 := gtS_at (s := S) (k := (p.length : Int) + ((Num.putN x1.toNat).length : Int) + ((Num.putN x2.toNat).length : Int) + ((Num.putN x8.toNat).length : Int) + ((Num.putN x7.toNat).length : Int) + ((Num.putT x3).length : Int) + ((Num.putT x4).length : Int)) (p ++ Num.putN x1.toNat ++ Num.putN x2.toNat ++ Num.putN x8.toNat ++ Num.putN x7.toNat ++ Num.putT x3 ++ Num.putT x4) x5 (Num.putT x6 ++ q) t2 (by rw [← hS]; simp only [List.append_assoc]) (by simp only [List.length_append]; omega)
    have g8 := gtS_at (s := S) (k := (p.length : Int) + ((Num.putN x1.toNat).length : Int) + ((Num.putN x2.toNat).length : Int) + ((Num.putN x8.toNat).length : Int) + ((Num.putN x7.toNat).length : Int) + ((Num.putT x3).length : Int) + ((Num.putT x4).length : Int) + ((Num.putT x5).length : Int)) (p ++ Num.putN x1.toNat ++ Num.putN x2.toNat ++ Num.putN x8.toNat ++ Num.putN x7.toNat ++ Num.putT x3 ++ Num.putT x4 ++ Num.putT x5) x6 q t3 (by rw [← hS]; simp only [List.append_assoc]) (by simp only [List.length_append]; omega)
    simp only [decP, g1, g2, g3, g4, g5, g6, g7, g8, List.length_append]
    rw [y1, y2, y7, y8]
  simp only [decS, hd, h, if_true]

/-! there: what was encoded is decoded -/
theorem numK_at {s : List UInt8} {most a n : Nat} {K : Nat → Nat → Option CD.T} (p r : List UInt8) (hs : s = p ++ Num.putN n ++ r) (ha : a = p.length) (hn : n ≤ most) (hb : n ≤ 1000000) : numK s most a K = K n (p ++ Num.putN n).length := by
  unfold numK
  rw [hs, ha, Num.getN_put n p r (by omega)]
  dsimp only
  rw [if_pos hn, List.length_append]
theorem namK_at {s : List UInt8} {K : List SD.T → Nat → Option CD.T} : ∀ {l : List SD.T} {acc : List SD.T} {a : Nat} (p r : List UInt8), s = p ++ txtB l ++ r → a = p.length → (∀ t ∈ l, nameS t = true) → namK s l.length a acc K = K (acc ++ l) (p ++ txtB l).length
  | [], acc, a, p, r, hs, ha, ht => by
    show K acc a = _
    rw [List.append_nil, ha, show txtB [] = [] from rfl, List.append_nil]
  | t :: l, acc, a, p, r, hs, ha, ht => by
    have e : txtB (t :: l) = Num.putT t ++ txtB l := rfl
    rw [e] at hs ⊢
    have hg := gtS_at (s := s) (k := (a : Int)) p t (txtB l ++ r) (nameS_len (ht t (by simp))) (by rw [hs]; simp only [List.append_assoc]) (by rw [ha])
    show namK s (l.length + 1) a acc K = _
    unfold namK
    rw [hg]
    dsimp only
    rw [namK_at (l := l) (p ++ Num.putT t) r (by rw [hs]; simp only [List.append_assoc]) (by rw [ha, List.length_append]) (fun x hx => ht x (by simp [hx]))]
    simp only [List.append_assoc, List.singleton_append]
theorem rulK_at {s : List UInt8} {K : List RD.T → Nat → Option CD.T} : ∀ {l : List RD.T} {acc : List RD.T} {a : Nat} (p r : List UInt8), s = p ++ flB encS l ++ r → a = p.length → (∀ t ∈ l, okS t = true) → rulK s l.length a acc K = K (acc ++ l) (p ++ flB encS l).length
  | [], acc, a, p, r, hs, ha, ht => by
    show K acc a = _
    rw [List.append_nil, ha, show flB encS [] = [] from rfl, List.append_nil]
  | t :: l, acc, a, p, r, hs, ha, ht => by
    have e : flB encS (t :: l) = encS t ++ flB encS l := rfl
    rw [e] at hs ⊢
    have hg := back1g p (flB encS l ++ r) t (ht t (by simp))
    rw [show p ++ encS t ++ (flB encS l ++ r) = s by rw [hs]; simp only [List.append_assoc], ← ha] at hg
    show rulK s (l.length + 1) a acc K = _
    unfold rulK
    rw [hg]
    dsimp only
    rw [rulK_at (l := l) (p ++ encS t) r (by rw [hs]; simp only [List.append_assoc]) (by rw [ha, List.length_append]) (fun x hx => ht x (by simp [hx]))]
    simp only [List.append_assoc, List.singleton_append]
theorem ixK_at {s : List UInt8} {K : List ID.T → Nat → Option CD.T} : ∀ {l : List ID.T} {acc : List ID.T} {a : Nat} (p r : List UInt8), s = p ++ flB ixB l ++ r → a = p.length → (∀ t ∈ l, t.1.length ≤ 16 ∧ t.2.length ≤ 16) → ixK s l.length a acc K = K (acc ++ l) (p ++ flB ixB l).length
  | [], acc, a, p, r, hs, ha, ht => by
    show K acc a = _
    rw [List.append_nil, ha, show flB ixB [] = [] from rfl, List.append_nil]
  | t :: l, acc, a, p, r, hs, ha, ht => by
    have e : flB ixB (t :: l) = Num.putT t.1 ++ Num.putT t.2 ++ flB ixB l := rfl
    rw [e] at hs ⊢
    have hg := gtS_at (s := s) (k := (a : Int)) p t.1 (Num.putT t.2 ++ flB ixB l ++ r) (ht t (by simp)).1 (by rw [hs]; simp only [List.append_assoc]) (by rw [ha])
    have hg2 := gtS_at (s := s) (k := ((a + (Num.putT t.1).length : Nat) : Int)) (p ++ Num.putT t.1) t.2 (flB ixB l ++ r) (ht t (by simp)).2 (by rw [hs]; simp only [List.append_assoc]) (by rw [ha, List.length_append])
    show ixK s (l.length + 1) a acc K = _
    unfold ixK
    rw [hg]
    dsimp only
    rw [hg2]
    dsimp only
    rw [ixK_at (l := l) (p ++ Num.putT t.1 ++ Num.putT t.2) r (by rw [hs]; simp only [List.append_assoc]) (by rw [ha, List.length_append, List.length_append]) (fun x hx => ht x (by simp [hx]))]
    simp only [List.append_assoc, List.singleton_append]
theorem good_okS {c : CD.T} (h : GoodC c) : ∀ r ∈ c.2.2.1, okS r = true := fun r hr => by
  obtain ⟨h1, h2⟩ := h.r r hr
  simp only [goodR, Bool.and_eq_true, decide_eq_true_eq] at h2
  obtain ⟨g1, g2, g3, g4, g5⟩ := h2
  have hx := h.x1
  simp only [okS, Bool.and_eq_true, decide_eq_true_eq]
  exact ⟨⟨⟨⟨g2, Int.le_of_lt h1⟩, Int.le_trans (Int.le_of_lt g1) hx⟩, Int.le_trans (by decide) g4⟩, g5⟩
theorem dec_enc {c : CD.T} (h : goodC c = true) : decO (encCS c) = some c := by
  have hg := goodC_out h
  have ho := good_okS hg
  rw [show encCS c = catB' c from if_pos h]
  obtain ⟨l1, l2, rs, is, nx⟩ := c
  generalize hs : catB' (l1, l2, rs, is, nx) = s
  have hs : Num.putN l1.length ++ txtB l1 ++ (Num.putN l2.length ++ txtB l2) ++ Num.putN rs.length ++ flB encS rs ++ Num.putN is.length ++ flB ixB is ++ Num.putN (Int.toNat nx) = s := hs
  have b1 : l1.length ≤ 16 := hg.n1
  have b2 : l2.length ≤ 16 := hg.n2
  have b3 : rs.length ≤ 16 := hg.n3
  have b4 : is.length ≤ 16 := hg.n4
  have x0 : (1 : Int) ≤ nx := hg.x0
  have x1 : Int.toNat nx ≤ 1000000 := toNat_le _ hg.x1
  have x2 : ((Int.toNat nx : Nat) : Int) = nx := Int.toNat_of_nonneg (Int.le_trans (by decide) x0)
  generalize Int.toNat nx = m at hs x1 x2
  unfold decO
  rw [numK_at (a := 0) (n := l1.length) [] (txtB l1 ++ (Num.putN l2.length ++ txtB l2) ++ Num.putN rs.length ++ flB encS rs ++ Num.putN is.length ++ flB ixB is ++ Num.putN m) (by rw [← hs]; simp only [List.append_assoc, List.nil_append]) rfl b1 (by omega)]
  unfold k2
  rw [namK_at (l := l1) ([] ++ Num.putN l1.length) (Num.putN l2.length ++ txtB l2 ++ Num.putN rs.length ++ flB encS rs ++ Num.putN is.length ++ flB ixB is ++ Num.putN m) (by rw [← hs]; simp only [List.append_assoc, List.nil_append]) rfl hg.t1]
  unfold k3
  rw [numK_at (n := l2.length) ([] ++ Num.putN l1.length ++ txtB l1) (txtB l2 ++ Num.putN rs.length ++ flB encS rs ++ Num.putN is.length ++ flB ixB is ++ Num.putN m) (by rw [← hs]; simp only [List.append_assoc, List.nil_append]) rfl b2 (by omega)]
  unfold k4
  rw [namK_at (l := l2) ([] ++ Num.putN l1.length ++ txtB l1 ++ Num.putN l2.length) (Num.putN rs.length ++ flB encS rs ++ Num.putN is.length ++ flB ixB is ++ Num.putN m) (by rw [← hs]; simp only [List.append_assoc, List.nil_append]) rfl hg.t2]
  unfold k5
  rw [numK_at (n := rs.length) ([] ++ Num.putN l1.length ++ txtB l1 ++ Num.putN l2.length ++ txtB l2) (flB encS rs ++ Num.putN is.length ++ flB ixB is ++ Num.putN m) (by rw [← hs]; simp only [List.append_assoc, List.nil_append]) rfl b3 (by omega)]
  unfold k6
  rw [rulK_at (l := rs) ([] ++ Num.putN l1.length ++ txtB l1 ++ Num.putN l2.length ++ txtB l2 ++ Num.putN rs.length) (Num.putN is.length ++ flB ixB is ++ Num.putN m) (by rw [← hs]; simp only [List.append_assoc, List.nil_append]) rfl ho]
  unfold k7
  rw [numK_at (n := is.length) ([] ++ Num.putN l1.length ++ txtB l1 ++ Num.putN l2.length ++ txtB l2 ++ Num.putN rs.length ++ flB encS rs) (flB ixB is ++ Num.putN m) (by rw [← hs]; simp only [List.append_assoc, List.nil_append]) rfl b4 (by omega)]
  unfold k8
  rw [ixK_at (l := is) ([] ++ Num.putN l1.length ++ txtB l1 ++ Num.putN l2.length ++ txtB l2 ++ Num.putN rs.length ++ flB encS rs ++ Num.putN is.length) (Num.putN m) (by rw [← hs]; simp only [List.append_assoc, List.nil_append]) rfl (fun x hx => hg.il hx)]
  unfold k9
  rw [numK_at (n := m) ([] ++ Num.putN l1.length ++ txtB l1 ++ Num.putN l2.length ++ txtB l2 ++ Num.putN rs.length ++ flB encS rs ++ Num.putN is.length ++ flB ixB is) [] (by rw [← hs]; simp only [List.append_assoc, List.nil_append, List.append_nil]) rfl x1 x1]
  unfold finK
  simp only [List.nil_append]
  rw [x2, if_pos]
  exact ⟨by rw [← hs]; simp only [List.append_assoc], h⟩

/-! back: what was decoded is encoded -/
theorem getN_sh {s : List UInt8} {a : Nat} (ha : a ≤ s.length) {x y : Int} (hy : 0 ≤ y) (hx : x = a + y) : Num.getN s x = Num.getN (s.drop a) y := by
  unfold Num.getN
  rw [List.length_drop, List.drop_drop, show a + y.toNat = x.toNat by omega]
  by_cases h : x > s.length
  · rw [if_pos (.inr h), if_pos (.inr (by omega))]
  · rw [if_neg (by omega), if_neg (by omega)]
theorem getT_sh {s : List UInt8} {a : Nat} (ha : a ≤ s.length) {x y m : Int} (hy : 0 ≤ y) (hx : x = a + y) : Num.getT s x m = Num.getT (s.drop a) y m := by
  unfold Num.getT
  rw [getN_sh ha hy hx]
  cases Num.getN (s.drop a) y with
  | none => rfl
  | some p =>
    obtain ⟨n, k⟩ := p
    dsimp only
    rw [List.length_drop, List.drop_drop (i := y.toNat), show a + y.toNat = x.toNat by omega]
    by_cases h : m < 0 ∨ (n : Int) > m ∨ x.toNat + k + n > s.length
    · rw [if_pos h, if_pos (by omega)]
    · rw [if_neg h, if_neg (by omega)]
theorem decS_sh {s : List UInt8} {a : Nat} (ha : a ≤ s.length) : decS s a = decS (s.drop a) 0 := by
  have g : ∀ x y : Int, 0 ≤ y → x = a + y → gnS s x = gnS (s.drop a) y := fun x y h1 h2 => by unfold gnS; rw [getN_sh ha h1 h2]
  have t : ∀ x y : Int, 0 ≤ y → x = a + y → Num.getT s x 16 = Num.getT (s.drop a) y 16 := fun x y h1 h2 => getT_sh ha h1 h2
  have e : decP s a = decP (s.drop a) 0 := by
    unfold decP
    rw [g a 0 (by omega) (by omega)]
    cases gnS (s.drop a) (0) with
    | none => rfl
    | some p1 =>
    dsimp only
    rw [g ((a : Int) + p1.2) ((0 : Int) + p1.2) (by omega) (by omega)]
    cases gnS (s.drop a) (0 + p1.2) with
    | none => rfl
    | some p2 =>
    dsimp only
    rw [g ((a : Int) + p1.2 + p2.2) ((0 : Int) + p1.2 + p2.2) (by omega) (by omega)]
    cases gnS (s.drop a) (0 + p1.2 + p2.2) with
    | none => rfl
    | some p3 =>
    dsimp only
    rw [g ((a : Int) + p1.2 + p2.2 + p3.2) ((0 : Int) + p1.2 + p2.2 + p3.2) (by omega) (by omega)]
    cases gnS (s.drop a) (0 + p1.2 + p2.2 + p3.2) with
    | none => rfl
    | some p4 =>
    dsimp only
    rw [t ((a : Int) + p1.2 + p2.2 + p3.2 + p4.2) ((0 : Int) + p1.2 + p2.2 + p3.2 + p4.2) (by omega) (by omega)]
    cases Num.getT (s.drop a) (0 + p1.2 + p2.2 + p3.2 + p4.2) 16 with
    | none => rfl
    | some p5 =>
    dsimp only
    rw [t ((a : Int) + p1.2 + p2.2 + p3.2 + p4.2 + p5.2) ((0 : Int) + p1.2 + p2.2 + p3.2 + p4.2 + p5.2) (by omega) (by omega)]
    cases Num.getT (s.drop a) (0 + p1.2 + p2.2 + p3.2 + p4.2 + p5.2) 16 with
    | none => rfl
    | some p6 =>
    dsimp only
    rw [t ((a : Int) + p1.2 + p2.2 + p3.2 + p4.2 + p5.2 + p6.2) ((0 : Int) + p1.2 + p2.2 + p3.2 + p4.2 + p5.2 + p6.2) (by omega) (by omega)]
    cases Num.getT (s.drop a) (0 + p1.2 + p2.2 + p3.2 + p4.2 + p5.2 + p6.2) 16 with
    | none => rfl
    | some p7 =>
    dsimp only
    rw [t ((a : Int) + p1.2 + p2.2 + p3.2 + p4.2 + p5.2 + p6.2 + p7.2) ((0 : Int) + p1.2 + p2.2 + p3.2 + p4.2 + p5.2 + p6.2 + p7.2) (by omega) (by omega)]
  unfold decS
  rw [e]
theorem numK_back {s : List UInt8} {most a : Nat} {K : Nat → Nat → Option CD.T} {d : CD.T} (h : numK s most a K = some d) : ∃ n k, n ≤ most ∧ K n (a + k) = some d ∧ s.take (a + k) = s.take a ++ Num.putN n := by
  unfold numK at h
  cases hg : Num.getN s a with
  | none => rw [hg] at h; cases h
  | some p =>
    rw [hg] at h
    dsimp only at h
    split at h
    · rename_i hle
      have ht := Num.getN_take (m := p.1) (k := p.2) hg
      exact ⟨p.1, p.2, hle, h, by rw [List.take_add]; exact congrArg (s.take a ++ ·) ht⟩
    · cases h
theorem namK_back {s : List UInt8} {K : List SD.T → Nat → Option CD.T} {d : CD.T} : ∀ {n a : Nat} {acc : List SD.T}, namK s n a acc K = some d → ∃ l a', l.length = n ∧ K (acc ++ l) a' = some d ∧ s.take a' = s.take a ++ txtB l
  | 0, a, acc, h => ⟨[], a, rfl, by rw [List.append_nil]; exact h, by rw [show txtB [] = [] from rfl, List.append_nil]⟩
  | n + 1, a, acc, h => by
    unfold namK at h
    cases hg : Num.getT s a 16 with
    | none => rw [hg] at h; cases h
    | some p =>
      rw [hg] at h
      dsimp only at h
      have ht := (gtS_take (t := p.1) (i := p.2) hg a rfl).1
      obtain ⟨l, a', h1, h2, h3⟩ := namK_back h
      refine ⟨p.1 :: l, a', by rw [List.length_cons, h1], by rw [← h2]; simp only [List.append_assoc, List.singleton_append], ?_⟩
      rw [h3, List.take_add, ht, show txtB (p.1 :: l) = Num.putT p.1 ++ txtB l from rfl]
      simp only [List.append_assoc]
theorem rulK_back {s : List UInt8} {K : List RD.T → Nat → Option CD.T} {d : CD.T} : ∀ {n a : Nat} {acc : List RD.T}, rulK s n a acc K = some d → ∃ l a', l.length = n ∧ K (acc ++ l) a' = some d ∧ s.take a' = s.take a ++ flB encS l
  | 0, a, acc, h => ⟨[], a, rfl, by rw [List.append_nil]; exact h, by rw [show flB encS [] = [] from rfl, List.append_nil]⟩
  | n + 1, a, acc, h => by
    unfold rulK at h
    cases hg : decS s a with
    | none => rw [hg] at h; cases h
    | some p =>
      rw [hg] at h
      dsimp only at h
      have hb := decS_bd (r := p.1) (n := p.2) hg
      rw [decS_sh (by omega)] at hg
      have ht := (back2 (q := p.1) (n := p.2) hg).2.1
      obtain ⟨l, a', h1, h2, h3⟩ := rulK_back h
      refine ⟨p.1 :: l, a', by rw [List.length_cons, h1], by rw [← h2]; simp only [List.append_assoc, List.singleton_append], ?_⟩
      rw [h3, List.take_add, ← ht, show flB encS (p.1 :: l) = encS p.1 ++ flB encS l from rfl]
      simp only [List.append_assoc]
theorem ixK_back {s : List UInt8} {K : List ID.T → Nat → Option CD.T} {d : CD.T} : ∀ {n a : Nat} {acc : List ID.T}, ixK s n a acc K = some d → ∃ l a', l.length = n ∧ K (acc ++ l) a' = some d ∧ s.take a' = s.take a ++ flB ixB l
  | 0, a, acc, h => ⟨[], a, rfl, by rw [List.append_nil]; exact h, by rw [show flB ixB [] = [] from rfl, List.append_nil]⟩
  | n + 1, a, acc, h => by
    unfold ixK at h
    cases hg : Num.getT s a 16 with
    | none => rw [hg] at h; cases h
    | some p =>
      rw [hg] at h
      dsimp only at h
      cases hg2 : Num.getT s (a + p.2 : Nat) 16 with
      | none => rw [hg2] at h; cases h
      | some q =>
        rw [hg2] at h
        dsimp only at h
        have ht := (gtS_take (t := p.1) (i := p.2) hg a rfl).1
        have ht2 := (gtS_take (t := q.1) (i := q.2) hg2 (a + p.2) rfl).1
        obtain ⟨l, a', h1, h2, h3⟩ := ixK_back h
        refine ⟨(p.1, q.1) :: l, a', by rw [List.length_cons, h1], by rw [← h2]; simp only [List.append_assoc, List.singleton_append], ?_⟩
        rw [h3, List.take_add, List.take_add, ht, ht2, show flB ixB ((p.1, q.1) :: l) = Num.putT p.1 ++ Num.putT q.1 ++ flB ixB l from rfl]
        simp only [List.append_assoc]
theorem enc_dec {s : List UInt8} {d : CD.T} (h : decO s = some d) : goodC d = true ∧ catB' d = s := by
  unfold decO at h
  obtain ⟨n1, x1, _, h, e1⟩ := numK_back h
  obtain ⟨l1, y1, f1, h, e2⟩ := namK_back h
  obtain ⟨n2, x2, _, h, e3⟩ := numK_back h
  obtain ⟨l2, y2, f2, h, e4⟩ := namK_back h
  obtain ⟨n3, x3, _, h, e5⟩ := numK_back h
  obtain ⟨rs, y3, f3, h, e6⟩ := rulK_back h
  obtain ⟨n4, x4, _, h, e7⟩ := numK_back h
  obtain ⟨is, y4, f4, h, e8⟩ := ixK_back h
  obtain ⟨nx, x5, _, h, e9⟩ := numK_back h
  unfold finK at h
  split at h
  · rename_i hc
    obtain ⟨hc1, hc2⟩ := hc
    cases h
    refine ⟨hc2, ?_⟩
    rw [hc1, List.take_length] at e9
    rw [e9, e8, e7, e6, e5, e4, e3, e2, e1, ← f1, ← f2, ← f3, ← f4]
    unfold catB'
    simp only [List.nil_append, List.append_assoc, Int.toNat_natCast, List.take_zero]
  · cases h
theorem good_wf {c : CD.T} (h : goodC c = true) : Wf CD c := by
  have hg := goodC_out h
  have nm : ∀ {l : List SD.T}, l.length ≤ 16 → (∀ s ∈ l, nameS s = true) → Wf (.list SD) l := fun h1 h2 => ⟨Nat.le_trans h1 (by decide), fun s hs => Nat.le_trans (nameS_len (h2 s hs)) (by decide)⟩
  refine ⟨nm hg.n1 hg.t1, nm hg.n2 hg.t2, ⟨Nat.le_trans hg.n3 (by decide), fun r hr => ?_⟩, ⟨Nat.le_trans hg.n4 (by decide), fun x hx => ⟨Nat.le_trans (hg.il hx).1 (by decide), Nat.le_trans (hg.il hx).2 (by decide)⟩⟩, lit_ok _ (Int.le_trans (by decide) hg.x0) hg.x1⟩
  obtain ⟨i0, i1, k0, k1, n0, n1, s0, s1, t0, t1, t2, t3⟩ := okR (good_okS hg r hr)
  exact ⟨lit_ok _ i0 i1, lit_ok _ (Int.le_trans (by decide) k0) (Int.le_trans k1 (by decide)), Nat.le_trans t0 (by decide), Nat.le_trans t1 (by decide), Nat.le_trans t2 (by decide), Nat.le_trans t3 (by decide), lit_ok _ n0 (Int.le_trans n1 (by decide)), lit_ok _ s0 (Int.le_trans s1 (by decide))⟩
end Go.Proofs.Ytnldokebmfojeaa
/- What a reply's bytes are, and what bytes are read as; no program in sight. Own work. -/
set_option linter.unusedVariables false
set_option maxRecDepth 100000
namespace Go.Proofs.Ytnldokebmfojeaa
open Go Go.RowKit OE

def encN (n : ND.T) : List UInt8 := Num.putN (u64 n.1) ++ Num.putT n.2.1 ++ encPs n.2.2
def encE (e : ED.T) : List UInt8 := Num.putN (u64 e.1) ++ Num.putT e.2.1 ++ Num.putN (u64 e.2.2.1) ++ Num.putN (u64 e.2.2.2.1) ++ encPs e.2.2.2.2
def encI (n : LD.T) : List UInt8 := Num.putN (u64 n)
def enc4 (r : AD.T) : List UInt8 := Num.putN (u64 r.1) ++ Num.putN (u64 r.2.1) ++ Num.putN (u64 r.2.2.1) ++ Num.putN (u64 r.2.2.2.1.length)
def enc5 (r : AD.T) : List UInt8 := enc4 r ++ flB encN r.2.2.2.1 ++ Num.putN (u64 r.2.2.2.2.1.length)
def enc6 (r : AD.T) : List UInt8 := enc5 r ++ flB encE r.2.2.2.2.1 ++ Num.putN (u64 r.2.2.2.2.2.1.length)
def encA (r : AD.T) : List UInt8 := enc6 r ++ flB (α := Int) encI r.2.2.2.2.2.1 ++ Num.putT (encCS (aC r))
def encAS (r : AD.T) : List UInt8 := if goodA r = true then encA r else []
def errA (r : AD.T) : Int := if goodA r = true then 0 else 11

def lstR {α : Type} (one : Int × Bool → α × Int × Bool) : Nat → List α → Int × Bool → List α × Int × Bool
  | 0, acc, q => (acc, q)
  | n + 1, acc, q => if q.2 = true then (acc, q) else lstR one n (acc ++ [(one q).1]) (one q).2
def listR {α : Type} (s : List UInt8) (one : Int × Bool → α × Int × Bool) (q : Int × Bool) : List α × Int × Bool := lstR one (rdN s 1024 q).1.toNat [] (rdN s 1024 q).2
def catOf (t : List UInt8) : CD.T × Bool := if t = [] then (C0, false) else (decCS t, !decide (decCE t = 0))
def qC (s : List UInt8) := rdN s 1000 (0, false)
def qI (s : List UInt8) := rdN s mxI (qC s).2
def qR (s : List UInt8) := rdN s 1000000 (qI s).2
def qN (s : List UInt8) := listA s (oneN s) (qR s).2
def qE (s : List UInt8) := listA s (oneE s) (qN s).2
def qD (s : List UInt8) := listA s (oneI s) (qE s).2
def qT (s : List UInt8) := rdT s s.length (qD s).2
def rawA (s : List UInt8) : AD.T := ((qC s).1, (qI s).1, (qR s).1, (qN s).1, (qE s).1, (qD s).1, (catOf (qT s).1).1)
def badA (s : List UInt8) : Bool := (qT s).2.2 || (catOf (qT s).1).2
def okA (s : List UInt8) : Bool := !badA s && (decide ((qT s).2.1 = s.length) && goodA (rawA s))
def A0 : AD.T := AD.df
def repA (s : List UInt8) : AD.T := if okA s = true then rawA s else A0
def repE (s : List UInt8) : Int := if okA s = true then 0 else 11
def pN (s : List UInt8) := listR s (oneN s) (qR s).2
def pE (s : List UInt8) := listR s (oneE s) (pN s).2
def pD (s : List UInt8) := listR s (oneI s) (pE s).2
def pT (s : List UInt8) := rdT s 1073741824 (pD s).2
def rawR (s : List UInt8) : AD.T := ((qC s).1, (qI s).1, (qR s).1, (pN s).1, (pE s).1, (pD s).1, (catOf (pT s).1).1)
def badR (s : List UInt8) : Bool := (pT s).2.2 || (catOf (pT s).1).2
def okR' (s : List UInt8) : Bool := !badR s && (decide ((pT s).2.1 = s.length) && goodA (rawR s))

theorem listA_in {α : Type} {s : List UInt8} {one : Int × Bool → α × Int × Bool} (h1 : ∀ q, inS s q → inS s (one q).2) : ∀ {n : Nat} {acc : List α} {q : Int × Bool}, inS s q → inS s (lstA one n acc q).2
  | 0, acc, q, h => h
  | n + 1, acc, q, h => by
    unfold lstA
    split
    · exact h
    · exact listA_in h1 (h1 q h)
theorem listR_in {α : Type} {s : List UInt8} {one : Int × Bool → α × Int × Bool} (h1 : ∀ q, inS s q → inS s (one q).2) : ∀ {n : Nat} {acc : List α} {q : Int × Bool}, inS s q → inS s (lstR one n acc q).2
  | 0, acc, q, h => h
  | n + 1, acc, q, h => by
    unfold lstR
    split
    · exact h
    · exact listR_in h1 (h1 q h)
theorem in0 (s : List UInt8) : inS s (0, false) := ⟨by decide, by dsimp only; omega⟩
theorem inC (s : List UInt8) : inS s (qC s).2 := rdN_in (in0 s)
theorem inI (s : List UInt8) : inS s (qI s).2 := rdN_in (inC s)
theorem inR (s : List UInt8) : inS s (qR s).2 := rdN_in (inI s)
theorem inN (s : List UInt8) : inS s (qN s).2 := listA_in (fun _ h => oneN_in h) (rdN_in (inR s))
theorem inE (s : List UInt8) : inS s (qE s).2 := listA_in (fun _ h => oneE_in h) (rdN_in (inN s))
theorem inD (s : List UInt8) : inS s (qD s).2 := listA_in (fun _ h => oneI_in h) (rdN_in (inE s))
theorem inT (s : List UInt8) : inS s (qT s).2 := rdT_in (inD s)
theorem inN' (s : List UInt8) : inS s (pN s).2 := listR_in (fun _ h => oneN_in h) (rdN_in (inR s))
theorem inE' (s : List UInt8) : inS s (pE s).2 := listR_in (fun _ h => oneE_in h) (rdN_in (inN' s))
theorem inD' (s : List UInt8) : inS s (pD s).2 := listR_in (fun _ h => oneI_in h) (rdN_in (inE' s))

/-! every result is one that memory holds -/
theorem rdN_wf (s : List UInt8) (q : Int × Bool) {most : Int} (h0 : 0 ≤ most) (hm : most ≤ 4611686018427387903) : (Lit.int .i64 (rdN s most q).1).wf = true := by
  have := rdN_val s q h0 hm
  exact i64_ok (by omega) (by omega)
theorem rdT_wf (s : List UInt8) (most : Int) (q : Int × Bool) (h0 : 0 ≤ most) (hm : most ≤ 1073741824) : (rdT s most q).1.length ≤ 140737488351232 := by
  unfold rdT
  split
  · show ([] : List UInt8).length ≤ _
    simp
  · rename_i hc
    have hs := not_false' fun h => hc (.inr h)
    unfold tS
    cases hg : Num.getT s q.1 most with
    | none => rw [hg] at hs; cases hs
    | some p =>
      have hl : ((p.1).length : Int) ≤ most := by
        unfold Num.getT at hg
        cases g : Num.getN s q.1 with
        | none => rw [g] at hg; cases hg
        | some p' =>
          rw [g] at hg
          dsimp only at hg
          split at hg
          · cases hg
          · rename_i hc
            simp only [Option.some.injEq] at hg
            rw [← hg]
            have : ((List.take p'.1 (List.drop p'.2 (List.drop q.1.toNat s))).length) ≤ p'.1 := by rw [List.length_take]; omega
            dsimp only
            omega
      show p.1.length ≤ _
      omega
theorem rdP_wf (s : List UInt8) (q : Int × Bool) : Wf (.list PD) (rdP s q).1 := by
  unfold rdP
  split
  · exact ⟨by show (0 : Nat) ≤ _; omega, fun p hp => by cases hp⟩
  · rename_i hc
    have hs := not_false' fun h => hc (.inr h)
    unfold pS
    cases hg : decPs s q.1 with
    | none => rw [hg] at hs; cases hs
    | some p => exact decPs_wf (l := p.1) (m := p.2) hg
theorem oneN_wf (s : List UInt8) (q : Int × Bool) : Wf ND (oneN s q).1 := ⟨rdN_wf s _ (by decide) (by decide), rdT_wf s 16 _ (by decide) (by decide), rdP_wf s _⟩
theorem oneE_wf (s : List UInt8) (q : Int × Bool) : Wf ED (oneE s q).1 := ⟨rdN_wf s _ (by decide) (by decide), rdT_wf s 16 _ (by decide) (by decide), rdN_wf s _ (by decide) (by decide), rdN_wf s _ (by decide) (by decide), rdP_wf s _⟩
theorem oneI_wf (s : List UInt8) (q : Int × Bool) : Wf LD (oneI s q).1 := rdN_wf s _ (by decide) (by decide)
theorem lstA_wf {α : Type} {W : α → Prop} {one : Int × Bool → α × Int × Bool} (h1 : ∀ q, W (one q).1) : ∀ {n : Nat} {acc : List α} {q : Int × Bool}, (∀ x ∈ acc, W x) → (lstA one n acc q).1.length ≤ acc.length + n ∧ ∀ x ∈ (lstA one n acc q).1, W x
  | 0, acc, q, h => ⟨Nat.le_refl _, h⟩
  | n + 1, acc, q, h => by
    unfold lstA
    split
    · exact ⟨Nat.zero_le _, fun x hx => by cases hx⟩
    · have := lstA_wf (W := W) h1 (n := n) (acc := acc ++ [(one q).1]) (q := (one q).2) (fun x hx => by
        rcases List.mem_append.1 hx with h' | h'
        · exact h x h'
        · rw [List.mem_singleton.1 h']; exact h1 q)
      rw [List.length_append, List.length_singleton] at this
      exact ⟨by omega, this.2⟩
theorem lstR_wf {α : Type} {W : α → Prop} {one : Int × Bool → α × Int × Bool} (h1 : ∀ q, W (one q).1) : ∀ {n : Nat} {acc : List α} {q : Int × Bool}, (∀ x ∈ acc, W x) → (lstR one n acc q).1.length ≤ acc.length + n ∧ ∀ x ∈ (lstR one n acc q).1, W x
  | 0, acc, q, h => ⟨Nat.le_refl _, h⟩
  | n + 1, acc, q, h => by
    unfold lstR
    split
    · exact ⟨Nat.le_add_right _ _, h⟩
    · have := lstR_wf (W := W) h1 (n := n) (acc := acc ++ [(one q).1]) (q := (one q).2) (fun x hx => by
        rcases List.mem_append.1 hx with h' | h'
        · exact h x h'
        · rw [List.mem_singleton.1 h']; exact h1 q)
      rw [List.length_append, List.length_singleton] at this
      exact ⟨by omega, this.2⟩
theorem listA_wf {d : D} (s : List UInt8) {one : Int × Bool → d.T × Int × Bool} (h1 : ∀ q, Wf d (one q).1) (q : Int × Bool) : (listA s one q).1.length ≤ 1024 ∧ Wf (.list d) (listA s one q).1 := by
  have hv := rdN_val s q (most := 1024) (by decide) (by decide)
  have := lstA_wf (W := Wf d) h1 (n := (rdN s 1024 q).1.toNat) (acc := []) (q := (rdN s 1024 q).2) (fun x hx => by cases hx)
  have hl : (listA s one q).1.length ≤ 1024 := by
    refine Nat.le_trans this.1 ?_
    show 0 + _ ≤ _
    omega
  exact ⟨hl, Nat.le_trans hl (by decide), this.2⟩
theorem listR_wf {d : D} (s : List UInt8) {one : Int × Bool → d.T × Int × Bool} (h1 : ∀ q, Wf d (one q).1) (q : Int × Bool) : (listR s one q).1.length ≤ 1024 ∧ Wf (.list d) (listR s one q).1 := by
  have hv := rdN_val s q (most := 1024) (by decide) (by decide)
  have := lstR_wf (W := Wf d) h1 (n := (rdN s 1024 q).1.toNat) (acc := []) (q := (rdN s 1024 q).2) (fun x hx => by cases hx)
  have hl : (listR s one q).1.length ≤ 1024 := by
    refine Nat.le_trans this.1 ?_
    show 0 + _ ≤ _
    omega
  exact ⟨hl, Nat.le_trans hl (by decide), this.2⟩
theorem good_n {c : CD.T} (h : goodC c = true) : Wf CD c ∧ c.2.2.1.length ≤ 1000 := ⟨good_wf h, Nat.le_trans (goodC_out h).n3 (by decide)⟩
theorem catOf_wf (t : List UInt8) : Wf CD (catOf t).1 ∧ (catOf t).1.2.2.1.length ≤ 1000 := by
  have h0 : Wf CD C0 ∧ C0.2.2.1.length ≤ 1000 := by
    refine ⟨⟨⟨by decide, fun x hx => by cases hx⟩, ⟨by decide, fun x hx => by cases hx⟩, ⟨by decide, fun x hx => by cases hx⟩, ⟨by decide, fun x hx => by cases hx⟩, by decide⟩, by decide⟩
  unfold catOf
  split
  · exact h0
  · unfold decCS
    cases hd : decO t with
    | none => exact h0
    | some d => exact good_n (enc_dec hd).1
theorem repA_wf (s : List UInt8) : Wf AD (rawA s) ∧ (aC (rawA s)).2.2.1.length ≤ 1000 := by
  have hc : Wf CD (catOf (qT s).1).1 ∧ (catOf (qT s).1).1.2.2.1.length ≤ 1000 := catOf_wf _
  exact ⟨⟨rdN_wf s _ (by decide) (by decide), rdN_wf s _ (by decide) (by decide), rdN_wf s _ (by decide) (by decide), (listA_wf s (oneN_wf s) _).2, (listA_wf s (oneE_wf s) _).2, (listA_wf (d := LD) s (oneI_wf s) _).2, hc.1⟩, hc.2⟩
/-! how long bytes are -/
theorem encPs_len {l : List PD.T} (hl : Wf (.list PD) l) : (encPs l).length ≤ 8600 := by
  unfold encPs
  split
  · rename_i h
    have ha := props_all h
    have h1 := encL_len (l := l) fun p hp => ⟨hl.2 p hp, name_len (ha.2 p hp).1⟩
    have h2 := Num.putN_ten (n := l.length) (by have := ha.1; omega)
    have h3 := ha.1
    rw [List.length_append]
    omega
  · simp
theorem encN_len {n : ND.T} (hw : Wf ND n) (hg : goodN n = true) : (encN n).length ≤ 9000 := by
  unfold goodN at hg
  simp only [Bool.and_eq_true] at hg
  have h1 := Num.putN_ten (wrap_u64 n.1).2
  have h2 := putT_b (nameS_len hg.1.2)
  have h3 := encPs_len hw.2.2
  unfold encN
  rw [List.length_append, List.length_append]
  omega
theorem encE_len {n : ED.T} (hw : Wf ED n) (hg : goodE n = true) : (encE n).length ≤ 9000 := by
  unfold goodE at hg
  simp only [Bool.and_eq_true] at hg
  have h1 := Num.putN_ten (wrap_u64 n.1).2
  have h4 := Num.putN_ten (wrap_u64 n.2.2.1).2
  have h5 := Num.putN_ten (wrap_u64 n.2.2.2.1).2
  have h2 := putT_b (nameS_len hg.1.2)
  have h3 := encPs_len hw.2.2.2.2
  unfold encE
  rw [List.length_append, List.length_append, List.length_append, List.length_append]
  omega
theorem flB_le {α : Type} {f : α → List UInt8} {B : Nat} {l : List α} {n : Nat} (h : ∀ x ∈ l, (f x).length ≤ B) (hn : l.length ≤ n) : (flB f l).length ≤ B * n :=
  Nat.le_trans (flB_len f B h) (Nat.mul_le_mul_left B hn)
theorem flB_cut {α : Type} {f : α → List UInt8} {B : Nat} {l : List α} {n : Nat} (h : ∀ x ∈ l, (f x).length ≤ B) (hn : l.length ≤ n) (i : Nat) : (flB f (l.take i)).length ≤ B * n :=
  flB_le (fun x hx => h x (List.mem_of_mem_take hx)) (Nat.le_trans (by rw [List.length_take]; exact Nat.min_le_right _ _) hn)
theorem enc4_len (r : AD.T) : (enc4 r).length ≤ 40 := by
  have h1 := Num.putN_ten (wrap_u64 r.1).2
  have h2 := Num.putN_ten (wrap_u64 r.2.1).2
  have h3 := Num.putN_ten (wrap_u64 r.2.2.1).2
  have h4 := Num.putN_ten (wrap_u64 r.2.2.2.1.length).2
  unfold enc4
  simp only [List.length_append]
  omega
/-- what of a good reply its length hangs on -/
structure ShortA (r : AD.T) : Prop where
  n1 : r.2.2.2.1.length ≤ 1024
  n2 : r.2.2.2.2.1.length ≤ 1024
  n3 : r.2.2.2.2.2.1.length ≤ 1024
  g1 : ∀ x ∈ r.2.2.2.1, (encN x).length ≤ 9000
  g2 : ∀ x ∈ r.2.2.2.2.1, (encE x).length ≤ 9000
theorem encI_len (n : LD.T) : (encI n).length ≤ 10 := Num.putN_ten (wrap_u64 n).2
theorem ShortA.f1 {r : AD.T} (h : ShortA r) (i : Nat) : (flB encN (r.2.2.2.1.take i)).length ≤ 9216000 := flB_cut h.g1 h.n1 i
theorem ShortA.f2 {r : AD.T} (h : ShortA r) (i : Nat) : (flB encE (r.2.2.2.2.1.take i)).length ≤ 9216000 := flB_cut h.g2 h.n2 i
theorem ShortA.f3 {r : AD.T} (h : ShortA r) (i : Nat) : (flB (α := Int) encI (r.2.2.2.2.2.1.take i)).length ≤ 10240 := flB_cut (α := Int) (fun x _ => encI_len x) h.n3 i
theorem ShortA.l5 {r : AD.T} (h : ShortA r) : (enc5 r).length ≤ 9216050 := by
  have h1 := enc4_len r
  have h2 := h.f1 r.2.2.2.1.length
  have h3 := Num.putN_ten (wrap_u64 r.2.2.2.2.1.length).2
  rw [List.take_length] at h2
  unfold enc5
  rw [List.length_append, List.length_append]
  omega
theorem ShortA.l6 {r : AD.T} (h : ShortA r) : (enc6 r).length ≤ 18432060 := by
  have h1 := h.l5
  have h2 := h.f2 r.2.2.2.2.1.length
  have h3 := Num.putN_ten (wrap_u64 r.2.2.2.2.2.1.length).2
  rw [List.take_length] at h2
  unfold enc6
  rw [List.length_append, List.length_append]
  omega
theorem encCS_len (c : CD.T) : (encCS c).length ≤ 1000000 := by
  unfold encCS
  split
  · rename_i h
    have hg := goodC_out h
    have b1 := txtB_len hg.t1
    have b2 := txtB_len hg.t2
    have b3 := flB_len encS 144 (l := c.2.2.1) fun r _ => encS_len r
    have b4 := flB_len ixB 52 (l := c.2.2.2.1) fun x hx => by
      have := hg.il hx
      have q1 := putT_b this.1
      have q2 := putT_b this.2
      unfold ixB; rw [List.length_append]; omega
    have m1 := hg.n1
    have m2 := hg.n2
    have m3 := hg.n3
    have m4 := hg.n4
    have p1 := Num.putN_ten (n := c.1.length) (by omega)
    have p2 := Num.putN_ten (n := c.2.1.length) (by omega)
    have p3 := Num.putN_ten (n := c.2.2.1.length) (by omega)
    have p4 := Num.putN_ten (n := c.2.2.2.1.length) (by omega)
    have p5 := putN_b (show Int from c.2.2.2.2) hg.x1
    have p6 : (Num.putN (Int.toNat c.2.2.2.2)).length ≤ 10 := p5
    unfold catB'
    simp only [List.length_append]
    omega
  · simp
theorem putT_len (t : List UInt8) (h : t.length ≤ 1000000000) : (Num.putT t).length ≤ 10 + t.length := by
  have := Num.putN_ten (n := t.length) (by omega)
  unfold Num.putT
  rw [List.length_append]
  omega
theorem ShortA.len {r : AD.T} (h : ShortA r) : (encA r).length ≤ 100000000 := by
  have h1 := h.l6
  have h2 := h.f3 r.2.2.2.2.2.1.length
  have h3 := encCS_len (aC r)
  have h4 := putT_len (encCS (aC r)) (by omega)
  rw [List.take_length] at h2
  unfold encA
  rw [List.length_append, List.length_append]
  omega
/-- what a good reply is -/
structure GoodA (r : AD.T) : Prop where
  c0 : 0 ≤ (show Int from r.1)
  c1 : (show Int from r.1) ≤ 1000
  i : okId r.2.1 = true
  r0 : 0 ≤ (show Int from r.2.2.1)
  r1 : (show Int from r.2.2.1) ≤ 1000000
  n1 : r.2.2.2.1.length ≤ 1024
  n2 : r.2.2.2.2.1.length ≤ 1024
  n3 : r.2.2.2.2.2.1.length ≤ 1024
  g1 : ∀ x ∈ r.2.2.2.1, goodN x = true
  g2 : ∀ x ∈ r.2.2.2.2.1, goodE x = true
  g3 : ∀ x ∈ (show List Int from r.2.2.2.2.2.1), okId x = true
  cat : (emptyC (aC r) || goodC (aC r)) = true
theorem goodA_out {r : AD.T} (h : goodA r = true) : GoodA r := by
  obtain ⟨c, i, u, ns, es, is, k⟩ := r
  unfold goodA headA bndA idsS at h
  simp only [Bool.and_eq_true, Bool.not_eq_true', Bool.or_eq_false_iff, decide_eq_false_iff_not, List.all_eq_true] at h
  obtain ⟨⟨⟨⟨⟨⟨⟨⟨h1, h2⟩, h3⟩, h4⟩, h5⟩, h6⟩, h7⟩, h8, h9⟩, h10, h11, h12⟩ := h
  exact ⟨Int.not_lt.1 h1, Int.not_lt.1 h2, h8, Int.not_lt.1 h3, Int.not_lt.1 h4, by show ns.length ≤ _; omega, by show es.length ≤ _; omega, by show is.length ≤ _; omega, h10, h11, h9, h12⟩
theorem GoodA.short {r : AD.T} (hw : Wf AD r) (h : GoodA r) : ShortA r := ⟨h.n1, h.n2, h.n3, fun x hx => encN_len (hw.2.2.2.1.2 x hx) (h.g1 x hx), fun x hx => encE_len (hw.2.2.2.2.1.2 x hx) (h.g2 x hx)⟩
theorem encA_len {r : AD.T} (hw : Wf AD r) (h : goodA r = true) : (encA r).length ≤ 100000000 := ((goodA_out h).short hw).len
end Go.Proofs.Ytnldokebmfojeaa
/- The walk of answer.Decode. Own work. -/
set_option linter.unusedVariables false
set_option maxRecDepth 100000
namespace Go.Proofs.Ytnldokebmfojeaa
open Go Go.RowKit OE

/-- a reply whose lists may be nil -/
abbrev an : List C := [.int .i64 0, .int .i64 0, .int .i64 0, .val (.slice none 0 0), .val (.slice none 0 0), .val (.slice none 0 0), .val (.slice none 0 0), .val (.slice none 0 0), .val (.slice none 0 0), .val (.slice none 0 0), .int .i64 0]
def ansT (r : AD.T) (e : Int) (x : SV) : Prop := x = .tup [(true, ac r), (false, [.int .i64 e])] ∨ (r = A0 ∧ x = .tup [(true, an), (false, [.int .i64 e])])
theorem FnD.ans {P : Program} {f : Nat} {args : List SV} {r : AD.T} {e : Int} (h : FnD P f args (ansT r e)) : FnD P f args (· = .tup [(true, ac r), (false, [.int .i64 e])]) :=
  h.res fun x hx w ok v hv => by
    rcases hx with rfl | ⟨rfl, rfl⟩
    · exact hv
    · obtain ⟨vs, e, hl⟩ := hv
      refine ⟨vs, e, ?_⟩
      generalize vs.toList = m at hl
      cases m with
      | nil => exact hl.elim
      | cons y m =>
        refine ⟨?_, hl.2⟩
        have h1 := hl.1
        unfold RP at h1 ⊢
        simp only [if_true] at h1 ⊢
        obtain ⟨us, e2, hl2⟩ := h1
        refine ⟨us, e2, ?_⟩
        generalize us.toList = n at hl2
        match n, hl2 with
        | [a, b, c, d, e, f, g, h, i, j, k], ⟨h1, h2, h3, h4, h5, h6, h7, h8, h9, h10, h11, _⟩ => exact ⟨h1, h2, h3, nilC h4, nilC h5, nilC h6, nilC h7, nilC h8, nilC h9, nilC h10, h11, trivial⟩
theorem rdT_le (s : List UInt8) (most : Int) (q : Int × Bool) (h0 : 0 ≤ most) : ((rdT s most q).1.length : Int) ≤ most := by
  unfold rdT
  split
  · exact h0
  · rename_i hc
    have hs := not_false' fun h => hc (.inr h)
    unfold tS
    cases hg : Num.getT s q.1 most with
    | none => rw [hg] at hs; cases hs
    | some p => exact getT_take' (t := p.1) (i := p.2) hg h0
theorem okA_eq (s : List UInt8) {b : Bool} {X : AD.T} (hb : badA s = b) (hX : rawA s = X) : okA s = !(b || !decide ((qT s).2.1 = s.length) || !goodA X) := by
  unfold okA
  rw [hb, hX]
  cases b <;> cases decide ((qT s).2.1 = s.length) <;> cases goodA X <;> rfl
theorem ans_Decode (s : List UInt8) (hs : s.length ≤ 100000000) : FnD Try.prog 8 [.c (.str s)] (· = .tup [(true, ac (repA s)), (false, [.int .i64 (repE s)])]) := by
  refine FnD.ans ?_
  refine fn0 Try.func8 rfl rfl rfl ?_
  conv => whnf
  refine ⟨fun hx => ?_⟩
  clear hx
  refine weaken (st := ⟨[(0, .c (.str s)), (2, .c (.ptr 0 0)), (3, .c (.int .i64 0)), (4, .c (.ptr 1 0)), (12, .c (.ptr 1 0))], [(0, .cells 31 an), (1, .cells 72 [.str s, .int .i64 0, .bool (.sym false)])], 2⟩) ?_ (go0 ?_)
  · (conv => whnf); refine ⟨rfl, ?_, ?_, ?_⟩ <;> (repeat' apply And.intro) <;> first | exact trivial | rfl | exact wr_succ _ (by omega) | assumption | exact decide_eq_false (by assumption) | exact decide_eq_true (by assumption)
  conv => whnf
  refine callp0 [1] rfl rfl (ra_number s hs 1000 (by decide) (by decide) (0, false) (in0 s)) rfl rfl rfl rfl rfl ?_
  conv => whnf
  rw [show rdN s 1000 (0, false) = qC s from rfl]
  conv => whnf
  refine callp0 [1] rfl rfl (ra_id s hs (qC s).2 (inC s)) rfl rfl rfl rfl rfl ?_
  conv => whnf
  rw [show rdN s 4611686018427387903 (qC s).2 = qI s from rfl]
  conv => whnf
  refine callp0 [1] rfl rfl (ra_number s hs 1000000 (by decide) (by decide) (qI s).2 (inI s)) rfl rfl rfl rfl rfl ?_
  conv => whnf
  rw [show rdN s 1000000 (qI s).2 = qR s from rfl]
  conv => whnf
  refine callp0 [1] rfl rfl (al_node s hs (qR s).2 (inR s)) rfl rfl rfl rfl rfl ?_
  conv => whnf
  rw [show listA s (oneN s) (qR s).2 = qN s from rfl]
  conv => whnf
  refine callp0 [1] rfl rfl (al_edge s hs (qN s).2 (inN s)) rfl rfl rfl rfl rfl ?_
  conv => whnf
  rw [show listA s (oneE s) (qN s).2 = qE s from rfl]
  conv => whnf
  refine callp0 [1] rfl rfl (al_id s hs (qE s).2 (inE s)) rfl rfl rfl rfl rfl ?_
  conv => whnf
  rw [show listA s (oneI s) (qE s).2 = qD s from rfl]
  conv => whnf
  refine ⟨fun hx => ?_⟩
  clear hx
  refine weaken (st := ⟨[(0, .c (.str s)), (2, .c (.ptr 0 0)), (3, .c (.int .i64 0)), (4, .c (.ptr 1 0)), (5, .c (.ptr 2 0)), (34, .c (.ptr 1 0)), (36, .c (.int .i64 s.length))],
    [(0, .cells 31 an), (1, .cells 72 [.str s, .int .i64 (qD s).2.1, .bool (.sym (qD s).2.2)]), (2, .cells 31 (ac ((qC s).1, (qI s).1, (qR s).1, (qN s).1, (qE s).1, (qD s).1, C0)))], 3⟩) ?_ (go0 ?_)
  · (conv => whnf); refine ⟨rfl, ?_, ?_, ?_⟩ <;> (repeat' apply And.intro) <;> first | exact trivial | rfl | exact wr_succ _ (by omega) | assumption | exact decide_eq_false (by assumption) | exact decide_eq_true (by assumption)
  conv => whnf
  refine callp0 [1] rfl rfl (ra_text s hs s.length (by omega) (qD s).2 (inD s)) rfl rfl rfl rfl rfl ?_
  conv => whnf
  rw [show rdT s s.length (qD s).2 = qT s from rfl]
  conv => whnf
  refine ⟨fun z => ?_, fun z => ?_⟩
  · have z : ¬ (qT s).1 = [] := by have z : (!decide ((qT s).1 = [])) = true := z; simpa using z
    have hc : catOf (qT s).1 = (decCS (qT s).1, !decide (decCE (qT s).1 = 0)) := if_neg z
    have hl : (qT s).1.length ≤ 100000000 := by have : ((qT s).1.length : Int) ≤ s.length := rdT_le s s.length _ (by omega); omega
    conv => whnf
    refine call1 (cat_Decode (qT s).1 hl) rfl ?_
    conv => whnf
    have hX : rawA s = ((qC s).1, (qI s).1, (qR s).1, (qN s).1, (qE s).1, (qD s).1, decCS (qT s).1) := by unfold rawA; rw [hc]
    have hw := repA_wf s
    rw [hX] at hw
    refine callg0 (fun _ => ans_Good ((qC s).1, (qI s).1, (qR s).1, (qN s).1, (qE s).1, (qD s).1, decCS (qT s).1) hw.1 hw.2) rfl ?_
    conv => whnf
    have hk := okA_eq s (b := ((qT s).2.2 || !decide (decCE (qT s).1 = 0))) (by unfold badA; rw [hc]; skip) hX
    refine ⟨fun f => ?_, fun f => ?_⟩
    · have f : (((qT s).2.2 || !decide (decCE (qT s).1 = 0)) || !decide ((qT s).2.1 = s.length) || !goodA ((qC s).1, (qI s).1, (qR s).1, (qN s).1, (qE s).1, (qD s).1, decCS (qT s).1)) = true := f
      have hk : okA s = false := by rw [hk, f]; rfl
      rw [show repA s = A0 from if_neg (by rw [hk]; decide), show repE s = 11 from if_neg (by rw [hk]; decide)]
      conv => whnf
      exact .inr ⟨rfl, rfl⟩
    · have f : (((qT s).2.2 || !decide (decCE (qT s).1 = 0)) || !decide ((qT s).2.1 = s.length) || !goodA ((qC s).1, (qI s).1, (qR s).1, (qN s).1, (qE s).1, (qD s).1, decCS (qT s).1)) = false := f
      have hk : okA s = true := by rw [hk, f]; rfl
      rw [show repA s = ((qC s).1, (qI s).1, (qR s).1, (qN s).1, (qE s).1, (qD s).1, decCS (qT s).1) from (if_pos hk).trans hX, show repE s = 0 from if_pos hk]
      conv => whnf
      exact .inl rfl
  · have z : (qT s).1 = [] := by have z : (!decide ((qT s).1 = [])) = false := z; simpa using z
    have hc : catOf (qT s).1 = (C0, false) := if_pos z
    conv => whnf
    have hX : rawA s = ((qC s).1, (qI s).1, (qR s).1, (qN s).1, (qE s).1, (qD s).1, C0) := by unfold rawA; rw [hc]
    have hw := repA_wf s
    rw [hX] at hw
    refine callg0 (fun _ => ans_Good ((qC s).1, (qI s).1, (qR s).1, (qN s).1, (qE s).1, (qD s).1, C0) hw.1 hw.2) rfl ?_
    conv => whnf
    have hk := okA_eq s (b := (qT s).2.2) (by unfold badA; rw [hc]; exact Bool.or_false _) hX
    refine ⟨fun f => ?_, fun f => ?_⟩
    · have f : ((qT s).2.2 || !decide ((qT s).2.1 = s.length) || !goodA ((qC s).1, (qI s).1, (qR s).1, (qN s).1, (qE s).1, (qD s).1, C0)) = true := f
      have hk : okA s = false := by rw [hk, f]; rfl
      rw [show repA s = A0 from if_neg (by rw [hk]; decide), show repE s = 11 from if_neg (by rw [hk]; decide)]
      conv => whnf
      exact .inr ⟨rfl, rfl⟩
    · have f : ((qT s).2.2 || !decide ((qT s).2.1 = s.length) || !goodA ((qC s).1, (qI s).1, (qR s).1, (qN s).1, (qE s).1, (qD s).1, C0)) = false := f
      have hk : okA s = true := by rw [hk, f]; rfl
      rw [show repA s = ((qC s).1, (qI s).1, (qR s).1, (qN s).1, (qE s).1, (qD s).1, C0) from (if_pos hk).trans hX, show repE s = 0 from if_pos hk]
      conv => whnf
      exact .inl rfl
end Go.Proofs.Ytnldokebmfojeaa
/- The walks of answer.writer.props, Encode, Message. Own work. -/
set_option linter.unusedVariables false
set_option maxRecDepth 100000
namespace Go.Proofs.Ytnldokebmfojeaa
open Go Go.RowKit OE

abbrev wT : Nat := 52
theorem writer_props (bs : List UInt8) (l : List PD.T) (hl : Wf (.list PD) l) (hb : bs.length + (encPs l).length ≤ 140737488355328) :
    FnP Try.prog 17 [.c (.ptr 0 0), .c (.dat PD l)] (hpB wT (.ptr 0 0) bs) 2 kpB .un (hpC wT (bs ++ encPs l)) 3 := by
  refine fnP noI Try.func17 rfl rfl rfl rfl ?_
  conv => whnf
  refine call1 (val_EncodeProps l hl) rfl ?_
  conv => whnf
  refine callp0 [0, 1] rfl rfl (ww_WriteString (.ptr 0 0) (.inr rfl) bs (encPs l) hb) rfl rfl rfl rfl rfl ?_
  conv => whnf
  refine ⟨rfl, ?_, ?_, ?_⟩ <;> (repeat' apply And.intro) <;> first | exact trivial | rfl | assumption
abbrev enSt (r : AD.T) (bs : List UInt8) (fr : List (Nat × SV)) : St := ⟨(1, .c (.ptr 0 0)) :: (4, .c (.ptr 1 0)) :: fr, [(0, .cells 31 (ac r)), (1, .cells wT [.ptr 1 0, .row 2]), (2, .row 5 (.int .u8) (byI bs))], 3⟩
theorem putN_ne (n : Nat) : Num.putN n ≠ [] := by
  intro h
  rw [Num.putN] at h
  split at h <;> cases h
theorem encA_ne (r : AD.T) : encA r ≠ [] := by
  intro h
  unfold encA Num.putT at h
  exact putN_ne _ (List.append_eq_nil_iff.1 (List.append_eq_nil_iff.1 h).2).1
theorem ans_Encode (r : AD.T) (hw : Wf AD r) (hl : (aC r).2.2.1.length ≤ 1000) : FnD Try.prog 6 [.agg (ac r)] (· = .tup [(false, [.str (encAS r)]), (false, [.int .i64 (errA r)])]) := by
  refine fn0 Try.func6 rfl rfl rfl ?_
  conv => whnf
  refine call1 (ans_Good r hw hl) rfl ?_
  conv => whnf
  refine ⟨fun g => ?_, fun g => ?_⟩
  · have g : ¬ goodA r = true := by revert g; cases goodA r <;> simp
    rw [show encAS r = [] from if_neg g, show errA r = 11 from if_neg g]
    conv => whnf
  have g : goodA r = true := by revert g; cases goodA r <;> simp
  rw [show encAS r = encA r from if_pos g, show errA r = 0 from if_pos g]
  have hg := goodA_out g
  have hsh := hg.short hw
  have p1 := Num.putN_ten (wrap_u64 r.1).2
  have p2 := Num.putN_ten (wrap_u64 r.2.1).2
  have p3 := Num.putN_ten (wrap_u64 r.2.2.1).2
  have l4 := enc4_len r
  have l5 := hsh.l5
  have l6 := hsh.l6
  conv => whnf
  refine nilrc0 1 1 5 (.int .u8) rfl rfl ?_
  conv => whnf
  refine callp0 [1, 2] rfl rfl (writer_number0 [] r.1 (by decide)) rfl rfl rfl rfl rfl ?_
  conv => whnf
  refine callp0 [1, 3] rfl rfl (writer_number ([] ++ Num.putN (u64 r.1)) r.2.1 (by rw [List.nil_append]; omega)) rfl rfl rfl rfl rfl ?_
  conv => whnf
  refine callp0 [1, 4] rfl rfl (writer_number ([] ++ Num.putN (u64 r.1) ++ Num.putN (u64 r.2.1)) r.2.2.1 (by rw [List.nil_append, List.length_append]; omega)) rfl rfl rfl rfl rfl ?_
  conv => whnf
  intro _
  conv => whnf
  refine callp0 [1, 5] rfl rfl (writer_number ([] ++ Num.putN (u64 r.1) ++ Num.putN (u64 r.2.1) ++ Num.putN (u64 r.2.2.1)) r.2.2.2.1.length (by rw [List.nil_append, List.length_append, List.length_append]; omega)) rfl rfl rfl rfl rfl ?_
  conv => whnf
  intro _
  conv => whnf
  refine loop0 (α := Nat) (fun i => i ≤ r.2.2.2.1.length) (fun i => enSt r (enc4 r ++ flB encN (r.2.2.2.1.take i)) [(36, .c (.dat ND r.2.2.2.1)), (37, .c (.int .i64 r.2.2.2.1.length)), (38, .c (.int .i64 i))]) (fun i => r.2.2.2.1.length - i) ⟨0, by omega, ?_⟩ ?_
  · rw [List.take_zero, show flB encN [] = [] from rfl, List.append_nil]
    (conv => whnf); refine ⟨rfl, ?_, ?_, ?_⟩ <;> (repeat' apply And.intro) <;> first | exact trivial | rfl | exact wr_succ _ (by omega) | assumption | exact decide_eq_false (by assumption) | exact decide_eq_true (by assumption)
  rintro i hi
  conv => whnf
  refine ⟨fun h2 => ?_, fun h2 => ?_⟩
  · have h2 : i < r.2.2.2.1.length := by rw [decide_eq_true_eq] at h2; omega
    have f1 := hsh.f1 i
    have q1 := Num.putN_ten (wrap_u64 r.2.2.2.1[i].1).2
    have hgn := hg.g1 _ (List.getElem_mem h2)
    have hwn := hw.2.2.2.1.2 _ (List.getElem_mem h2)
    have hen := hsh.g1 _ (List.getElem_mem h2)
    have hnl : r.2.2.2.1[i].2.1.length ≤ 140737488351232 := hwn.2.1
    have htl : (Num.putT r.2.2.2.1[i].2.1).length ≤ 26 := putT_b (nameS_len (by unfold goodN at hgn; simp only [Bool.and_eq_true] at hgn; exact hgn.1.2))
    have hpl := encPs_len hwn.2.2
    conv => whnf
    try (intro _; conv => whnf)
    refine ⟨by omega, ?_⟩
    rw [gt_nat (d := ND) r.2.2.2.1 i h2]
    conv => whnf
    refine callp0 [1, 2] rfl rfl (writer_number (enc4 r ++ flB encN (r.2.2.2.1.take i)) r.2.2.2.1[i].1 (by rw [List.length_append]; omega)) rfl rfl rfl rfl rfl ?_
    conv => whnf
    refine any0 ?_
    conv => whnf
    refine callr0 (num_PutText r.2.2.2.1[i].2.1 (by omega)) rfl ?_
    conv => whnf
    refine callrp0 [1, 4] rfl rfl rfl (ww_WriteString (.ptr 0 0) (.inr rfl) (enc4 r ++ flB encN (r.2.2.2.1.take i) ++ Num.putN (u64 r.2.2.2.1[i].1)) (Num.putT r.2.2.2.1[i].2.1) (by simp only [List.length_append]; omega)) rfl rfl rfl rfl rfl rfl [] rfl rfl ?_
    conv => whnf
    refine ⟨.inl (by kernel_rfl), after0 ?_⟩
    conv => whnf
    refine callp0 [1, 11] rfl rfl (writer_props (enc4 r ++ flB encN (r.2.2.2.1.take i) ++ Num.putN (u64 r.2.2.2.1[i].1) ++ Num.putT r.2.2.2.1[i].2.1) r.2.2.2.1[i].2.2 hwn.2.2 (by simp only [List.length_append]; omega)) rfl rfl rfl rfl rfl ?_
    conv => whnf
    refine ⟨i + 1, ⟨by omega, by omega⟩, ?_⟩
    rw [flB_step encN h2, show enc4 r ++ (flB encN (r.2.2.2.1.take i) ++ encN r.2.2.2.1[i]) = enc4 r ++ flB encN (r.2.2.2.1.take i) ++ Num.putN (u64 r.2.2.2.1[i].1) ++ Num.putT r.2.2.2.1[i].2.1 ++ encPs r.2.2.2.1[i].2.2 by unfold encN; simp only [List.append_assoc]]
    (conv => whnf); refine ⟨rfl, ?_, ?_, ?_⟩ <;> (repeat' apply And.intro) <;> first | exact trivial | rfl | exact wr_succ _ (by omega) | assumption | exact decide_eq_false (by assumption) | exact decide_eq_true (by assumption)
  have h2 : r.2.2.2.1.length ≤ i := by rw [decide_eq_false_iff_not] at h2; omega
  rw [List.take_of_length_le h2]
  clear h2 hi
  have f1 := hsh.f1 r.2.2.2.1.length
  rw [List.take_length] at f1
  conv => whnf
  intro _
  conv => whnf
  refine callp0 [1, 2] rfl rfl (writer_number (enc4 r ++ flB encN r.2.2.2.1) r.2.2.2.2.1.length (by rw [List.length_append]; omega)) rfl rfl rfl rfl rfl ?_
  conv => whnf
  rw [show enc4 r ++ flB encN r.2.2.2.1 ++ Num.putN (u64 r.2.2.2.2.1.length) = enc5 r from rfl]
  intro _
  conv => whnf
  refine loop0 (α := Nat) (fun i => i ≤ r.2.2.2.2.1.length) (fun i => enSt r (enc5 r ++ flB encE (r.2.2.2.2.1.take i)) [(64, .c (.dat ED r.2.2.2.2.1)), (65, .c (.int .i64 r.2.2.2.2.1.length)), (66, .c (.int .i64 i))]) (fun i => r.2.2.2.2.1.length - i) ⟨0, by omega, ?_⟩ ?_
  · rw [List.take_zero, show flB encE [] = [] from rfl, List.append_nil]
    (conv => whnf); refine ⟨rfl, ?_, ?_, ?_⟩ <;> (repeat' apply And.intro) <;> first | exact trivial | rfl | exact wr_succ _ (by omega) | assumption | exact decide_eq_false (by assumption) | exact decide_eq_true (by assumption)
  rintro i hi
  conv => whnf
  refine ⟨fun h2 => ?_, fun h2 => ?_⟩
  · have h2 : i < r.2.2.2.2.1.length := by rw [decide_eq_true_eq] at h2; omega
    have f2 := hsh.f2 i
    have q1 := Num.putN_ten (wrap_u64 r.2.2.2.2.1[i].1).2
    have q2 := Num.putN_ten (wrap_u64 r.2.2.2.2.1[i].2.2.1).2
    have q3 := Num.putN_ten (wrap_u64 r.2.2.2.2.1[i].2.2.2.1).2
    have hgn := hg.g2 _ (List.getElem_mem h2)
    have hwn := hw.2.2.2.2.1.2 _ (List.getElem_mem h2)
    have hnl : r.2.2.2.2.1[i].2.1.length ≤ 140737488351232 := hwn.2.1
    have htl : (Num.putT r.2.2.2.2.1[i].2.1).length ≤ 26 := putT_b (nameS_len (by unfold goodE at hgn; simp only [Bool.and_eq_true] at hgn; exact hgn.1.2))
    have hpl := encPs_len hwn.2.2.2.2
    conv => whnf
    try (intro _; conv => whnf)
    refine ⟨by omega, ?_⟩
    rw [gt_nat (d := ED) r.2.2.2.2.1 i h2]
    conv => whnf
    refine callp0 [1, 2] rfl rfl (writer_number (enc5 r ++ flB encE (r.2.2.2.2.1.take i)) r.2.2.2.2.1[i].1 (by rw [List.length_append]; omega)) rfl rfl rfl rfl rfl ?_
    conv => whnf
    refine any0 ?_
    conv => whnf
    refine callr0 (num_PutText r.2.2.2.2.1[i].2.1 (by omega)) rfl ?_
    conv => whnf
    refine callrp0 [1, 4] rfl rfl rfl (ww_WriteString (.ptr 0 0) (.inr rfl) (enc5 r ++ flB encE (r.2.2.2.2.1.take i) ++ Num.putN (u64 r.2.2.2.2.1[i].1)) (Num.putT r.2.2.2.2.1[i].2.1) (by simp only [List.length_append]; omega)) rfl rfl rfl rfl rfl rfl [] rfl rfl ?_
    conv => whnf
    refine ⟨.inl (by kernel_rfl), after0 ?_⟩
    conv => whnf
    refine callp0 [1, 11] rfl rfl (writer_number (enc5 r ++ flB encE (r.2.2.2.2.1.take i) ++ Num.putN (u64 r.2.2.2.2.1[i].1) ++ Num.putT r.2.2.2.2.1[i].2.1) r.2.2.2.2.1[i].2.2.1 (by simp only [List.length_append]; omega)) rfl rfl rfl rfl rfl ?_
    conv => whnf
    refine callp0 [1, 12] rfl rfl (writer_number (enc5 r ++ flB encE (r.2.2.2.2.1.take i) ++ Num.putN (u64 r.2.2.2.2.1[i].1) ++ Num.putT r.2.2.2.2.1[i].2.1 ++ Num.putN (u64 r.2.2.2.2.1[i].2.2.1)) r.2.2.2.2.1[i].2.2.2.1 (by simp only [List.length_append]; omega)) rfl rfl rfl rfl rfl ?_
    conv => whnf
    refine callp0 [1, 13] rfl rfl (writer_props (enc5 r ++ flB encE (r.2.2.2.2.1.take i) ++ Num.putN (u64 r.2.2.2.2.1[i].1) ++ Num.putT r.2.2.2.2.1[i].2.1 ++ Num.putN (u64 r.2.2.2.2.1[i].2.2.1) ++ Num.putN (u64 r.2.2.2.2.1[i].2.2.2.1)) r.2.2.2.2.1[i].2.2.2.2 hwn.2.2.2.2 (by simp only [List.length_append]; omega)) rfl rfl rfl rfl rfl ?_
    conv => whnf
    refine ⟨i + 1, ⟨by omega, by omega⟩, ?_⟩
    rw [flB_step encE h2, show enc5 r ++ (flB encE (r.2.2.2.2.1.take i) ++ encE r.2.2.2.2.1[i]) = enc5 r ++ flB encE (r.2.2.2.2.1.take i) ++ Num.putN (u64 r.2.2.2.2.1[i].1) ++ Num.putT r.2.2.2.2.1[i].2.1 ++ Num.putN (u64 r.2.2.2.2.1[i].2.2.1) ++ Num.putN (u64 r.2.2.2.2.1[i].2.2.2.1) ++ encPs r.2.2.2.2.1[i].2.2.2.2 by unfold encE; simp only [List.append_assoc]]
    (conv => whnf); refine ⟨rfl, ?_, ?_, ?_⟩ <;> (repeat' apply And.intro) <;> first | exact trivial | rfl | exact wr_succ _ (by omega) | assumption | exact decide_eq_false (by assumption) | exact decide_eq_true (by assumption)
  have h2 : r.2.2.2.2.1.length ≤ i := by rw [decide_eq_false_iff_not] at h2; omega
  rw [List.take_of_length_le h2]
  clear h2 hi
  have f2 := hsh.f2 r.2.2.2.2.1.length
  rw [List.take_length] at f2
  conv => whnf
  intro _
  conv => whnf
  refine callp0 [1, 2] rfl rfl (writer_number (enc5 r ++ flB encE r.2.2.2.2.1) r.2.2.2.2.2.1.length (by rw [List.length_append]; omega)) rfl rfl rfl rfl rfl ?_
  conv => whnf
  rw [show enc5 r ++ flB encE r.2.2.2.2.1 ++ Num.putN (u64 r.2.2.2.2.2.1.length) = enc6 r from rfl]
  intro _
  conv => whnf
  refine loop0 (α := Nat) (fun i => i ≤ r.2.2.2.2.2.1.length) (fun i => enSt r (enc6 r ++ flB (α := Int) encI (r.2.2.2.2.2.1.take i)) [(100, .c (.dat LD r.2.2.2.2.2.1)), (101, .c (.int .i64 r.2.2.2.2.2.1.length)), (102, .c (.int .i64 i))]) (fun i => r.2.2.2.2.2.1.length - i) ⟨0, by omega, ?_⟩ ?_
  · rw [List.take_zero, show flB (α := Int) encI [] = [] from rfl, List.append_nil]
    (conv => whnf); refine ⟨rfl, ?_, ?_, ?_⟩ <;> (repeat' apply And.intro) <;> first | exact trivial | rfl | exact wr_succ _ (by omega) | assumption | exact decide_eq_false (by assumption) | exact decide_eq_true (by assumption)
  rintro i hi
  conv => whnf
  refine ⟨fun h2 => ?_, fun h2 => ?_⟩
  · have h2 : i < r.2.2.2.2.2.1.length := by rw [decide_eq_true_eq] at h2; omega
    have f3 := hsh.f3 i
    conv => whnf
    try (intro _; conv => whnf)
    refine ⟨by omega, ?_⟩
    rw [gt_nat (d := LD) r.2.2.2.2.2.1 i h2]
    conv => whnf
    refine callp0 [1, 2] rfl rfl (writer_number (enc6 r ++ flB (α := Int) encI (r.2.2.2.2.2.1.take i)) r.2.2.2.2.2.1[i] (by rw [List.length_append]; omega)) rfl rfl rfl rfl rfl ?_
    conv => whnf
    refine ⟨i + 1, ⟨by omega, by omega⟩, ?_⟩
    rw [show flB (α := Int) encI (r.2.2.2.2.2.1.take (i + 1)) = flB (α := Int) encI (r.2.2.2.2.2.1.take i) ++ encI r.2.2.2.2.2.1[i] from flB_step (α := Int) encI h2, ← List.append_assoc]
    (conv => whnf); refine ⟨rfl, ?_, ?_, ?_⟩ <;> (repeat' apply And.intro) <;> first | exact trivial | rfl | exact wr_succ _ (by omega) | assumption | exact decide_eq_false (by assumption) | exact decide_eq_true (by assumption)
  have h2 : r.2.2.2.2.2.1.length ≤ i := by rw [decide_eq_false_iff_not] at h2; omega
  rw [List.take_of_length_le h2]
  clear h2 hi
  have f3 := hsh.f3 r.2.2.2.2.2.1.length
  rw [List.take_length] at f3
  have f4 := encCS_len (aC r)
  have f5 := putT_len (encCS (aC r)) (by omega)
  conv => whnf
  refine call1 (cat_Encode (aC r) hw.2.2.2.2.2.2 hl) rfl ?_
  conv => whnf
  refine any0 ?_
  conv => whnf
  refine callr0 (num_PutText (encCS (aC r)) (by omega)) rfl ?_
  conv => whnf
  refine callrp0 [1, 2] rfl rfl rfl (ww_WriteString (.ptr 0 0) (.inr rfl) (enc6 r ++ flB (α := Int) encI r.2.2.2.2.2.1) (Num.putT (encCS (aC r))) (by simp only [List.length_append]; omega)) rfl rfl rfl rfl rfl rfl [] rfl rfl ?_
  conv => whnf
  refine ⟨.inl (by kernel_rfl), after0 ?_⟩
  conv => whnf
  rw [show enc6 r ++ flB (α := Int) encI r.2.2.2.2.2.1 ++ Num.putT (encCS (aC r)) = encA r from rfl]
  refine callp0 [1, 8] rfl rfl (sb_String wT (.ptr 0 0) (.inr rfl) (encA r) (encA_ne r)) rfl rfl rfl rfl rfl ?_
  conv => whnf
def msgA (r : AD.T) : List UInt8 := if goodA r = true then Num.putT (encA r) else []
end Go.Proofs.Ytnldokebmfojeaa
