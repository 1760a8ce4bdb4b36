/- The walks of cat.Settle and of the reference's. Own work. -/
import Derived.Test.YthpllblcbbkfdaaCatChange
set_option linter.unusedVariables false
set_option maxRecDepth 100000
namespace Go.Proofs.Ythpllblcbbkfdaa
open Go Go.RowKit OE

/-- a catalog alone, or nothing -/
def catA (c : CD.T) (r : SV) : Prop := r = .agg (cc c) ∨ (c = C0 ∧ r = .agg cn) ∨ (c.2.2.1 = [] ∧ r = .agg [.dat SD c.1, .dat SD c.2.1, .val (.slice none 0 0), .dat ID c.2.2.2.1, .int .i64 c.2.2.2.2])
theorem FnD.catA {P : Program} {f : Nat} {args : List SV} {c : CD.T} (h : FnD P f args (catA c)) : FnD P f args (· = .agg (cc c)) :=
  h.res fun r hr w ok v hv => by
    rcases hr with rfl | ⟨rfl, rfl⟩ | ⟨he, rfl⟩
    · exact hv
    · obtain ⟨us, e2, hl2⟩ := hv
      refine ⟨us, e2, ?_⟩
      generalize us.toList = n at hl2
      match n, hl2 with
      | [a, b, c, d, e], ⟨h1, h2, h3, h4, h5, _⟩ => exact ⟨nilC h1, nilC h2, nilC h3, nilC h4, h5, trivial⟩
    · obtain ⟨us, e2, hl2⟩ := hv
      refine ⟨us, e2, ?_⟩
      generalize us.toList = n at hl2
      match n, hl2 with
      | [a, b, c, d, e], ⟨h1, h2, h3, h4, h5, _⟩ => exact ⟨h1, h2, by rw [he]; exact nilC h3, h4, h5, trivial⟩

def stays (r : RD.T) : Bool := !decide (stR r = 1)
def settleS (c : CD.T) : CD.T := if goodC c = false then C0 else (c.1, c.2.1, c.2.2.1.filter stays, c.2.2.2.1, c.2.2.2.2)
/-- what is kept while -/
abbrev stS (c : CD.T) (l : List RD.T) : List (Nat × Ob) :=
  [(8, .cells 94 [.row 4, .row 5, .row 6, .row 7, .int .i64 c.2.2.2.2]),
   (4, .row 9 SD c.1), (5, .row 9 SD c.2.1), (6, .row 38 RD l), (7, .row 40 ID c.2.2.2.1),
   (3, .cells 26 cn), (1, .cells 26 cn)]
theorem take_set_succ {α : Type} {l : List α} {i : Nat} {x : α} (h : i < l.length) : (l.set i x).take (i + 1) = l.take i ++ [x] := by
  rw [take_step (by rw [List.length_set]; exact h), List.take_set_of_le (Nat.le_refl _)]
  simp
theorem cat_Settle (c : CD.T) (hw : Wf CD c) (g1 : c.1.length ≤ 1000) (g2 : c.2.1.length ≤ 1000) (g3 : c.2.2.1.length ≤ 1000) (g4 : c.2.2.2.1.length ≤ 1000) :
    FnD Try.prog 33 [.agg (cc c)] (· = .agg (cc (settleS c))) := by
  refine FnD.catA ?_
  refine fnI inlA Try.func33 rfl rfl rfl ?_
  conv => whnf
  refine call1 (cat_Good c hw.2.2.1.2 g3) rfl ?_
  conv => whnf
  refine ⟨fun h1 => ?_, fun h1 => ?_⟩
  · have hA : settleS c = C0 := if_pos (not_t h1)
    rw [hA]
    conv => whnf
    exact .inr (.inl ⟨rfl, rfl⟩)
  have hA : settleS c = (c.1, c.2.1, c.2.2.1.filter stays, c.2.2.2.1, c.2.2.2.2) := if_neg (by simp [not_f h1])
  rw [hA]
  conv => whnf
  refine callo0 (own_Copy c g1 g2 g3 g4) rfl ?_
  conv => whnf
  intro _
  conv => whnf
  refine loop0 (α := Nat) (fun j => j ≤ c.2.2.1.length ∧ (c.2.2.1.take j).filter stays = c.2.2.1.take j)
    (fun j => ⟨[(0, .c (.row 6)), (1, .c (.fn 77 [])), (7, .c (.int .i64 c.2.2.1.length)), (8, .c (.int .i64 j))], stS c c.2.2.1, 9⟩) (fun j => c.2.2.1.length - j) ⟨0, ⟨by omega, rfl⟩, ?_⟩ ?_
  · (conv => whnf); refine ⟨rfl, ?_, ?_, ?_⟩ <;> (repeat' apply And.intro) <;> first | exact trivial | rfl | exact wr_succ _ (by omega) | assumption | exact decide_eq_false (by assumption) | exact decide_eq_true (by assumption)
  rintro j ⟨hJ1, hJ2⟩
  conv => whnf
  refine ⟨fun h4 => ?_, fun h4 => ?_⟩
  · have h4 : j < c.2.2.1.length := by simp at h4; omega
    conv => whnf
    intro _
    conv => whnf
    refine ⟨by omega, ?_⟩
    conv => whnf
    refine ⟨by omega, ?_⟩
    conv => whnf
    rw [gt_nat (d := RD) c.2.2.1 j h4]
    refine ⟨fun h5 => ?_, fun h5 => ?_⟩
    · conv => whnf
      refine fk (by simp) ?_
      conv => whnf
      refine loop0 (α := Nat × Nat × List RD.T) (fun p => p.1 < p.2.1 ∧ p.2.1 ≤ c.2.2.1.length ∧ p.2.2.length = c.2.2.1.length ∧ p.2.2.take p.1 = (c.2.2.1.take p.2.1).filter stays ∧ p.2.2.drop p.2.1 = c.2.2.1.drop p.2.1)
        (fun p => ⟨[(0, .c (.row 6)), (1, .c (.fn 77 [])), (4, .c (.val (.slice none 0 0))), (5, .c (.int .i64 p.1)), (6, .c (.int .i64 p.2.1))], stS c p.2.2, 9⟩) (fun p => c.2.2.1.length - p.2.1) ⟨(j, j + 1, c.2.2.1), ⟨by dsimp only; omega, by dsimp only; omega, rfl, ?_, rfl⟩, ?_⟩ ?_
      · dsimp only
        rw [take_step h4, List.filter_append, hJ2]
        have : stays c.2.2.1[j] = false := by unfold stays; rw [Bool.not_eq_false']; exact h5
        simp [this]
      · (conv => whnf); refine ⟨rfl, ?_, ?_, ?_⟩ <;> (repeat' apply And.intro) <;> first | exact trivial | rfl | exact wr_succ _ (by omega) | assumption | exact decide_eq_false (by assumption) | exact decide_eq_true (by assumption)
      rintro ⟨i, k, zs⟩ ⟨hK1, hK2, hK3, hK4, hK5⟩
      dsimp only at hK1 hK2 hK3 hK4 hK5 ⊢
      conv => whnf
      intro _
      refine ⟨fun h6 => ?_, fun h6 => ?_⟩
      · have h6 : k < zs.length := by simp at h6; omega
        have hzk : zs[k] = c.2.2.1[k]'(by omega) := by
          have := congrArg (fun l => l[0]?) hK5
          simp only [List.getElem?_drop, Nat.add_zero] at this
          rw [List.getElem?_eq_getElem h6, List.getElem?_eq_getElem (by omega)] at this
          exact Option.some.inj this
        conv => whnf
        intro _
        conv => whnf
        refine ⟨by omega, ?_⟩
        conv => whnf
        refine ⟨by omega, ?_⟩
        conv => whnf
        rw [gt_nat (d := RD) zs k h6, hzk]
        refine ⟨fun h7 => ?_, fun h7 => ?_⟩
        · conv => whnf
          intro _
          conv => whnf
          refine ⟨by omega, ?_⟩
          conv => whnf
          refine ⟨by omega, ?_⟩
          conv => whnf
          rw [Int.toNat_natCast]
          have hks : stays c.2.2.1[k] = true := by unfold stays; rw [Bool.not_eq_true']; simpa using h7
          refine ⟨(i + 1, k + 1, zs.set i c.2.2.1[k]), ⟨⟨by dsimp only; omega, by dsimp only; omega, by dsimp only; rw [List.length_set]; exact hK3, ?_, ?_⟩, by dsimp only; omega⟩, ?_⟩
          · dsimp only
            rw [take_step (show k < c.2.2.1.length by omega), List.filter_append, ← hK4, take_set_succ (by omega)]
            simp [hks]
          · dsimp only
            rw [List.drop_set_of_lt (by omega), ← List.drop_drop, hK5, List.drop_drop]
          (conv => whnf); refine ⟨rfl, ?_, ?_, ?_⟩ <;> (repeat' apply And.intro) <;> first | exact trivial | rfl | exact wr_succ _ (by omega) | assumption | exact decide_eq_false (by assumption) | exact decide_eq_true (by assumption)
        · conv => whnf
          refine ⟨(i, k + 1, zs), ⟨⟨by dsimp only; omega, by dsimp only; omega, hK3, ?_, ?_⟩, by dsimp only; omega⟩, ?_⟩
          · dsimp only
            rw [take_step (show k < c.2.2.1.length by omega), List.filter_append, hK4]
            have : stays c.2.2.1[k] = false := by unfold stays; rw [Bool.not_eq_false']; simpa using h7
            simp [this]
          · dsimp only
            rw [← List.drop_drop, hK5, List.drop_drop]
          (conv => whnf); refine ⟨rfl, ?_, ?_, ?_⟩ <;> (repeat' apply And.intro) <;> first | exact trivial | rfl | exact wr_succ _ (by omega) | assumption | exact decide_eq_false (by assumption) | exact decide_eq_true (by assumption)
      have hkl : k = c.2.2.1.length := by simp at h6; omega
      conv => whnf
      refine opns 6 rfl (by omega) fun z hz1 hz2 => ?_
      conv => whnf
      refine ⟨by omega, ?_⟩
      conv => whnf
      refine ⟨by omega, ?_⟩
      conv => whnf
      refine ⟨by omega, ?_⟩
      conv => whnf
      refine fk rfl ?_
      conv => whnf
      rw [Int.toNat_natCast]
      refine ⟨rfl, by simp; omega, ?_⟩
      conv => whnf
      refine .inl ?_
      rw [hkl, List.take_of_length_le (Nat.le_refl _)] at hK4
      have hR : ∀ m : List RD.T, (((zs.take (0 + i) ++ m) ++ zs.drop (0 + i + (zs.length - i))).drop (0 + 0)).take (i - 0) = c.2.2.1.filter stays := fun m => by
        rw [← hK4, Nat.zero_add, Nat.zero_add, Nat.sub_zero, List.drop_zero, List.append_assoc, List.take_append_of_le_length (by rw [List.length_take]; omega), List.take_take, Nat.min_self]
      exact congrArg (fun l => SV.agg [C.dat SD c.1, C.dat SD c.2.1, C.dat RD l, C.dat ID c.2.2.2.1, C.int .i64 c.2.2.2.2]) (hR _)
    · conv => whnf
      refine ⟨j + 1, ⟨⟨by omega, ?_⟩, by omega⟩, ?_⟩
      · rw [take_step h4, List.filter_append, hJ2]
        have : stays c.2.2.1[j] = true := by unfold stays; rw [Bool.not_eq_true']; exact h5
        simp [this]
      (conv => whnf); refine ⟨rfl, ?_, ?_, ?_⟩ <;> (repeat' apply And.intro) <;> first | exact trivial | rfl | exact wr_succ _ (by omega) | assumption | exact decide_eq_false (by assumption) | exact decide_eq_true (by assumption)
  rw [List.take_of_length_le (by simp at h4; omega)] at hJ2
  rw [hJ2]
  conv => whnf
  refine tk rfl ?_
  conv => whnf
  refine fk rfl ?_
  conv => whnf
  exact .inl rfl

theorem good_stays {c : CD.T} (h : goodC c = true) : ∀ {l d : List RD.T} {x : Int}, goodL c d x l = true → ∀ r ∈ l, (stR r = 2 ↔ ¬ stR r = 1) := by
  intro l
  induction l with
  | nil => intro d x _ r hr; cases hr
  | cons a l ih =>
    intro d x hg r hr
    simp only [goodL, goodR, Bool.and_eq_true, decide_eq_true_eq] at hg
    rcases List.mem_cons.1 hr with rfl | hr
    · have := hg.2.1.2.2.2
      omega
    · exact ih hg.2.2.2 r hr
theorem good_rules {c : CD.T} (h : goodC c = true) : goodL c [] 0 c.2.2.1 = true := by
  simp only [goodC, rulesS, Bool.and_eq_true] at h
  exact h.2.2.2.2.2.1
theorem own_CopyCat (c : CD.T) (h1 : c.1.length ≤ 1000) (h2 : c.2.1.length ≤ 1000) (h3 : c.2.2.1.length ≤ 1000) (h4 : c.2.2.2.1.length ≤ 1000) :
    FnO Try.prog 17 [.agg (cc c)] (.agg [.row 0, .row 1, .row 2, .row 3, .int .i64 c.2.2.2.2]) [(0, .row 9 SD c.1), (1, .row 9 SD c.2.1), (2, .row 38 RD c.2.2.1), (3, .row 40 ID c.2.2.2.1)] 4 := by
  refine fnO noI Try.func17 rfl rfl rfl ?_
  conv => whnf
  refine ⟨by show (0 + c.1.length) * 16 ≤ 140737488355328; omega, ?_⟩
  conv => whnf
  refine ⟨by show (0 + c.2.1.length) * 16 ≤ 140737488355328; omega, ?_⟩
  conv => whnf
  refine ⟨by show (0 + c.2.2.1.length) * 96 ≤ 140737488355328; omega, ?_⟩
  conv => whnf
  refine ⟨by show (0 + c.2.2.2.1.length) * 32 ≤ 140737488355328; omega, ?_⟩
  conv => whnf
  exact ⟨rfl, ⟨⟨trivial, trivial, trivial, trivial, rfl, trivial⟩, trivial⟩, trivial, rfl, rfl, rfl, rfl, trivial⟩
/-- what is kept, or nothing yet -/
def setSt (c : CD.T) (i : Nat) : List RD.T → St
  | [] => ⟨[(1, .c (.ptr 0 0)), (2, .c (.ptr 1 0)), (3, .c (.val (.slice none 0 0))), (4, .c (.int .i64 i))], [(0, .cells 26 (cc c)), (1, .cells 26 cn)], 2⟩
  | y :: ys => ⟨[(1, .c (.ptr 0 0)), (2, .c (.ptr 1 0)), (3, .c (.row 2)), (4, .c (.int .i64 i))], [(0, .cells 26 (cc c)), (1, .cells 26 cn), (2, .row 38 RD (y :: ys))], 3⟩
theorem ref16_Settle (c : CD.T) (g1 : c.1.length ≤ 1000) (g2 : c.2.1.length ≤ 1000) (g3 : c.2.2.1.length ≤ 1000) (g4 : c.2.2.2.1.length ≤ 1000) :
    FnD Try.prog 34 [.agg (cc c)] (· = .agg (cc (settleS c))) := by
  refine FnD.catA ?_
  refine fn0 Try.func34 rfl rfl rfl ?_
  conv => whnf
  refine call1 (ref16_Good c) rfl ?_
  conv => whnf
  refine ⟨fun h1 => ?_, fun h1 => ?_⟩
  · have hA : settleS c = C0 := if_pos (not_t h1)
    rw [hA]
    conv => whnf
    exact .inr (.inl ⟨rfl, rfl⟩)
  have hA : settleS c = (c.1, c.2.1, c.2.2.1.filter stays, c.2.2.2.1, c.2.2.2.2) := if_neg (by simp [not_f h1])
  rw [hA]
  have hst := good_stays (not_f h1) (good_rules (not_f h1))
  conv => whnf
  refine call1 (keep_CopyCat c g1 g2 g3 g4) rfl ?_
  conv => whnf
  refine loop0 (α := Nat) (fun j => j ≤ c.2.2.1.length) (fun j => setSt c j ((c.2.2.1.take j).filter stays)) (fun j => c.2.2.1.length - j) ⟨0, by omega, ?_⟩ ?_
  · (conv => whnf); refine ⟨rfl, ?_, ?_, ?_⟩ <;> (repeat' apply And.intro) <;> first | exact trivial | rfl | exact wr_succ _ (by omega) | assumption | exact decide_eq_false (by assumption) | exact decide_eq_true (by assumption)
  intro j hJ1
  have hle : ((c.2.2.1.take j).filter stays).length ≤ j := Nat.le_trans (List.length_filter_le _ _) (by rw [List.length_take]; omega)
  cases hzs : (c.2.2.1.take j).filter stays with
  | nil =>
    conv => whnf
    intro _
    refine ⟨fun h2 => ?_, fun h2 => ?_⟩
    · have h2 : j < c.2.2.1.length := by simp at h2; omega
      have hs := hst c.2.2.1[j] (List.getElem_mem h2)
      conv => whnf
      intro _
      conv => whnf
      refine ⟨by omega, ?_⟩
      rw [gt_nat (d := RD) c.2.2.1 j h2]
      refine ⟨fun h3 => ?_, fun h3 => ?_⟩
      · have hk : stays c.2.2.1[j] = true := by
          have h3 : decide (stR c.2.2.1[j] = 2) = true := h3
          unfold stays; rw [Bool.not_eq_true', decide_eq_false_iff_not]; exact hs.1 (of_decide_eq_true h3)
        conv => whnf
        try (intro _; conv => whnf)
        refine ⟨by omega, ?_⟩
        rw [gt_nat (d := RD) c.2.2.1 j h2]
        conv => whnf
        refine ⟨by rw [hzs] at hle; simp only [List.length_nil] at hle; show 1 * 96 ≤ 140737488355328; omega, ?_⟩
        conv => whnf
        refine ⟨j + 1, ⟨by omega, by omega⟩, ?_⟩
        rw [take_step h2, List.filter_append, hzs]
        simp only [List.filter_cons, hk, if_true, List.filter_nil]
        (conv => whnf); refine ⟨rfl, ?_, ?_, ?_⟩ <;> (repeat' apply And.intro) <;> first | exact trivial | rfl | exact wr_succ _ (by omega) | assumption | exact decide_eq_false (by assumption) | exact decide_eq_true (by assumption)
      · have hk : stays c.2.2.1[j] = false := by
          have h3 : decide (stR c.2.2.1[j] = 2) = false := h3
          unfold stays; rw [Bool.not_eq_false']; exact decide_eq_true (Decidable.byContradiction fun e => of_decide_eq_false h3 (hs.2 e))
        conv => whnf
        refine ⟨j + 1, ⟨by omega, by omega⟩, ?_⟩
        rw [take_step h2, List.filter_append, hzs]
        simp only [List.filter_cons, hk, Bool.false_eq_true, if_false, List.filter_nil, List.append_nil]
        (conv => whnf); refine ⟨rfl, ?_, ?_, ?_⟩ <;> (repeat' apply And.intro) <;> first | exact trivial | rfl | exact wr_succ _ (by omega) | assumption | exact decide_eq_false (by assumption) | exact decide_eq_true (by assumption)
    rw [List.take_of_length_le (by simp at h2; omega)] at hzs
    rw [hzs]
    conv => whnf
    exact .inr (.inr ⟨rfl, rfl⟩)
  | cons y ys =>
    conv => whnf
    intro _
    refine ⟨fun h2 => ?_, fun h2 => ?_⟩
    · have h2 : j < c.2.2.1.length := by simp at h2; omega
      have hs := hst c.2.2.1[j] (List.getElem_mem h2)
      conv => whnf
      intro _
      conv => whnf
      refine ⟨by omega, ?_⟩
      rw [gt_nat (d := RD) c.2.2.1 j h2]
      refine ⟨fun h3 => ?_, fun h3 => ?_⟩
      · have hk : stays c.2.2.1[j] = true := by
          have h3 : decide (stR c.2.2.1[j] = 2) = true := h3
          unfold stays; rw [Bool.not_eq_true', decide_eq_false_iff_not]; exact hs.1 (of_decide_eq_true h3)
        conv => whnf
        try (intro _; conv => whnf)
        refine ⟨by omega, ?_⟩
        rw [gt_nat (d := RD) c.2.2.1 j h2]
        conv => whnf
        refine ⟨by rw [hzs] at hle; simp only [List.length_cons] at hle; show (ys.length + 1 + 1) * 96 ≤ 140737488355328; omega, ?_⟩
        conv => whnf
        refine ⟨j + 1, ⟨by omega, by omega⟩, ?_⟩
        rw [take_step h2, List.filter_append, hzs]
        simp only [List.filter_cons, hk, if_true, List.filter_nil]
        (conv => whnf); refine ⟨rfl, ?_, ?_, ?_⟩ <;> (repeat' apply And.intro) <;> first | exact trivial | rfl | exact wr_succ _ (by omega) | assumption | exact decide_eq_false (by assumption) | exact decide_eq_true (by assumption)
      · have hk : stays c.2.2.1[j] = false := by
          have h3 : decide (stR c.2.2.1[j] = 2) = false := h3
          unfold stays; rw [Bool.not_eq_false']; exact decide_eq_true (Decidable.byContradiction fun e => of_decide_eq_false h3 (hs.2 e))
        conv => whnf
        refine ⟨j + 1, ⟨by omega, by omega⟩, ?_⟩
        rw [take_step h2, List.filter_append, hzs]
        simp only [List.filter_cons, hk, Bool.false_eq_true, if_false, List.filter_nil, List.append_nil]
        (conv => whnf); refine ⟨rfl, ?_, ?_, ?_⟩ <;> (repeat' apply And.intro) <;> first | exact trivial | rfl | exact wr_succ _ (by omega) | assumption | exact decide_eq_false (by assumption) | exact decide_eq_true (by assumption)
    rw [List.take_of_length_le (by simp at h2; omega)] at hzs
    rw [hzs]
    conv => whnf
    exact .inl rfl
end Go.Proofs.Ythpllblcbbkfdaa
