/- Which catalogs are good; the walks of cat.Good and of the reference's. Own work. -/
import Derived.Test.YthpllblcbbkfdaaCatOrd
import Derived.Test.YthpllblcbbkfdaaSchemaTypes
import Derived.Test.YthpllblcbbkfdaaRuleForm
set_option linter.unusedVariables false
set_option maxRecDepth 100000
namespace Go.Proofs.Ythpllblcbbkfdaa
open Go Go.RowKit OE

abbrev stR (r : RD.T) : Int := r.2.2.2.2.2.2.2
/-- a rule but for its Id and State -/
def bareS (r : RD.T) : RD.T := (0, r.2.1, r.2.2.1, r.2.2.2.1, r.2.2.2.2.1, r.2.2.2.2.2.1, r.2.2.2.2.2.2.1, 0)
def alikeS (q r : RD.T) : Bool := RD.eqb (bareS q) (bareS r)
def goodR (c : CD.T) (r : RD.T) : Bool := decide (r.1 < c.2.2.2.2) && (formS r && (knownS c r && (decide (1 ≤ stR r) && decide (stR r ≤ 2))))
/-- rules that stand behind others that are good -/
def goodL (c : CD.T) : List RD.T → Int → List RD.T → Bool
  | _, _, [] => true
  | d, last, r :: l => decide (last < r.1) && (goodR c r && (!(d.any fun q => alikeS q r) && goodL c (d ++ [r]) r.1 l))
def bldN (l : List RD.T) : Nat := l.countP fun r => decide (stR r = 1)
def rulesS (c : CD.T) : Bool := goodL c [] 0 c.2.2.1 && (decide (bldN c.2.2.1 ≤ 1) && decide (c.2.2.1.length ≤ 16))
/-- indexes that stand behind one (or none) -/
def idxL (c : CD.T) : Option ID.T → List ID.T → Bool
  | _, [] => true
  | p, x :: l => !(!hasT c.1 x.1 || !nameS x.2 || (match p with | none => false | some q => !ltIx q x)) && idxL c (some x) l
def idxS (c : CD.T) : Bool := idxL c none c.2.2.2.1
def goodC (c : CD.T) : Bool := typesS c && (decide (1 ≤ c.2.2.2.2) && (decide (c.2.2.2.2 ≤ 1000000) && (decide (c.2.2.2.1.length ≤ 16) && (idxS c && rulesS c))))

theorem goodL_step {c : CD.T} {d : List RD.T} {last : Int} {l : List RD.T} {i : Nat} (h : i < l.length) : goodL c d last (l.drop i) = (decide (last < l[i].1) && (goodR c l[i] && (!(d.any fun q => alikeS q l[i]) && goodL c (d ++ [l[i]]) l[i].1 (l.drop (i + 1))))) := by
  rw [List.drop_eq_getElem_cons h]; rfl
theorem idx_step0 {c : CD.T} {l : List ID.T} (h : 0 < l.length) : idxL c none l = (!(!hasT c.1 l[0].1 || !nameS l[0].2 || false) && idxL c (some l[0]) (l.drop 1)) := by
  cases l with
  | nil => simp at h
  | cons x l => rfl
theorem idx_step {c : CD.T} {l : List ID.T} {i : Nat} (h : i + 1 < l.length) : idxL c (some l[i]) (l.drop (i + 1)) = (!(!hasT c.1 l[i + 1].1 || !nameS l[i + 1].2 || !ltIx l[i] l[i + 1]) && idxL c (some l[i + 1]) (l.drop (i + 2))) := by
  rw [List.drop_eq_getElem_cons h]; rfl
theorem idx_end (c : CD.T) (p : Option ID.T) {l : List ID.T} {i : Nat} (h : l.length ≤ i) : idxL c p (l.drop i) = true := by
  rw [List.drop_of_length_le h]; cases p <;> rfl
/-- what stands ahead of a place -/
def prevI (l : List ID.T) : Nat → Option ID.T
  | 0 => none
  | i + 1 => l[i]?
theorem bld_step {l : List RD.T} {i : Nat} (h : i < l.length) : bldN (l.take (i + 1)) = bldN (l.take i) + (if decide (stR l[i] = 1) = true then 1 else 0) := by
  unfold bldN
  rw [take_step h, List.countP_append, List.countP_singleton]
theorem bld_le (l : List RD.T) : bldN l ≤ l.length := List.countP_le_length

theorem cat_bare (r : RD.T) : FnD Try.prog 110 [.agg (rc r)] (· = .agg (rc (bareS r))) := by
  refine fn0 Try.func110 rfl rfl rfl ?_
  conv => whnf
  rfl
theorem ref16_alike (a b : RD.T) : FnD Try.prog 72 [.agg (rc a), .agg (rc b)] (· = .c (.bool (.sym (alikeS a b)))) := by
  refine fn0 Try.func72 rfl rfl rfl ?_
  conv => whnf
  refine call1 (keep_Rule (bareS a) (bareS b)) rfl ?_
  conv => whnf
  rfl

theorem dle (a b : Int) : decide (a ≤ b) = !decide (b < a) := by
  rw [Bool.eq_iff_iff]; simp
theorem goodStep (c : CD.T) (r : RD.T) (last : Int) (A X : Bool) : (decide (last < r.1) && (goodR c r && (!A && X))) = (!(decide (r.1 ≤ last) || decide (c.2.2.2.2 ≤ r.1) || !formS r || !knownS c r || decide (stR r < 1) || decide (2 < stR r) || A) && X) := by
  unfold goodR
  rw [dle r.1 last, dle c.2.2.2.2 r.1, dle 1 (stR r), dle (stR r) 2]
  simp only [Bool.not_or, Bool.not_not, Bool.and_assoc]
theorem le64 {n : Nat} (h : n ≤ 140737488351232) : n ≤ 9223372036854775807 := by omega
theorem bare_ok {r : RD.T} (h : Wf RD r) : RD.ok (bareS r) := by
  obtain ⟨h1, h2, h3, h4, h5, h6, h7, h8⟩ := h
  exact ⟨by show (Lit.int .i64 0).wf = true; decide, h2, le64 h3, le64 h4, le64 h5, le64 h6, h7, by show (Lit.int .i64 0).wf = true; decide⟩

theorem cat_goodRules (c : CD.T) (hw : ∀ r ∈ c.2.2.1, Wf RD r) (hl : c.2.2.1.length ≤ 1000) : FnD Try.prog 69 [.agg (cc c)] (· = .c (.bool (.sym (rulesS c)))) := by
  refine fn0 Try.func69 rfl rfl rfl ?_
  conv => whnf
  intro _
  conv => whnf
  refine loop0 (α := Nat × Int × List (RD.T × Int)) (fun p => p.1 ≤ c.2.2.1.length ∧ (∀ k : RD.T, mval (kd := RD) (vd := .int .i64) p.2.2 k = ((c.2.2.1.take p.1).countP (fun q => RD.eqb (bareS q) k) : Nat)) ∧ goodL c (c.2.2.1.take p.1) p.2.1 (c.2.2.1.drop p.1) = goodL c [] 0 c.2.2.1)
    (fun p => ⟨[(1, .c (.ptr 0 0)), (3, .c (.mp 1)), (4, .c (.int .i64 p.2.1)), (5, .c (.int .i64 (bldN (c.2.2.1.take p.1)))), (10, .c (.dat RD c.2.2.1)), (11, .c (.int .i64 c.2.2.1.length)), (12, .c (.int .i64 p.1))],
      [(0, .cells 26 (cc c)), (1, .dmp 130 RD (.int .i64) p.2.2)], 2⟩) (fun p => c.2.2.1.length - p.1) ⟨(0, 0, []), ⟨by simp, fun k => by simp [mval, midx, D.df], rfl⟩, ?_⟩ ?_
  · (conv => whnf); refine ⟨rfl, ?_, ?_, ?_⟩ <;> (repeat' apply And.intro) <;> first | exact trivial | rfl | exact wr_succ _ (by omega) | assumption | exact decide_eq_false (by assumption) | exact decide_eq_true (by assumption)
  rintro ⟨i, last, es⟩ ⟨hI1, hI3, hI4⟩
  dsimp only at hI1 hI3 hI4 ⊢
  conv => whnf
  refine ⟨fun h2 => ?_, fun h2 => ?_⟩
  · have h2 : i < c.2.2.1.length := by simp at h2; omega
    rw [goodL_step h2] at hI4
    have hb := bld_step h2
    have hwr := hw c.2.2.1[i] (List.getElem_mem h2)
    conv => whnf
    try (intro _; conv => whnf)
    refine ⟨by omega, ?_⟩
    rw [gt_nat (d := RD) c.2.2.1 i h2]
    conv => whnf
    generalize hr : c.2.2.1[i] = r at hI4 hb hwr
    refine any0 ?_
    conv => whnf
    refine callr0 (cat_bare r) rfl ?_
    conv => whnf
    have hok := bare_ok hwr
    refine ⟨hok, ?_⟩
    conv => whnf
    refine ⟨hok, ?_⟩
    conv => whnf
    rw [show ((bareS r).1, (bareS r).2.1, (bareS r).2.2.1, (bareS r).2.2.2.1, (bareS r).2.2.2.2.1, (bareS r).2.2.2.2.2.1, (bareS r).2.2.2.2.2.2.1, (bareS r).2.2.2.2.2.2.2) = bareS r from rfl]
    have hlen := ent_len (kd := RD) (vd := .int .i64) es (bareS r)
    have hcnt := hI3 (bareS r)
    have hle : (c.2.2.1.take i).countP (fun q => RD.eqb (bareS q) (bareS r)) ≤ 1000 := Nat.le_trans List.countP_le_length (by rw [List.length_take]; omega)
    refine ⟨⟨by omega, by omega⟩, ?_⟩
    conv => whnf
    rw [Int.toNat_natCast, ent_mset (kd := RD) (vd := .int .i64) es (bareS r), hcnt, wr_succ' _ (by omega)]
    refine ⟨x0 3 5 rfl (by kernel_rfl) rfl rfl rfl rfl rfl rfl ?_ ?_, after0 ?_⟩
    · exact hok
    · show SV.c (.int .i64 (mval (kd := RD) (vd := .int .i64) (ment es (bareS r)) (bareS r))) = _
      rw [mval_ment (kd := RD) (vd := .int .i64), hcnt]
    conv => whnf
    refine callg0 (fun _ => rule_Form r) rfl ?_
    conv => whnf
    refine callg0 (fun _ => rule_Known c r) rfl ?_
    conv => whnf
    refine callg0 (fun _ => cat_bare r) rfl ?_
    conv => whnf
    refine ⟨fun _ => hok, ?_⟩
    conv => whnf
    rw [show ((bareS r).1, (bareS r).2.1, (bareS r).2.2.1, (bareS r).2.2.2.1, (bareS r).2.2.2.2.1, (bareS r).2.2.2.2.2.1, (bareS r).2.2.2.2.2.2.1, (bareS r).2.2.2.2.2.2.2) = bareS r from rfl, mval_mset (kd := RD) (vd := .int .i64), if_pos rfl]
    have hany : (c.2.2.1.take i).any (fun q => alikeS q r) = decide ((1 : Int) < (((c.2.2.1.take i).countP (fun q => RD.eqb (bareS q) (bareS r)) + 1 : Nat) : Int)) := by
      rw [Bool.eq_iff_iff, List.any_eq_true, decide_eq_true_eq]
      have : 0 < (c.2.2.1.take i).countP (fun q => RD.eqb (bareS q) (bareS r)) ↔ _ := List.countP_pos_iff
      constructor
      · intro h; have := this.2 h; omega
      · intro h; exact this.1 (by omega)
    rw [hany, goodStep] at hI4
    refine ⟨fun h4 => ?_, fun h4 => ?_⟩
    · rw [show (!_ && _) = _ from congrArg (fun b => !b && _) h4] at hI4
      rw [show rulesS c = false by unfold rulesS; rw [← hI4]; rfl]
      conv => whnf
    · rw [show (!_ && _) = _ from congrArg (fun b => !b && _) h4] at hI4
      conv => whnf
      simp only [Bool.not_false, Bool.true_and] at hI4
      have hle1 := bld_le (c.2.2.1.take i)
      rw [List.length_take] at hle1
      have hts : c.2.2.1.take (i + 1) = c.2.2.1.take i ++ [r] := by rw [take_step h2, hr]
      have hmap : ∀ k : RD.T, mval (kd := RD) (vd := .int .i64) (mset (kd := RD) (vd := .int .i64) es (bareS r) (((c.2.2.1.take i).countP (fun q => RD.eqb (bareS q) (bareS r)) + 1 : Nat) : Int)) k = ((c.2.2.1.take (i + 1)).countP (fun q => RD.eqb (bareS q) k) : Nat) := by
        intro k
        rw [mval_mset (kd := RD) (vd := .int .i64), hts, List.countP_append, List.countP_singleton]
        by_cases hk : bareS r = k
        · subst hk; rw [if_pos rfl, if_pos ((D.eqb_iff RD _ _).2 rfl)]
        · rw [if_neg hk, hI3 k, if_neg (fun e => hk ((D.eqb_iff RD _ _).1 e))]; rfl
      refine ⟨fun h5 => ?_, fun h5 => ?_⟩
      · conv => whnf
        rw [if_pos (by exact h5)] at hb
        refine ⟨(i + 1, r.1, mset (kd := RD) (vd := .int .i64) es (bareS r) (((c.2.2.1.take i).countP (fun q => RD.eqb (bareS q) (bareS r)) + 1 : Nat) : Int)), ⟨⟨by dsimp only; omega, hmap, by dsimp only; rw [hts, hI4]⟩, by dsimp only; omega⟩, ?_⟩
        rw [hb]
        (conv => whnf); refine ⟨rfl, ?_, ?_, ?_⟩ <;> (repeat' apply And.intro) <;> first | exact trivial | rfl | exact wr_succ _ (by omega) | assumption | exact decide_eq_false (by assumption) | exact decide_eq_true (by assumption)
      · conv => whnf
        rw [if_neg (by rw [Bool.not_eq_true]; exact h5)] at hb
        refine ⟨(i + 1, r.1, mset (kd := RD) (vd := .int .i64) es (bareS r) (((c.2.2.1.take i).countP (fun q => RD.eqb (bareS q) (bareS r)) + 1 : Nat) : Int)), ⟨⟨by dsimp only; omega, hmap, by dsimp only; rw [hts, hI4]⟩, by dsimp only; omega⟩, ?_⟩
        rw [hb]
        (conv => whnf); refine ⟨rfl, ?_, ?_, ?_⟩ <;> (repeat' apply And.intro) <;> first | exact trivial | rfl | exact wr_succ _ (by omega) | assumption | exact decide_eq_false (by assumption) | exact decide_eq_true (by assumption)
  · conv => whnf
    rw [List.take_of_length_le (by simp at h2; omega), List.drop_of_length_le (by simp at h2; omega)] at hI4
    rw [show goodL c c.2.2.1 last [] = true from rfl] at hI4
    intro _
    conv => whnf
    rw [List.take_of_length_le (by simp at h2; omega)]
    rw [show rulesS c = (decide (((bldN c.2.2.1 : Nat) : Int) ≤ 1) && decide ((c.2.2.1.length : Int) ≤ 16)) by
      unfold rulesS; rw [← hI4, Bool.true_and]; norm_cast]

theorem dc16 (n : Nat) : decide ((n : Int) ≤ 16) = decide (n ≤ 16) := by
  rw [Bool.eq_iff_iff, decide_eq_true_eq, decide_eq_true_eq]; omega
theorem wr_prd (i : Nat) (h : i ≤ 9223372036854775806) : IntKind.wrap .i64 (((i + 1 : Nat) : Int) - 1) = (i : Int) := by
  rw [show ((i + 1 : Nat) : Int) - 1 = (i : Int) by omega]
  exact wr64 _ (by omega) (by omega)
theorem cat_Good (c : CD.T) (hw : ∀ r ∈ c.2.2.1, Wf RD r) (hl : c.2.2.1.length ≤ 1000) : FnD Try.prog 31 [.agg (cc c)] (· = .c (.bool (.sym (goodC c)))) := by
  refine fn0 Try.func31 rfl rfl rfl ?_
  conv => whnf
  intro hl2
  conv => whnf
  refine loop0 (fun i => i ≤ c.2.2.2.1.length ∧ idxL c (prevI c.2.2.2.1 i) (c.2.2.2.1.drop i) = idxS c) (fun i => ⟨[(1, .c (.ptr 0 0)), (6, .c (.dat ID c.2.2.2.1)), (7, .c (.int .i64 c.2.2.2.1.length)), (8, .c (.int .i64 i))], [(0, .cells 26 (cc c))], 1⟩) (fun i => c.2.2.2.1.length - i) ⟨0, ⟨by simp, rfl⟩, ?_⟩ ?_
  · (conv => whnf); refine ⟨rfl, ?_, ?_, ?_⟩ <;> (repeat' apply And.intro) <;> first | exact trivial | rfl | exact wr_succ _ (by omega) | assumption | exact decide_eq_false (by assumption) | exact decide_eq_true (by assumption)
  rintro i ⟨hI1, hI2⟩
  conv => whnf
  refine ⟨fun h2 => ?_, fun h2 => ?_⟩
  · have h2 : i < c.2.2.2.1.length := by simp at h2; omega
    conv => whnf
    try (intro _; conv => whnf)
    refine ⟨by omega, ?_⟩
    rw [gt_nat (d := ID) c.2.2.2.1 i h2]
    conv => whnf
    cases i with
    | zero =>
      rw [show prevI c.2.2.2.1 0 = none from rfl, List.drop_zero, idx_step0 h2] at hI2
      refine any0 ?_
      conv => whnf
      refine callr0 (schema_Has c 1 c.2.2.2.1[0].1) rfl ?_
      conv => whnf
      refine callrg0 (fun _ => val_Name c.2.2.2.1[0].2) rfl ?_
      conv => whnf
      refine ⟨fun h => by simp at h, ?_⟩
      conv => whnf
      refine callrg0 (fun _ => cat_ahead _ c.2.2.2.1[0]) rfl ?_
      conv => whnf
      refine ⟨.inl (by kernel_rfl), after0 ?_⟩
      conv => whnf
      refine ⟨fun h3 => ?_, fun h3 => ?_⟩
      · have h3 : (!hasT c.1 c.2.2.2.1[0].1 || !nameS c.2.2.2.1[0].2 || false) = true := h3
        rw [h3] at hI2
        rw [show goodC c = false by unfold goodC; rw [← hI2]; simp]
        conv => whnf
      · have h3 : (!hasT c.1 c.2.2.2.1[0].1 || !nameS c.2.2.2.1[0].2 || false) = false := h3
        rw [h3, Bool.not_false, Bool.true_and] at hI2
        conv => whnf
        refine ⟨1, ⟨⟨by omega, by rw [← hI2]; exact congrArg (fun p => idxL c p _) (List.getElem?_eq_getElem h2)⟩, by omega⟩, ?_⟩
        (conv => whnf); refine ⟨rfl, ?_, ?_, ?_⟩ <;> (repeat' apply And.intro) <;> first | exact trivial | rfl | exact wr_succ _ (by omega) | assumption | exact decide_eq_false (by assumption) | exact decide_eq_true (by assumption)
    | succ i =>
      rw [show prevI c.2.2.2.1 (i + 1) = some c.2.2.2.1[i] from List.getElem?_eq_getElem (by omega), idx_step h2] at hI2
      refine any0 ?_
      conv => whnf
      refine callr0 (schema_Has c 1 c.2.2.2.1[i + 1].1) rfl ?_
      conv => whnf
      refine callrg0 (fun _ => val_Name c.2.2.2.1[i + 1].2) rfl ?_
      conv => whnf
      rw [wr_prd i (by omega)]
      refine ⟨fun _ => by omega, ?_⟩
      rw [gt_nat (d := ID) c.2.2.2.1 i (by omega)]
      conv => whnf
      refine callrg0 (fun _ => cat_ahead _ c.2.2.2.1[i + 1]) rfl ?_
      conv => whnf
      refine ⟨.inl (by kernel_rfl), after0 ?_⟩
      conv => whnf
      rw [show decide ((0 : Int) < ((i + 1 : Nat) : Int)) = true from decide_eq_true (by omega), Bool.true_and, dle 0, cmpIx_lt]
      refine ⟨fun h3 => ?_, fun h3 => ?_⟩
      · have h3 : (!hasT c.1 c.2.2.2.1[i + 1].1 || !nameS c.2.2.2.1[i + 1].2 || !ltIx c.2.2.2.1[i] c.2.2.2.1[i + 1]) = true := h3
        rw [h3] at hI2
        rw [show goodC c = false by unfold goodC; rw [← hI2]; simp]
        conv => whnf
      · have h3 : (!hasT c.1 c.2.2.2.1[i + 1].1 || !nameS c.2.2.2.1[i + 1].2 || !ltIx c.2.2.2.1[i] c.2.2.2.1[i + 1]) = false := h3
        rw [h3, Bool.not_false, Bool.true_and] at hI2
        conv => whnf
        refine ⟨i + 2, ⟨⟨by omega, by rw [← hI2]; exact congrArg (fun p => idxL c p _) (List.getElem?_eq_getElem h2)⟩, by omega⟩, ?_⟩
        (conv => whnf); refine ⟨rfl, ?_, ?_, ?_⟩ <;> (repeat' apply And.intro) <;> first | exact trivial | rfl | exact wr_succ _ (by omega) | assumption | exact decide_eq_false (by assumption) | exact decide_eq_true (by assumption)
  · rw [idx_end c _ (by simp at h2; omega)] at hI2
    conv => whnf
    refine call1 (schema_Types c) rfl ?_
    conv => whnf
    intro _
    conv => whnf
    refine callg0 (fun _ => cat_goodRules c hw hl) rfl ?_
    conv => whnf
    unfold goodC
    rw [← hI2]
    rw [dc16]
    simp only [Bool.true_and, Bool.and_assoc]

/-- the Id ahead of a place -/
def prevR (l : List RD.T) : Nat → Int
  | 0 => 0
  | i + 1 => (gt (d := RD) l i).1
theorem prevR_succ {l : List RD.T} {i : Nat} (h : i < l.length) : prevR l (i + 1) = l[i].1 := by
  show (gt (d := RD) l i).1 = _
  rw [gt_nat (d := RD) l i h]
theorem refStep (c : CD.T) (r : RD.T) (last : Int) (b : Bool) (hb : (decide (r.1 < 1) || b) = !decide (last < r.1)) (A X : Bool) : (decide (last < r.1) && (goodR c r && (!A && X))) = (!(decide (r.1 < 1) || decide (c.2.2.2.2 ≤ r.1) || b || !formS r || !knownS c r || (!decide (stR r = 1) && !decide (stR r = 2))) && (!A && X)) := by
  have h1 : (decide (1 ≤ stR r) && decide (stR r ≤ 2)) = !(!decide (stR r = 1) && !decide (stR r = 2)) := by
    rw [Bool.eq_iff_iff]; simp; omega
  have h2 : decide (last < r.1) = !(decide (r.1 < 1) || b) := by rw [hb, Bool.not_not]
  unfold goodR
  rw [h1, h2, dle c.2.2.2.2 r.1]
  generalize (!decide (stR r = 1) && !decide (stR r = 2)) = g
  simp only [Bool.not_or, Bool.not_not]
  ac_rfl
theorem anyT_step {l : List RD.T} {r : RD.T} {k : Nat} (h : k < l.length) : (l.take (k + 1)).any (fun q => alikeS q r) = ((l.take k).any (fun q => alikeS q r) || alikeS l[k] r) := by
  rw [take_step h, List.any_append]; simp
theorem idz1 (a : Int) : decide (a < 1) = !decide (0 < a) := by
  rw [Bool.eq_iff_iff]; simp; omega
theorem idz2 (a q : Int) (h : 0 ≤ q) : (decide (a < 1) || decide (a ≤ q)) = !decide (q < a) := by
  rw [Bool.eq_iff_iff]; simp; omega
theorem ref16_Good (c : CD.T) : FnD Try.prog 32 [.agg (cc c)] (· = .c (.bool (.sym (goodC c)))) := by
  refine fn0 Try.func32 rfl rfl rfl ?_
  conv => whnf
  refine call1 (ref14_Types c) rfl ?_
  conv => whnf
  intro _ _
  refine ⟨fun h1 => ?_, fun h1 => ?_⟩
  · conv => whnf
    have : goodC c = false := by
      cases hg : goodC c with
      | false => rfl
      | true =>
        simp only [goodC, rulesS, Bool.and_eq_true, decide_eq_true_eq] at hg
        obtain ⟨a1, a2, a3, a4, a5, a6, a7, a8⟩ := hg
        have a2 : (1 : Int) ≤ c.2.2.2.2 := a2
        have a3 : c.2.2.2.2 ≤ (1000000 : Int) := a3
        simp [a1] at h1
        rcases h1 with ((h | h) | h) | h
        · omega
        · omega
        · omega
        · exact absurd h (Int.not_lt.2 a3)
    rw [this]
  · conv => whnf
    have hg : goodC c = (idxS c && rulesS c) := by
      simp only [Bool.or_eq_false_iff, Bool.not_eq_false', decide_eq_false_iff_not] at h1
      obtain ⟨⟨⟨⟨a1, a2⟩, a3⟩, a4⟩, a5⟩ := h1
      unfold goodC
      rw [a1, decide_eq_true (show (1 : Int) ≤ c.2.2.2.2 by omega), decide_eq_true (show c.2.2.2.2 ≤ (1000000 : Int) from Int.not_lt.1 a5), decide_eq_true (show c.2.2.2.1.length ≤ 16 by omega)]
      rfl
    have hl : c.2.2.1.length ≤ 16 ∧ (0 : Int) ≤ 0 := by simp at h1; omega
    refine loop0 (fun i => i ≤ c.2.2.1.length ∧ 0 ≤ prevR c.2.2.1 i ∧ goodL c (c.2.2.1.take i) (prevR c.2.2.1 i) (c.2.2.1.drop i) = goodL c [] 0 c.2.2.1) (fun i => ⟨[(1, .c (.ptr 0 0)), (3, .c (.int .i64 (bldN (c.2.2.1.take i)))), (4, .c (.int .i64 i))], [(0, .cells 26 (cc c))], 1⟩) (fun i => c.2.2.1.length - i) ⟨0, ⟨by omega, by show (0 : Int) ≤ 0; omega, rfl⟩, ?_⟩ ?_
    · (conv => whnf); refine ⟨rfl, ?_, ?_, ?_⟩ <;> (repeat' apply And.intro) <;> first | exact trivial | rfl | exact wr_succ _ (by omega) | assumption | exact decide_eq_false (by assumption) | exact decide_eq_true (by assumption)
    rintro i ⟨hI1, hI2, hI3⟩
    conv => whnf
    intro _
    refine ⟨fun h2 => ?_, fun h2 => ?_⟩
    · have h2 : i < c.2.2.1.length := by simp at h2; omega
      rw [goodL_step h2] at hI3
      have hb := bld_step h2
      conv => whnf
      try (intro _; conv => whnf)
      refine ⟨by omega, ?_⟩
      rw [gt_nat (d := RD) c.2.2.1 i h2]
      conv => whnf
      generalize hr : c.2.2.1[i] = r at hI3 hb
      have e1 : IntKind.wrap .i64 ((i : Int) - 1) = (i : Int) - 1 := wr64 _ (by omega) (by omega)
      have hbb : (decide (r.1 < 1) || (decide ((0 : Int) < (i : Int)) && decide (r.1 ≤ (gt (d := RD) c.2.2.1 ((i : Int) - 1)).1))) = !decide (prevR c.2.2.1 i < r.1) := by
        cases i with
        | zero =>
          show (decide ((r.1 : Int) < 1) || false) = !decide ((0 : Int) < r.1)
          rw [Bool.or_false, idz1]
        | succ j =>
          have e : (((j + 1 : Nat) : Int) - 1) = (j : Int) := by omega
          rw [e]
          show (decide ((r.1 : Int) < 1) || (decide ((0 : Int) < ((j + 1 : Nat) : Int)) && decide (r.1 ≤ prevR c.2.2.1 (j + 1)))) = _
          rw [decide_eq_true (show (0 : Int) < ((j + 1 : Nat) : Int) by omega), Bool.true_and]
          exact idz2 _ _ hI2
      refine any0 ?_
      conv => whnf
      rw [e1]
      refine ⟨fun h => by have := h.2; simp at this; omega, ?_⟩
      conv => whnf
      refine callrg0 (fun _ => ref_Form r) rfl ?_
      conv => whnf
      refine callrg0 (fun _ => ref_Known c r) rfl ?_
      conv => whnf
      refine ⟨.inl (by kernel_rfl), after0 ?_⟩
      conv => whnf
      rw [refStep c r _ _ hbb] at hI3
      refine ⟨fun h3 => ?_, fun h3 => ?_⟩
      · rw [show (!_ && _) = _ from congrArg (fun b => !b && _) h3] at hI3
        rw [show goodC c = false by rw [hg]; unfold rulesS; rw [← hI3]; simp]
        conv => whnf
      · rw [show (!_ && _) = _ from congrArg (fun b => !b && _) h3] at hI3
        simp only [Bool.not_false, Bool.true_and] at hI3
        have hr1 : (1 : Int) ≤ r.1 := by
          simp only [Bool.or_eq_false_iff, decide_eq_false_iff_not] at h3
          have := h3.1.1.1.1.1
          omega
        conv => whnf
        refine loop0 (fun k => k ≤ i ∧ (c.2.2.1.take k).any (fun q => alikeS q r) = false) (fun k => ⟨[(1, .c (.ptr 0 0)), (3, .c (.int .i64 (bldN (c.2.2.1.take i)))), (4, .c (.int .i64 i)), (5, .c (.ptr 1 0)), (6, .c (.int .i64 k))], [(1, .cells 38 (rc r)), (0, .cells 26 (cc c))], 2⟩) (fun k => i - k) ⟨0, ⟨by omega, rfl⟩, ?_⟩ ?_
        · (conv => whnf); refine ⟨rfl, ?_, ?_, ?_⟩ <;> (repeat' apply And.intro) <;> first | exact trivial | rfl | exact wr_succ _ (by omega) | assumption | exact decide_eq_false (by assumption) | exact decide_eq_true (by assumption)
        rintro k ⟨hK1, hK2⟩
        conv => whnf
        refine ⟨fun h4 => ?_, fun h4 => ?_⟩
        · have h4 : k < i := by simp at h4; omega
          have hk : k < c.2.2.1.length := by omega
          have hst := anyT_step (r := r) hk
          conv => whnf
          refine any0 ?_
          conv => whnf
          try (intro _; conv => whnf)
          refine ⟨by omega, ?_⟩
          rw [gt_nat (d := RD) c.2.2.1 k hk]
          conv => whnf
          refine callr0 (ref16_alike c.2.2.1[k] r) rfl ?_
          conv => whnf
          refine ⟨.inl (by kernel_rfl), after0 ?_⟩
          conv => whnf
          refine ⟨fun h5 => ?_, fun h5 => ?_⟩
          · rw [hK2, h5, Bool.false_or] at hst
            have : (c.2.2.1.take i).any (fun q => alikeS q r) = true := by
              rw [List.any_eq_true] at hst ⊢
              obtain ⟨q, hq, hq2⟩ := hst
              exact ⟨q, List.take_subset_take_left _ (by omega) hq, hq2⟩
            rw [this] at hI3
            rw [show goodC c = false by rw [hg]; unfold rulesS; rw [← hI3]; simp]
            conv => whnf
          · rw [hK2, h5, Bool.false_or] at hst
            conv => whnf
            refine ⟨k + 1, ⟨⟨by omega, hst⟩, by omega⟩, ?_⟩
            (conv => whnf); refine ⟨rfl, ?_, ?_, ?_⟩ <;> (repeat' apply And.intro) <;> first | exact trivial | rfl | exact wr_succ _ (by omega) | assumption | exact decide_eq_false (by assumption) | exact decide_eq_true (by assumption)
        · have : k = i := by simp at h4; omega
          subst this
          rw [hK2, Bool.not_false, Bool.true_and] at hI3
          have hts : c.2.2.1.take (k + 1) = c.2.2.1.take k ++ [r] := by rw [take_step h2, hr]
          have hpr : prevR c.2.2.1 (k + 1) = r.1 := by rw [prevR_succ h2, hr]
          have hle1 := bld_le (c.2.2.1.take k)
          rw [List.length_take] at hle1
          conv => whnf
          refine ⟨fun h5 => ?_, fun h5 => ?_⟩
          · conv => whnf
            rw [if_pos (by exact h5)] at hb
            refine ⟨k + 1, ⟨⟨by omega, by rw [hpr]; omega, by rw [hts, hpr, hI3]⟩, by omega⟩, ?_⟩
            rw [hb]
            (conv => whnf); refine ⟨rfl, ?_, ?_, ?_⟩ <;> (repeat' apply And.intro) <;> first | exact trivial | rfl | exact wr_succ _ (by omega) | assumption | exact decide_eq_false (by assumption) | exact decide_eq_true (by assumption)
          · conv => whnf
            rw [if_neg (by rw [Bool.not_eq_true]; exact h5)] at hb
            refine ⟨k + 1, ⟨⟨by omega, by rw [hpr]; omega, by rw [hts, hpr, hI3]⟩, by omega⟩, ?_⟩
            rw [hb]
            (conv => whnf); refine ⟨rfl, ?_, ?_, ?_⟩ <;> (repeat' apply And.intro) <;> first | exact trivial | rfl | exact wr_succ _ (by omega) | assumption | exact decide_eq_false (by assumption) | exact decide_eq_true (by assumption)
    · rw [List.take_of_length_le (by simp at h2; omega), List.drop_of_length_le (by simp at h2; omega)] at hI3
      rw [show goodL c c.2.2.1 _ [] = true from rfl] at hI3
      have hg2 : goodC c = (idxS c && decide (((bldN c.2.2.1 : Nat) : Int) ≤ 1)) := by
        rw [hg]
        unfold rulesS; rw [← hI3, decide_eq_true hl.1, Bool.true_and, Bool.and_true]; norm_cast
      rw [List.take_of_length_le (by simp at h2; omega)]
      clear hI3 hI2 hI1 h2
      conv => whnf
      refine loop0 (fun i => i ≤ c.2.2.2.1.length ∧ idxL c (prevI c.2.2.2.1 i) (c.2.2.2.1.drop i) = idxS c) (fun i => ⟨[(1, .c (.ptr 0 0)), (3, .c (.int .i64 (bldN c.2.2.1))), (7, .c (.int .i64 i))], [(0, .cells 26 (cc c))], 1⟩) (fun i => c.2.2.2.1.length - i) ⟨0, ⟨by simp, rfl⟩, ?_⟩ ?_
      · (conv => whnf); refine ⟨rfl, ?_, ?_, ?_⟩ <;> (repeat' apply And.intro) <;> first | exact trivial | rfl | exact wr_succ _ (by omega) | assumption | exact decide_eq_false (by assumption) | exact decide_eq_true (by assumption)
      rintro i ⟨hI1, hI2⟩
      conv => whnf
      intro _
      refine ⟨fun h2 => ?_, fun h2 => ?_⟩
      · have h2 : i < c.2.2.2.1.length := by simp at h2; omega
        conv => whnf
        try (intro _; conv => whnf)
        refine ⟨by omega, ?_⟩
        rw [gt_nat (d := ID) c.2.2.2.1 i h2]
        conv => whnf
        cases i with
        | zero =>
          rw [show prevI c.2.2.2.1 0 = none from rfl, List.drop_zero, idx_step0 h2] at hI2
          refine any0 ?_
          conv => whnf
          refine callr0 (ref_Has c 1 c.2.2.2.1[0].1) rfl ?_
          conv => whnf
          refine callrg0 (fun _ => ref_Name c.2.2.2.1[0].2) rfl ?_
          conv => whnf
          refine ⟨fun h => by simp at h, ?_⟩
          conv => whnf
          refine callrg0 (fun _ => ref16_ahead _ c.2.2.2.1[0]) rfl ?_
          conv => whnf
          refine ⟨.inl (by kernel_rfl), after0 ?_⟩
          conv => whnf
          refine ⟨fun h3 => ?_, fun h3 => ?_⟩
          · have h3 : (!hasT c.1 c.2.2.2.1[0].1 || !nameS c.2.2.2.1[0].2 || false) = true := h3
            rw [h3] at hI2
            rw [show goodC c = false by rw [hg2, ← hI2]; simp]
            conv => whnf
          · have h3 : (!hasT c.1 c.2.2.2.1[0].1 || !nameS c.2.2.2.1[0].2 || false) = false := h3
            rw [h3, Bool.not_false, Bool.true_and] at hI2
            conv => whnf
            refine ⟨1, ⟨⟨by omega, by rw [← hI2]; exact congrArg (fun p => idxL c p _) (List.getElem?_eq_getElem h2)⟩, by omega⟩, ?_⟩
            (conv => whnf); refine ⟨rfl, ?_, ?_, ?_⟩ <;> (repeat' apply And.intro) <;> first | exact trivial | rfl | exact wr_succ _ (by omega) | assumption | exact decide_eq_false (by assumption) | exact decide_eq_true (by assumption)
        | succ i =>
          rw [show prevI c.2.2.2.1 (i + 1) = some c.2.2.2.1[i] from List.getElem?_eq_getElem (by omega), idx_step h2] at hI2
          refine any0 ?_
          conv => whnf
          refine callr0 (ref_Has c 1 c.2.2.2.1[i + 1].1) rfl ?_
          conv => whnf
          refine callrg0 (fun _ => ref_Name c.2.2.2.1[i + 1].2) rfl ?_
          conv => whnf
          rw [wr_prd i (by omega)]
          refine ⟨fun _ => by omega, ?_⟩
          rw [gt_nat (d := ID) c.2.2.2.1 i (by omega)]
          conv => whnf
          refine callrg0 (fun _ => ref16_ahead _ c.2.2.2.1[i + 1]) rfl ?_
          conv => whnf
          refine ⟨.inl (by kernel_rfl), after0 ?_⟩
          conv => whnf
          rw [show decide ((0 : Int) < ((i + 1 : Nat) : Int)) = true from decide_eq_true (by omega), Bool.true_and]
          refine ⟨fun h3 => ?_, fun h3 => ?_⟩
          · have h3 : (!hasT c.1 c.2.2.2.1[i + 1].1 || !nameS c.2.2.2.1[i + 1].2 || !ltIx c.2.2.2.1[i] c.2.2.2.1[i + 1]) = true := h3
            rw [h3] at hI2
            rw [show goodC c = false by rw [hg2, ← hI2]; simp]
            conv => whnf
          · have h3 : (!hasT c.1 c.2.2.2.1[i + 1].1 || !nameS c.2.2.2.1[i + 1].2 || !ltIx c.2.2.2.1[i] c.2.2.2.1[i + 1]) = false := h3
            rw [h3, Bool.not_false, Bool.true_and] at hI2
            conv => whnf
            refine ⟨i + 2, ⟨⟨by omega, by rw [← hI2]; exact congrArg (fun p => idxL c p _) (List.getElem?_eq_getElem h2)⟩, by omega⟩, ?_⟩
            (conv => whnf); refine ⟨rfl, ?_, ?_, ?_⟩ <;> (repeat' apply And.intro) <;> first | exact trivial | rfl | exact wr_succ _ (by omega) | assumption | exact decide_eq_false (by assumption) | exact decide_eq_true (by assumption)
      · rw [idx_end c _ (by simp at h2; omega)] at hI2
        conv => whnf
        rw [hg2, ← hI2]
        rfl
end Go.Proofs.Ythpllblcbbkfdaa
