/- The walks of rule.typeOf, rule.unique, and of the reference's is and Compare. Own work. -/
import Derived.Test.YtfpgjaallhpddaaRuleForm
set_option linter.unusedVariables false
set_option maxRecDepth 100000
namespace Go.Proofs.Ytfpgjaallhpddaa
open Go Go.RowKit OE

/-- the type of the first node with an Id -/
def typeS : List ND.T → Int → List UInt8 × Bool
  | [], _ => ([], false)
  | p :: l, n => if p.1 = n then (p.2.1, true) else typeS l n
theorem typeS_step {l : List ND.T} {n : Int} {i : Nat} (h : i < l.length) : typeS (l.drop i) n = if l[i].1 = n then (l[i].2.1, true) else typeS (l.drop (i + 1)) n := by
  rw [List.drop_eq_getElem_cons h]; rfl
theorem typeS_end {l : List ND.T} {n : Int} {i : Nat} (h : l.length ≤ i) : typeS (l.drop i) n = ([], false) := by
  rw [List.drop_of_length_le h]; rfl

theorem rule_typeOf (l : List ND.T) (n : Int) : FnD Try.prog 73 [.c (.dat ND l), .c (.int .i64 n)] (· = .tup [(false, [.str (typeS l n).1]), (false, [.bool (.sym (typeS l n).2)])]) := by
  refine fn0 Try.func73 rfl rfl rfl ?_
  conv => whnf
  intro hl
  conv => whnf
  refine loop0 (α := Nat) (fun i => i ≤ l.length ∧ typeS (l.drop i) n = typeS l n)
    (fun i => ⟨[(1, .c (.int .i64 n)), (8, .c (.dat ND l)), (9, .c (.int .i64 l.length)), (10, .c (.int .i64 i))], [], 0⟩) (fun i => l.length - i) ⟨0, ⟨by omega, rfl⟩, ?_⟩ ?_
  · (conv => whnf); refine ⟨rfl, ?_, ?_, ?_⟩ <;> (repeat' apply And.intro) <;> first | exact trivial | rfl | exact wr_succ _ (by omega) | assumption | exact decide_eq_false (by assumption) | exact decide_eq_true (by assumption)
  · rintro i ⟨hI1, hI2⟩
    conv => whnf
    refine ⟨fun h2 => ?_, fun h2 => ?_⟩
    · have h2 : i < l.length := by simp at h2; omega
      rw [typeS_step h2] at hI2
      conv => whnf
      try (intro _; conv => whnf)
      refine ⟨by omega, ?_⟩
      rw [gt_nat (d := ND) l i h2]
      conv => whnf
      refine ⟨fun h3 => ?_, fun h3 => ?_⟩
      · conv => whnf
        rw [if_pos (by simpa using h3)] at hI2
        rw [← hI2]
      · conv => whnf
        rw [if_neg (by simpa using h3)] at hI2
        refine ⟨i + 1, ⟨⟨by omega, hI2⟩, by omega⟩, ?_⟩
        (conv => whnf); refine ⟨rfl, ?_, ?_, ?_⟩ <;> (repeat' apply And.intro) <;> first | exact trivial | rfl | exact wr_succ _ (by omega) | assumption | exact decide_eq_false (by assumption) | exact decide_eq_true (by assumption)
    · conv => whnf
      rw [← hI2, typeS_end (by simp at h2; omega)]

def isTS (l : List ND.T) (n : Int) (t : List UInt8) : Bool := (typeS l n).2 && decide ((typeS l n).1 = t)
theorem ref_is (l : List ND.T) (n : Int) (t : List UInt8) : FnD Try.prog 107 [.c (.dat ND l), .c (.int .i64 n), .c (.str t)] (· = .c (.bool (.sym (isTS l n t)))) := by
  refine fn0 Try.func107 rfl rfl rfl ?_
  conv => whnf
  refine loop0 (α := Nat) (fun i => i ≤ l.length ∧ typeS (l.drop i) n = typeS l n)
    (fun i => ⟨[(0, .c (.dat ND l)), (1, .c (.int .i64 n)), (2, .c (.str t)), (7, .c (.int .i64 i))], [], 0⟩) (fun i => l.length - i) ⟨0, ⟨by omega, rfl⟩, ?_⟩ ?_
  · (conv => whnf); refine ⟨rfl, ?_, ?_, ?_⟩ <;> (repeat' apply And.intro) <;> first | exact trivial | rfl | exact wr_succ _ (by omega) | assumption | exact decide_eq_false (by assumption) | exact decide_eq_true (by assumption)
  · rintro i ⟨hI1, hI2⟩
    conv => whnf
    intro hl
    refine ⟨fun h2 => ?_, fun h2 => ?_⟩
    · have h2 : i < l.length := by simp at h2; omega
      rw [typeS_step h2] at hI2
      conv => whnf
      try (intro _; conv => whnf)
      refine ⟨by omega, ?_⟩
      rw [gt_nat (d := ND) l i h2]
      conv => whnf
      refine ⟨fun h3 => ?_, fun h3 => ?_⟩
      · conv => whnf
        try (intro _; conv => whnf)
        refine ⟨by omega, ?_⟩
        rw [gt_nat (d := ND) l i h2]
        conv => whnf
        rw [if_pos (by simpa using h3)] at hI2
        simp only [isTS, ← hI2, Bool.true_and]
      · conv => whnf
        rw [if_neg (by simpa using h3)] at hI2
        refine ⟨i + 1, ⟨⟨by omega, hI2⟩, by omega⟩, ?_⟩
        (conv => whnf); refine ⟨rfl, ?_, ?_, ?_⟩ <;> (repeat' apply And.intro) <;> first | exact trivial | rfl | exact wr_succ _ (by omega) | assumption | exact decide_eq_false (by assumption) | exact decide_eq_true (by assumption)
    · conv => whnf
      rw [isTS, ← hI2, typeS_end (by simp at h2; omega)]
      rfl

/-- is a value ahead of another one? -/
def ltV (a b : VD.T) : Bool := decide (a.1 < b.1) || (decide (a.1 = b.1) && (decide (a.2.1 < b.2.1) || (decide (a.2.1 = b.2.1) && Op.bytesLess a.2.2 b.2.2)))
def cmpV (a b : VD.T) : Int := if ltV a b = true then -1 else if VD.eqb a b = true then 0 else 1
theorem ref_Compare (a b : VD.T) : FnD Try.prog 59 [.agg (vc a), .agg (vc b)] (· = .c (.int .i64 (cmpV a b))) := by
  refine fn0 Try.func59 rfl rfl rfl ?_
  conv => whnf
  refine ⟨fun h1 => ?_, fun h1 => ?_⟩
  · conv => whnf
    have : ltV a b = true := by rw [← h1]; rfl
    rw [cmpV, if_pos this]
  · conv => whnf
    have : ¬ ltV a b = true := by rw [Bool.not_eq_true, ← h1]; rfl
    refine ⟨fun h2 => ?_, fun h2 => ?_⟩
    · conv => whnf
      rw [cmpV, if_neg this, if_pos (by rw [← h2]; simp [D.eqb, Bool.and_assoc])]
    · conv => whnf
      rw [cmpV, if_neg this, if_neg (by rw [Bool.not_eq_true, ← h2]; simp [D.eqb, Bool.and_assoc])]

/-- the values of a name that nodes of a type have -/
def valsS (ty nm : List UInt8) (l : List ND.T) : List VD.T := l.filterMap fun n => if (getS n.2.2 nm).2 && decide (n.2.1 = ty) then some (getS n.2.2 nm).1 else none
theorem valsS_step (ty nm : List UInt8) {l : List ND.T} {i : Nat} (h : i < l.length) :
    valsS ty nm (l.take (i + 1)) = valsS ty nm (l.take i) ++ (if ((getS l[i].2.2 nm).2 && decide (l[i].2.1 = ty)) = true then [(getS l[i].2.2 nm).1] else []) := by
  rw [take_step h, valsS, List.filterMap_append]
  congr 1
  simp only [List.filterMap_cons, List.filterMap_nil]
  split
  · rename_i h1; split at h1
    · cases h1
    · rename_i h2; rw [if_neg h2]
  · rename_i h1; split at h1
    · rename_i h2; cases h1; rw [if_pos h2]
    · cases h1

theorem get_ok : ∀ {l : List PD.T} {nm : List UInt8}, (∀ p ∈ l, Wf PD p) → VD.ok (getS l nm).1
  | [], _, _ => ⟨by show (Lit.int .i64 0).wf = true; decide, by show (Lit.int .i64 0).wf = true; decide, by show (0 : Nat) ≤ 9223372036854775807; omega⟩
  | p :: l, nm, h => by
    unfold getS
    split
    · obtain ⟨h1, h2, h3, h4⟩ := h p (by simp)
      have h4 : p.2.2.2.length ≤ 140737488351232 := h4
      exact ⟨h2, h3, by show p.2.2.2.length ≤ 9223372036854775807; omega⟩
    · exact get_ok fun q hq => h q (by simp [hq])

theorem rule_unique (l : List ND.T) (r : RD.T) (hl : l.length ≤ 1000) (hw : ∀ n ∈ l, Wf ND n) : FnD Try.prog 66 [.c (.dat ND l), .agg (rc r)] (· = .c (.bool (.sym (decide (valsS r.2.2.1 r.2.2.2.1 l).Nodup)))) := by
  refine fn0 Try.func66 rfl rfl rfl ?_
  conv => whnf
  intro _
  conv => whnf
  refine loop0 (α := Nat × List (VD.T × Int)) (fun p => p.1 ≤ l.length ∧ (valsS r.2.2.1 r.2.2.2.1 (l.take p.1)).Nodup ∧ ∀ k : VD.T, mval (kd := VD) (vd := .int .i64) p.2 k = ((valsS r.2.2.1 r.2.2.2.1 (l.take p.1)).count k : Int))
    (fun p => ⟨[(3, .c (.ptr 0 0)), (5, .c (.mp 1)), (11, .c (.dat ND l)), (12, .c (.int .i64 l.length)), (13, .c (.int .i64 p.1))], [(0, .cells 31 (rc r)), (1, .dmp 158 VD (.int .i64) p.2)], 2⟩) (fun p => l.length - p.1) ⟨(0, []), ⟨by simp, by simp [valsS], fun k => by simp [mval, midx, valsS, D.df]⟩, ?_⟩ ?_
  · (conv => whnf); refine ⟨rfl, ?_, ?_, ?_⟩ <;> (repeat' apply And.intro) <;> first | exact trivial | rfl | exact wr_succ _ (by omega) | assumption | exact decide_eq_false (by assumption) | exact decide_eq_true (by assumption)
  · rintro ⟨i, es⟩ ⟨hI1, hI2, hI3⟩
    dsimp only at hI1 hI2 hI3 ⊢
    conv => whnf
    refine ⟨fun h2 => ?_, fun h2 => ?_⟩
    · have h2 : i < l.length := by simp at h2; omega
      have hst := valsS_step r.2.2.1 r.2.2.2.1 h2
      conv => whnf
      try (intro _; conv => whnf)
      refine ⟨by omega, ?_⟩
      rw [gt_nat (d := ND) l i h2]
      conv => whnf
      have hok := get_ok (nm := r.2.2.2.1) (hw l[i] (List.getElem_mem h2)).2.2.2
      refine call1 (val_Get l[i].2.2 r.2.2.2.1) rfl ?_
      conv => whnf
      generalize getS l[i].2.2 r.2.2.2.1 = gv at hst hok ⊢
      refine ⟨fun h3 => ?_, fun h3 => ?_⟩
      · rw [if_pos (by exact h3)] at hst
        conv => whnf
        refine any0 ?_
        conv => whnf
        refine ⟨hok, ?_⟩
        conv => whnf
        refine ⟨hok, ?_⟩
        conv => whnf
        rw [show (gv.1.1, gv.1.2.1, gv.1.2.2) = gv.1 from rfl]
        have hlen := ent_len (kd := VD) (vd := .int .i64) es gv.1
        have hcnt := hI3 gv.1
        have hle : (valsS r.2.2.1 r.2.2.2.1 (l.take i)).count gv.1 ≤ 1 := List.nodup_iff_count.1 hI2 _
        refine ⟨⟨by omega, by omega⟩, ?_⟩
        conv => whnf
        rw [Int.toNat_natCast, ent_mset (kd := VD) (vd := .int .i64) es gv.1, hcnt, wr_succ' _ (by omega)]
        refine ⟨x0 2 4 rfl (by kernel_rfl) rfl rfl rfl rfl rfl rfl ?_ ?_, after0 ?_⟩
        · exact hok
        · show SV.c (.int .i64 (mval (kd := VD) (vd := .int .i64) (ment es gv.1) gv.1)) = _
          rw [mval_ment (kd := VD) (vd := .int .i64), hcnt]
        conv => whnf
        refine ⟨hok, ?_⟩
        conv => whnf
        rw [show (gv.1.1, gv.1.2.1, gv.1.2.2) = gv.1 from rfl, mval_mset (kd := VD) (vd := .int .i64), if_pos rfl]
        refine ⟨fun h4 => ?_, fun h4 => ?_⟩
        · conv => whnf
          have h4 : 0 < (valsS r.2.2.1 r.2.2.2.1 (l.take i)).count gv.1 := by simp at h4; omega
          have hno : ¬ (valsS r.2.2.1 r.2.2.2.1 l).Nodup := by
            intro hn
            have h5 : (valsS r.2.2.1 r.2.2.2.1 (l.take (i + 1))).Nodup := by
              refine hn.sublist ?_
              exact List.Sublist.filterMap _ (List.take_sublist _ _)
            rw [hst, List.nodup_append] at h5
            exact h5.2.2 _ (List.count_pos_iff.1 h4) gv.1 (by simp) rfl
          simp [hno]
        · conv => whnf
          have h4 : (valsS r.2.2.1 r.2.2.2.1 (l.take i)).count gv.1 = 0 := by simp at h4; omega
          refine ⟨(i + 1, mset (kd := VD) (vd := .int .i64) es gv.1 (((valsS r.2.2.1 r.2.2.2.1 (l.take i)).count gv.1 + 1 : Nat) : Int)), ⟨⟨by dsimp only; omega, ?_, ?_⟩, by dsimp only; omega⟩, ?_⟩
          · dsimp only
            rw [hst, List.nodup_append]
            exact ⟨hI2, by simp, fun a ha b hb e => by
              simp at hb; subst hb; subst e
              exact (List.count_eq_zero.1 h4) ha⟩
          · intro k
            dsimp only
            rw [mval_mset (kd := VD) (vd := .int .i64), hst, List.count_append, List.count_singleton]
            by_cases hk : gv.1 = k
            · subst hk; simp
            · rw [if_neg hk, hI3 k, if_neg (by simpa using hk)]; simp
          · (conv => whnf); refine ⟨rfl, ?_, ?_, ?_⟩ <;> (repeat' apply And.intro) <;> first | exact trivial | rfl | exact wr_succ _ (by omega) | assumption | exact decide_eq_false (by assumption) | exact decide_eq_true (by assumption)
      · rw [if_neg (by rw [Bool.not_eq_true]; exact h3), List.append_nil] at hst
        conv => whnf
        refine ⟨(i + 1, es), ⟨⟨by dsimp only; omega, by dsimp only; rw [hst]; exact hI2, by dsimp only; rw [hst]; exact hI3⟩, by dsimp only; omega⟩, ?_⟩
        (conv => whnf); refine ⟨rfl, ?_, ?_, ?_⟩ <;> (repeat' apply And.intro) <;> first | exact trivial | rfl | exact wr_succ _ (by omega) | assumption | exact decide_eq_false (by assumption) | exact decide_eq_true (by assumption)
    · conv => whnf
      rw [List.take_of_length_le (by simp at h2; omega)] at hI2
      simp [hI2]
end Go.Proofs.Ytfpgjaallhpddaa
