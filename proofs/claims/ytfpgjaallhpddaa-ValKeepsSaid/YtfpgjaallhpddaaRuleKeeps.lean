/- The walk of rule.Keeps. Own work. -/
import Derived.Test.YtfpgjaallhpddaaRuleParts
set_option linter.unusedVariables false
set_option maxRecDepth 100000
namespace Go.Proofs.Ytfpgjaallhpddaa
open Go Go.RowKit OE

noncomputable def inlK : Nat → Option (FI × Code) := lk [
  (64, fiOf Try.f64, bodyOf Try.f64),
  (65, fiOf Try.f65, bodyOf Try.f65),
  (67, fiOf Try.f67, bodyOf Try.f67),
  (69, fiOf Try.f69, bodyOf Try.f69),
  (70, fiOf Try.f70, bodyOf Try.f70),
  (72, fiOf Try.f72, bodyOf Try.f72),
  (74, fiOf Try.f74, bodyOf Try.f74),
  (68, fiOf Try.f68, bodyOf Try.f68),
  (71, fiOf Try.f71, bodyOf Try.f71),
  (105, fiOf Try.f105, bodyOf Try.f105),
  (106, fiOf Try.f106, bodyOf Try.f106)]
instance : InlOk inlK :=
  inl_cons Try.func64 rfl rfl <| inl_cons Try.func65 rfl rfl <| inl_cons Try.func67 rfl rfl <| inl_cons Try.func69 rfl rfl <|
  inl_cons Try.func70 rfl rfl <| inl_cons Try.func72 rfl rfl <| inl_cons Try.func74 rfl rfl <|
  inl_cons Try.func68 rfl rfl <| inl_cons Try.func71 rfl rfl <|
  inl_cons Try.func105 rfl rfl <| inl_cons Try.func106 rfl rfl inl_nil

/-- how many edges of a type go out of a node -/
def outS (ty : List UInt8) (es : List ED.T) (k : Int) : Nat := es.countP fun e => decide (e.2.1 = ty) && decide (e.2.2.1 = k)
def ruleS (nodes : List ND.T) (edges : List ED.T) (r : RD.T) : Bool :=
  if r.2.1 = 1 then decide (valsS r.2.2.1 r.2.2.2.1 nodes).Nodup
  else if r.2.1 = 2 then !nodes.any fun n => decide (n.2.1 = r.2.2.1) && !(getS n.2.2 r.2.2.2.1).2
  else if r.2.1 = 3 then !edges.any fun e => decide (e.2.1 = r.2.2.1) && !(isTS nodes e.2.2.1 r.2.2.2.2.1 && isTS nodes e.2.2.2.1 r.2.2.2.2.2.1)
  else !edges.any fun e => decide (e.2.1 = r.2.2.1) && decide (r.2.2.2.2.2.2.1 < (outS r.2.2.1 edges e.2.2.1 : Int))
/-- does a graph keep a rule? -/
def keepsS (nodes : List ND.T) (edges : List ED.T) (r : RD.T) : Bool := formS r && ruleS nodes edges r

theorem outS_step {ty : List UInt8} {es : List ED.T} {i : Nat} (h : i < es.length) (k : Int) : outS ty (es.take (i + 1)) k = outS ty (es.take i) k + (if (decide (es[i].2.1 = ty) && decide (es[i].2.2.1 = k)) = true then 1 else 0) := by
  rw [take_step h, outS, outS, List.countP_append, List.countP_singleton]
/-- that no node has too many, told by the counts -/
theorem most_iff {ty : List UInt8} {edges : List ED.T} {N : Int} (hN : 0 ≤ N) {es : List (Int × Int)} (hp : es.Pairwise (fun p q => p.1 ≠ q.1)) (hm : ∀ k : Int, mval (kd := .int .i64) (vd := .int .i64) es k = (outS ty edges k : Int)) :
    (!edges.any fun e => decide (e.2.1 = ty) && decide (N < (outS ty edges e.2.2.1 : Int))) = true ↔ ∀ (i : Nat) (h : i < es.length), es[i].2 ≤ N := by
  simp only [Bool.not_eq_true', List.any_eq_false, Bool.and_eq_true, decide_eq_true_eq, not_and, Int.not_lt]
  constructor
  · intro h i hi
    have h1 : mval (kd := .int .i64) (vd := .int .i64) es es[i].1 = es[i].2 := mval_mem (kd := .int .i64) (vd := .int .i64) hp hi
    rw [hm] at h1
    rcases Nat.eq_zero_or_pos (outS ty edges es[i].1) with h0 | h0
    · rw [← show ((outS ty edges es[i].1 : Nat) : Int) = es[i].2 from h1, h0]; exact hN
    · obtain ⟨e, he, hpe⟩ := List.countP_pos_iff.1 h0
      simp only [Bool.and_eq_true, decide_eq_true_eq] at hpe
      have := h e he hpe.1
      rw [hpe.2] at this
      rw [← show ((outS ty edges es[i].1 : Nat) : Int) = es[i].2 from h1]
      exact this
  · intro h e he hty
    have hpos : 0 < outS ty edges e.2.2.1 := List.countP_pos_iff.2 ⟨e, he, by simp [hty]⟩
    obtain ⟨i, hi, hie⟩ := mval_get (kd := .int .i64) (vd := .int .i64) (es := es) (k := e.2.2.1) (by rw [hm]; show ((outS ty edges e.2.2.1 : Nat) : Int) ≠ 0; omega)
    have := h i hi
    rw [hie, hm] at this
    exact this

theorem rule_Keeps (nodes : List ND.T) (edges : List ED.T) (r : RD.T) (hn : nodes.length ≤ 1000) (he : edges.length ≤ 1000) (hw : ∀ n ∈ nodes, Wf ND n) (hwe : ∀ e ∈ edges, Wf ED e) (hr : Wf RD r) :
    FnD Try.prog 20 [.c (.dat ND nodes), .c (.dat ED edges), .agg (rc r)] (· = .c (.bool (.sym (keepsS nodes edges r)))) := by
  refine fnI inlK Try.func20 rfl rfl rfl ?_
  conv => whnf
  refine call1 (rule_Form r) rfl ?_
  conv => whnf
  refine ⟨fun h0 => ?_, fun h0 => ?_⟩
  · conv => whnf
    simp at h0
    simp [keepsS, h0]
  have h0 : formS r = true := by simpa using h0
  rw [keepsS, h0, Bool.true_and]
  conv => whnf
  refine ⟨by decide, ?_⟩
  conv => whnf
  refine ⟨by decide, ?_⟩
  conv => whnf
  refine ⟨by decide, ?_⟩
  conv => whnf
  refine ⟨by decide, ?_⟩
  conv => whnf
  refine ⟨hr.2.1, ⟨fun h1 => ?_, fun h1 => ⟨fun h2 => ?_, fun h2 => ⟨fun h3 => ?_, fun h3 => ⟨fun h4 => ?_, fun h4 => ?_⟩⟩⟩⟩⟩
  · conv => whnf
    refine call1 (rule_unique nodes r hn hw) rfl ?_
    conv => whnf
    simp at h1
    simp [ruleS, h1]
  · conv => whnf
    intro _
    conv => whnf
    have hS : ruleS nodes edges r = !nodes.any fun n => decide (n.2.1 = r.2.2.1) && !(getS n.2.2 r.2.2.2.1).2 := by simp at h2; simp [ruleS, h2]
    rw [hS]
    refine loop0 (α := Nat) (fun i => i ≤ nodes.length ∧ ((nodes.drop i).any fun n => decide (n.2.1 = r.2.2.1) && !(getS n.2.2 r.2.2.2.1).2) = nodes.any fun n => decide (n.2.1 = r.2.2.1) && !(getS n.2.2 r.2.2.2.1).2)
      (fun i => ⟨[(0, .c (.dat ND nodes)), (1, .c (.fn 69 [(2, 0), (3, 0)])), (7, .c (.int .i64 nodes.length)), (8, .c (.int .i64 i))],
        [(2, .cells 31 (rc r)), (3, .cells 89 [.fn 64 [(2, 0)]])], 5⟩) (fun i => nodes.length - i) ⟨0, ⟨by omega, rfl⟩, ?_⟩ ?_
    · (conv => whnf); refine ⟨rfl, ?_, ?_, ?_⟩ <;> (repeat' apply And.intro) <;> first | exact trivial | rfl | exact wr_succ _ (by omega) | assumption | exact decide_eq_false (by assumption) | exact decide_eq_true (by assumption)
    · rintro i ⟨hI1, hI2⟩
      conv => whnf
      refine ⟨fun h5 => ?_, fun h5 => ?_⟩
      · have h5 : i < nodes.length := by simp at h5; omega
        rw [any_step h5] at hI2
        conv => whnf
        try (intro _; conv => whnf)
        refine ⟨by omega, ?_⟩
        rw [gt_nat (d := ND) nodes i h5]
        conv => whnf
        refine call1 (val_Get nodes[i].2.2 r.2.2.2.1) rfl ?_
        conv => whnf
        refine ⟨fun h6 => ?_, fun h6 => ?_⟩
        · conv => whnf
          rw [← hI2, show (decide (nodes[i].2.1 = r.2.2.1) && !(getS nodes[i].2.2 r.2.2.2.1).2) = true from h6]
          simp
        · conv => whnf
          refine ⟨i + 1, ⟨⟨by omega, ?_⟩, by omega⟩, ?_⟩
          · rw [← hI2, show (decide (nodes[i].2.1 = r.2.2.1) && !(getS nodes[i].2.2 r.2.2.2.1).2) = false from h6, Bool.false_or]
          · (conv => whnf); refine ⟨rfl, ?_, ?_, ?_⟩ <;> (repeat' apply And.intro) <;> first | exact trivial | rfl | exact wr_succ _ (by omega) | assumption | exact decide_eq_false (by assumption) | exact decide_eq_true (by assumption)
      · conv => whnf
        rw [← hI2, any_end (by simp at h5; omega)]
        rfl
  · conv => whnf
    intro _
    conv => whnf
    have hS : ruleS nodes edges r = !edges.any fun e => decide (e.2.1 = r.2.2.1) && !(isTS nodes e.2.2.1 r.2.2.2.2.1 && isTS nodes e.2.2.2.1 r.2.2.2.2.2.1) := by simp at h3; simp [ruleS, h3]
    rw [hS]
    refine loop0 (α := Nat) (fun i => i ≤ edges.length ∧ ((edges.drop i).any fun e => decide (e.2.1 = r.2.2.1) && !(isTS nodes e.2.2.1 r.2.2.2.2.1 && isTS nodes e.2.2.2.1 r.2.2.2.2.2.1)) = edges.any fun e => decide (e.2.1 = r.2.2.1) && !(isTS nodes e.2.2.1 r.2.2.2.2.1 && isTS nodes e.2.2.2.1 r.2.2.2.2.2.1))
      (fun i => ⟨[(0, .c (.dat ED edges)), (1, .c (.fn 72 [(0, 0), (3, 0), (2, 0)])), (7, .c (.int .i64 edges.length)), (8, .c (.int .i64 i))],
        [(0, .cells 22 [.dat ND nodes]), (2, .cells 31 (rc r)), (3, .cells 89 [.fn 64 [(2, 0)]])], 5⟩) (fun i => edges.length - i) ⟨0, ⟨by omega, rfl⟩, ?_⟩ ?_
    · (conv => whnf); refine ⟨rfl, ?_, ?_, ?_⟩ <;> (repeat' apply And.intro) <;> first | exact trivial | rfl | exact wr_succ _ (by omega) | assumption | exact decide_eq_false (by assumption) | exact decide_eq_true (by assumption)
    · rintro i ⟨hI1, hI2⟩
      conv => whnf
      refine ⟨fun h5 => ?_, fun h5 => ?_⟩
      · have h5 : i < edges.length := by simp at h5; omega
        rw [any_step h5] at hI2
        conv => whnf
        try (intro _; conv => whnf)
        refine ⟨by omega, ?_⟩
        rw [gt_nat (d := ED) edges i h5]
        conv => whnf
        refine call1 (rule_typeOf nodes edges[i].2.2.1) rfl ?_
        conv => whnf
        refine call1 (rule_typeOf nodes edges[i].2.2.2.1) rfl ?_
        conv => whnf
        have hk : (decide (edges[i].2.1 = r.2.2.1) && !(isTS nodes edges[i].2.2.1 r.2.2.2.2.1 && isTS nodes edges[i].2.2.2.1 r.2.2.2.2.2.1)) =
            (decide (edges[i].2.1 = r.2.2.1) && !((typeS nodes edges[i].2.2.1).2 && (typeS nodes edges[i].2.2.2.1).2 && decide ((typeS nodes edges[i].2.2.1).1 = r.2.2.2.2.1) && decide ((typeS nodes edges[i].2.2.2.1).1 = r.2.2.2.2.2.1))) := by
          simp only [isTS]
          cases (typeS nodes edges[i].2.2.1).2 <;> cases (typeS nodes edges[i].2.2.2.1).2 <;> simp
        rw [hk] at hI2
        refine ⟨fun h6 => ?_, fun h6 => ?_⟩
        · conv => whnf
          rw [← hI2, h6]
          simp
        · conv => whnf
          refine ⟨i + 1, ⟨⟨by omega, ?_⟩, by omega⟩, ?_⟩
          · rw [← hI2, h6, Bool.false_or]
          · (conv => whnf); refine ⟨rfl, ?_, ?_, ?_⟩ <;> (repeat' apply And.intro) <;> first | exact trivial | rfl | exact wr_succ _ (by omega) | assumption | exact decide_eq_false (by assumption) | exact decide_eq_true (by assumption)
      · conv => whnf
        rw [← hI2, any_end (by simp at h5; omega)]
        rfl
  · conv => whnf
    intro _
    conv => whnf
    have hS : ruleS nodes edges r = !edges.any fun e => decide (e.2.1 = r.2.2.1) && decide (r.2.2.2.2.2.2.1 < (outS r.2.2.1 edges e.2.2.1 : Int)) := by simp at h4; simp [ruleS, h4]
    have hN : 0 ≤ r.2.2.2.2.2.2.1 := by simp at h4; simp [formS, h4] at h0; exact h0.2.1.2
    rw [hS]
    refine loop0 (α := Nat × List (Int × Int)) (fun p => p.1 ≤ edges.length ∧ p.2.Pairwise (fun a b => a.1 ≠ b.1) ∧ ∀ k : Int, mval (kd := .int .i64) (vd := .int .i64) p.2 k = (outS r.2.2.1 (edges.take p.1) k : Int))
      (fun p => ⟨[(1, .c (.ptr 3 0)), (2, .c (.ptr 2 0)), (4, .c (.mp 5)), (10, .c (.dat ED edges)), (11, .c (.int .i64 edges.length)), (12, .c (.int .i64 p.1))],
        [(2, .cells 31 (rc r)), (3, .cells 89 [.fn 64 [(2, 0)]]), (5, .dmp 109 (.int .i64) (.int .i64) p.2)], 6⟩) (fun p => edges.length - p.1) ⟨(0, []), ⟨by simp, List.Pairwise.nil, fun k => by simp [mval, midx, outS, D.df]⟩, ?_⟩ ?_
    · (conv => whnf); refine ⟨rfl, ?_, ?_, ?_⟩ <;> (repeat' apply And.intro) <;> first | exact trivial | rfl | exact wr_succ _ (by omega) | assumption | exact decide_eq_false (by assumption) | exact decide_eq_true (by assumption)
    · rintro ⟨i, es⟩ ⟨hI1, hI2, hI3⟩
      dsimp only at hI1 hI2 hI3 ⊢
      conv => whnf
      refine ⟨fun h5 => ?_, fun h5 => ?_⟩
      · have h5 : i < edges.length := by simp at h5; omega
        have hst := fun k => outS_step (ty := r.2.2.1) h5 k
        have hwf := (hwe edges[i] (List.getElem_mem h5)).2.2.1
        have hle : outS r.2.2.1 (edges.take i) edges[i].2.2.1 ≤ i := by
          have := List.countP_le_length (p := fun e : ED.T => decide (e.2.1 = r.2.2.1) && decide (e.2.2.1 = edges[i].2.2.1)) (l := edges.take i)
          rw [List.length_take] at this
          unfold outS; omega
        conv => whnf
        try (intro _; conv => whnf)
        refine ⟨by omega, ?_⟩
        rw [gt_nat (d := ED) edges i h5]
        conv => whnf
        refine ⟨fun h6 => ?_, fun h6 => ?_⟩
        · conv => whnf
          refine ⟨hwf, ?_⟩
          conv => whnf
          refine ⟨hwf, ?_⟩
          conv => whnf
          refine ⟨(i + 1, mset (kd := .int .i64) (vd := .int .i64) es edges[i].2.2.1 ((outS r.2.2.1 (edges.take i) edges[i].2.2.1 + 1 : Nat) : Int)), ⟨⟨by dsimp only; omega, mset_pairwise (kd := .int .i64) (vd := .int .i64) hI2 _ _, fun k => ?_⟩, by dsimp only; omega⟩, ?_⟩
          · dsimp only
            rw [hst, mval_mset (kd := .int .i64) (vd := .int .i64), h6, Bool.true_and]
            by_cases hk : edges[i].2.2.1 = k
            · rw [if_pos hk, if_pos (by simpa using hk), hk]
            · rw [if_neg hk, if_neg (by simpa using hk), hI3]; simp
          · conv => whnf
            rw [hI3, wr_succ' (outS r.2.2.1 (edges.take i) edges[i].2.2.1) (by omega)]
            (conv => whnf); refine ⟨rfl, ?_, ?_, ?_⟩ <;> (repeat' apply And.intro) <;> first | exact trivial | rfl | exact wr_succ _ (by omega) | assumption | exact decide_eq_false (by assumption) | exact decide_eq_true (by assumption)
        · conv => whnf
          refine ⟨(i + 1, es), ⟨⟨by dsimp only; omega, hI2, fun k => ?_⟩, by dsimp only; omega⟩, ?_⟩
          · dsimp only
            rw [hst, h6, hI3]; simp
          · (conv => whnf); refine ⟨rfl, ?_, ?_, ?_⟩ <;> (repeat' apply And.intro) <;> first | exact trivial | rfl | exact wr_succ _ (by omega) | assumption | exact decide_eq_false (by assumption) | exact decide_eq_true (by assumption)
      · have h5 : edges.length ≤ i := by simp at h5; omega
        rw [List.take_of_length_le h5] at hI3
        have hmost := most_iff hN hI2 hI3
        conv => whnf
        refine range0 rfl rfl rfl rfl rfl ?_
        conv => whnf
        refine loop0 (α := List Nat) (fun seen => seen.Nodup ∧ ∀ j ∈ seen, ∃ h : j < es.length, es[j].2 ≤ r.2.2.2.2.2.2.1)
          (fun seen => ⟨[(2, .c (.ptr 2 0)), (27, .c (.ptr 6 0))],
            [(2, .cells 31 (rc r)), (6, .itr 5 es.length seen), (5, .dmp 109 (.int .i64) (.int .i64) es)], 7⟩) (fun seen => es.length - seen.length) ⟨[], ⟨List.nodup_nil, fun _ h => by cases h⟩, ?_⟩ ?_
        · (conv => whnf); refine ⟨rfl, ?_, ?_, ?_⟩ <;> (repeat' apply And.intro) <;> first | exact trivial | rfl | exact wr_succ _ (by omega) | assumption | exact decide_eq_false (by assumption) | exact decide_eq_true (by assumption)
        · rintro seen ⟨hs1, hs2⟩
          conv => whnf
          refine next0 rfl rfl rfl rfl rfl rfl rfl (fun hall => ?_) (fun j hj hjs => ?_)
          · conv => whnf
            rw [hmost.2 (fun j hj => (hs2 j (hall j hj)).2)]
          · conv => whnf
            refine entry0 rfl rfl rfl rfl rfl hj rfl rfl ?_
            conv => whnf
            refine ⟨fun h7 => ?_, fun h7 => ?_⟩
            · conv => whnf
              have : ¬ (!edges.any fun e => decide (e.2.1 = r.2.2.1) && decide (r.2.2.2.2.2.2.1 < (outS r.2.2.1 edges e.2.2.1 : Int))) = true := fun h => by
                have := hmost.1 h j hj
                simp at h7; omega
              rw [Bool.not_eq_true] at this
              rw [this]
            · conv => whnf
              have hnd : (seen ++ [j]).Nodup := by
                rw [List.nodup_append]
                exact ⟨hs1, by simp, fun a ha b hb e => by simp at hb; subst hb; subst e; exact hjs ha⟩
              have hin : ∀ m ∈ seen ++ [j], ∃ h : m < es.length, es[m].2 ≤ r.2.2.2.2.2.2.1 := fun m hm => by
                rcases List.mem_append.1 hm with hm | hm
                · exact hs2 m hm
                · simp at hm; subst hm
                  exact ⟨hj, by simp at h7; omega⟩
              have hbd := nodup_bd hnd (fun m hm => (hin m hm).1)
              refine ⟨seen ++ [j], ⟨⟨hnd, hin⟩, by simp at hbd ⊢; omega⟩, ?_⟩
              (conv => whnf); refine ⟨rfl, ?_, ?_, ?_⟩ <;> (repeat' apply And.intro) <;> first | exact trivial | rfl | exact wr_succ _ (by omega) | assumption | exact decide_eq_false (by assumption) | exact decide_eq_true (by assumption)
  · exfalso
    simp at h1 h2 h3 h4
    simp [formS, h1, h2, h3, h4] at h0
end Go.Proofs.Ytfpgjaallhpddaa
