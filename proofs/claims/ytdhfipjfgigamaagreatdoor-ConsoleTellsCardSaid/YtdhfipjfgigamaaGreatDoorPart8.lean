/- Several texts of the proof, one behind the other; put together by a program of the session (mrg.py). Own work. -/
import Derived.Test.YtdhfipjfgigamaaGreatDoorPart7
/- The walks of decimal, props, Tell. Own work. -/
set_option linter.unusedVariables false
set_option maxRecDepth 100000
namespace Go.Proofs.YtdhfipjfgigamaaGreatDoor.Con
open Go Go.RowKit Go.Lib OE

theorem console_decimal (n : Int) (h0 : -9223372036854775808 ≤ n) (h1 : n ≤ 9223372036854775807) : FnD Tryz.prog 45 [.c (.int .i64 n)] (· = .c (.str (itoa n))) := by
  refine fn0 Tryz.func45 rfl rfl rfl ?_
  conv => whnf
  refine call1 (lib_FormatInt n h0 h1) rfl ?_
  conv => whnf
def propsW : List PD.T → List (List UInt8)
  | [] => []
  | p :: l => p.1 :: wordV p.2 :: propsW l
theorem propsW_app : ∀ (a : List PD.T) (p : PD.T), propsW (a ++ [p]) = propsW a ++ [p.1, wordV p.2]
  | [], p => rfl
  | q :: a, p => by
    show q.1 :: wordV q.2 :: propsW (a ++ [p]) = _
    rw [propsW_app a p]; rfl
theorem propsW_len : ∀ a : List PD.T, (propsW a).length = 2 * a.length
  | [] => rfl
  | q :: a => by
    show (propsW a).length + 1 + 1 = _
    rw [propsW_len a, List.length_cons]; omega
/-- properties that can be written -/
def okPs (l : List PD.T) : Prop := l.length ≤ 60 ∧ ∀ p ∈ l, p.1.length ≤ 1000 ∧ Wf VD p.2 ∧ p.2.2.2.length ≤ 5000
theorem console_props (l : List PD.T) (hl : okPs l) : FnD Tryz.prog 46 [.c (.dat PD l)] (· = .c (.dat .str (propsW l))) := by
  obtain ⟨hn, hl⟩ := hl
  refine fn0 Tryz.func46 rfl rfl rfl ?_
  conv => whnf
  intro _
  conv => whnf
  refine nilsl0 3 9 .str rfl ?_
  conv => whnf
  refine loop0 (α := Nat) (fun i => i ≤ l.length) (fun i => ⟨[(3, .c (.row 0)), (6, .c (.dat PD l)), (7, .c (.int .i64 l.length)), (8, .c (.int .i64 i))], [(0, .row 9 .str (propsW (l.take i)))], 1⟩) (fun i => l.length - i) ⟨0, Nat.zero_le _, ?_⟩ ?_
  · (conv => whnf); refine ⟨rfl, ?_, ?_, ?_⟩ <;> (repeat' apply And.intro) <;> first | exact trivial | rfl | exact wr_succ _ (by omega) | assumption | exact decide_eq_false (by assumption) | exact decide_eq_true (by assumption)
  intro i hi
  conv => whnf
  refine ⟨fun b => ?_, fun b => ?_⟩
  · have b : i < l.length := by have := of_decide_eq_true b; omega
    obtain ⟨p1, p2, p3⟩ := hl _ (List.getElem_mem b)
    conv => whnf
    try (intro _; conv => whnf)
    refine ⟨by omega, ?_⟩
    rw [gt_nat (d := PD) l i b]
    conv => whnf
    refine any0 ?_
    conv => whnf
    refine callr0 (console_word l[i].2 (wf_i64 p2.2.1).1 (wf_i64 p2.2.1).2 (Nat.le_trans p3 (by decide))) rfl ?_
    conv => whnf
    have hst := propsW_app (l.take i) l[i]
    rw [show l.take i ++ [l[i]] = l.take (i + 1) by rw [List.take_add_one, List.getElem?_eq_getElem b]; rfl] at hst
    refine ⟨by show ((propsW (l.take i)).length + 2) * 16 ≤ 140737488355328; rw [propsW_len, List.length_take]; omega, ?_⟩
    conv => whnf
    refine ⟨.inl (by kernel_rfl), after0 ?_⟩
    conv => whnf
    refine ⟨i + 1, ⟨by omega, by omega⟩, ?_⟩
    rw [hst]
    (conv => whnf); refine ⟨rfl, ?_, ?_, ?_⟩ <;> (repeat' apply And.intro) <;> first | exact trivial | rfl | exact wr_succ _ (by omega) | assumption | exact decide_eq_false (by assumption) | exact decide_eq_true (by assumption)
  · have b : i = l.length := by have := of_decide_eq_false b; omega
    subst b
    rw [List.take_of_length_le (Nat.le_refl _)]
    conv => whnf
/-! a reply's lines -/
def tellN (n : ND.T) : List UInt8 := join ([110] :: itoa n.1 :: n.2.1 :: propsW n.2.2) [32]
def tellE (e : ED.T) : List UInt8 := join ([101] :: itoa e.1 :: e.2.1 :: itoa e.2.2.1 :: itoa e.2.2.2.1 :: propsW e.2.2.2.2) [32]
def tell1 (r : Ans.AD.T) : List (List UInt8) := [itoa r.1] ++ (if (r.2.1 : Int) = 0 then [] else [[105, 100, 32] ++ itoa r.2.1])
def tell2 (r : Ans.AD.T) : List (List UInt8) := tell1 r ++ (if (r.2.2.1 : Int) = 0 then [] else [[114, 117, 108, 101, 32] ++ itoa r.2.2.1])
def tell3 (r : Ans.AD.T) : List (List UInt8) := tell2 r ++ (r.2.2.2.1 : List ND.T).map tellN
def tell4 (r : Ans.AD.T) : List (List UInt8) := tell3 r ++ (r.2.2.2.2.1 : List ED.T).map tellE
def tellI (l : List Int) : List UInt8 := join ([105, 100, 115] :: l.map itoa) [32]
def tellS (r : Ans.AD.T) : List (List UInt8) := tell4 r ++ (if (r.2.2.2.2.2.1 : List Int) = [] then [] else [tellI r.2.2.2.2.2.1])
/-- replies that can be told -/
structure OkA (r : Ans.AD.T) : Prop where
  w : Wf Ans.AD r
  n : (r.2.2.2.1 : List ND.T).length ≤ 300 ∧ ∀ n ∈ (r.2.2.2.1 : List ND.T), n.2.1.length ≤ 1000 ∧ okPs n.2.2
  e : (r.2.2.2.2.1 : List ED.T).length ≤ 300 ∧ ∀ e ∈ (r.2.2.2.2.1 : List ED.T), e.2.1.length ≤ 1000 ∧ okPs e.2.2.2.2
  i : (r.2.2.2.2.2.1 : List Int).length ≤ 3000
theorem itoa_len {n : Int} (h0 : -9223372036854775808 ≤ n) (h1 : n ≤ 9223372036854775807) : (itoa n).length ≤ 20 := by
  by_cases h : n < 0
  · rw [itoa_neg' h, List.length_cons]
    have := dec_len (u := n.natAbs) (by omega); omega
  · rw [itoa_pos (by omega)]
    have := dec_len (u := n.toNat) (by omega); omega
theorem wordV_len {v : VD.T} (hv : Wf VD v) (hl : v.2.2.length ≤ 5000) : (wordV v).length ≤ 10001 := by
  unfold wordV
  split
  · decide
  · split
    · split <;> decide
    · split
      · have := itoa_len (wf_i64 hv.2.1).1 (wf_i64 hv.2.1).2; omega
      · rw [List.length_cons, hexS_len]; omega
theorem join_len : ∀ (l : List (List UInt8)) {B : Nat}, (∀ w ∈ l, w.length ≤ B) → (join l [32]).length ≤ l.length * (B + 1)
  | [], B, _ => by simp [join, List.intercalate]
  | [a], B, h => by
    have := h a (List.mem_cons_self ..)
    have e : join [a] [32] = a := by simp [join, List.intercalate]
    rw [e]; simp; omega
  | a :: b :: r, B, h => by
    have h1 := h a (List.mem_cons_self ..)
    have h2 := join_len (b :: r) (B := B) fun w hw => h w (List.mem_cons_of_mem _ hw)
    have e : join (a :: b :: r) [32] = a ++ 32 :: join (b :: r) [32] := by
      unfold join
      rw [List.intercalate_cons_cons]; simp
    rw [e, List.length_append, List.length_cons, show (a :: b :: r).length = (b :: r).length + 1 from rfl, Nat.add_mul]
    omega
theorem props_in {l : List PD.T} (hl : okPs l) : ∀ w ∈ propsW l, w.length ≤ 10001 := by
  replace hl := hl.2
  induction l with
  | nil => intro w h; cases h
  | cons p l ih =>
    obtain ⟨p1, p2, p3⟩ := hl p (List.mem_cons_self ..)
    intro w hw
    rcases List.mem_cons.1 hw with rfl | hw
    · omega
    · rcases List.mem_cons.1 hw with rfl | hw
      · exact wordV_len p2 p3
      · exact ih (fun q hq => hl q (List.mem_cons_of_mem _ hq)) w hw
theorem tellN_len {n : ND.T} (hn : Wf ND n) (h1 : n.2.1.length ≤ 1000) (h2 : okPs n.2.2) : (tellN n).length ≤ 140737488355328 := by
  have hp := props_in h2
  refine Nat.le_trans (join_len _ (B := 10001) fun w hw => ?_) ?_
  · rcases List.mem_cons.1 hw with rfl | hw
    · decide
    · rcases List.mem_cons.1 hw with rfl | hw
      · have := itoa_len (wf_i64 hn.1).1 (wf_i64 hn.1).2; omega
      · rcases List.mem_cons.1 hw with rfl | hw
        · omega
        · exact hp w hw
  · have := h2.1
    rw [List.length_cons, List.length_cons, List.length_cons, propsW_len]; omega
theorem tellE_len {e : ED.T} (hn : Wf ED e) (h1 : e.2.1.length ≤ 1000) (h2 : okPs e.2.2.2.2) : (tellE e).length ≤ 140737488355328 := by
  have hp := props_in h2
  refine Nat.le_trans (join_len _ (B := 10001) fun w hw => ?_) ?_
  · rcases List.mem_cons.1 hw with rfl | hw
    · decide
    · rcases List.mem_cons.1 hw with rfl | hw
      · have := itoa_len (wf_i64 hn.1).1 (wf_i64 hn.1).2; omega
      · rcases List.mem_cons.1 hw with rfl | hw
        · omega
        · rcases List.mem_cons.1 hw with rfl | hw
          · have := itoa_len (wf_i64 hn.2.2.1).1 (wf_i64 hn.2.2.1).2; omega
          · rcases List.mem_cons.1 hw with rfl | hw
            · have := itoa_len (wf_i64 hn.2.2.2.1).1 (wf_i64 hn.2.2.2.1).2; omega
            · exact hp w hw
  · have := h2.1
    rw [List.length_cons, List.length_cons, List.length_cons, List.length_cons, List.length_cons, propsW_len]; omega
theorem tellI_len {l : List Int} (hw : Wf (.list (.int .i64)) l) (hi : l.length ≤ 3000) : (join ([105, 100, 115] :: l.map itoa) [32]).length ≤ 140737488355328 := by
  refine Nat.le_trans (join_len _ (B := 20) fun w h => ?_) ?_
  · rcases List.mem_cons.1 h with rfl | h
    · decide
    · obtain ⟨n, hn, rfl⟩ := List.mem_map.1 h
      exact itoa_len (wf_i64 (hw.2 n hn)).1 (wf_i64 (hw.2 n hn)).2
  · rw [List.length_cons, List.length_map]; omega
theorem tell2_len (r : Ans.AD.T) : (tell2 r).length ≤ 3 := by
  unfold tell2 tell1
  split <;> split <;> simp
theorem console_Tell (r : Ans.AD.T) (h : OkA r) : FnD Tryz.prog 18 [.agg (Ans.ac r)] (· = .c (.dat .str (tellS r))) := by
  obtain ⟨hw, hn, he, hi⟩ := h
  have w1 := wf_i64 hw.1
  have w2 := wf_i64 hw.2.1
  have w3 := wf_i64 hw.2.2.1
  have l2 := tell2_len r
  have l3 : (tell3 r).length ≤ 303 := by unfold tell3; rw [List.length_append, List.length_map]; omega
  have l4 : (tell4 r).length ≤ 603 := by unfold tell4; rw [List.length_append, List.length_map]; omega
  have i2 := itoa_len w2.1 w2.2
  have i3 := itoa_len w3.1 w3.2
  replace hn : (r.2.2.2.1 : List ND.T).length ≤ 300 ∧ ∀ n ∈ (r.2.2.2.1 : List ND.T), n.2.1.length ≤ 1000 ∧ okPs n.2.2 := hn
  refine fn0 Tryz.func18 rfl rfl rfl ?_
  conv => whnf
  refine call1 (lib_Itoa r.1 w1.1 w1.2) rfl ?_
  conv => whnf
  refine ⟨fun a => ?_, fun a => ?_⟩
  · have a : ¬ (r.2.1 : Int) = 0 := by simpa using a
    have t1 : tell1 r = [itoa r.1] ++ [[105, 100, 32] ++ itoa r.2.1] := by unfold tell1; rw [if_neg a]
    conv => whnf
    refine call1 (console_decimal r.2.1 w2.1 w2.2) rfl ?_
    conv => whnf
    refine ⟨by show 3 + _ ≤ _; omega, ?_⟩
    conv => whnf
    refine ⟨by show (1 + 1) * 16 ≤ 140737488355328; omega, ?_⟩
    conv => whnf
    refine ⟨fun b => ?_, fun b => ?_⟩
    · have b : ¬ (r.2.2.1 : Int) = 0 := by simpa using b
      have t2 : tell2 r ++ ((r.2.2.2.1 : List ND.T).take 0).map tellN = [itoa r.1] ++ [[105, 100, 32] ++ itoa r.2.1] ++ [[114, 117, 108, 101, 32] ++ itoa r.2.2.1] := by unfold tell2; rw [if_neg b, t1]; rfl
      conv => whnf
      refine call1 (lib_Itoa r.2.2.1 w3.1 w3.2) rfl ?_
      conv => whnf
      refine ⟨by show 5 + _ ≤ _; omega, ?_⟩
      conv => whnf
      refine ⟨by show (2 + 1) * 16 ≤ 140737488355328; omega, ?_⟩
      conv => whnf
      intro _
      conv => whnf
      refine loop0 (α := Nat) (fun i => i ≤ (r.2.2.2.1 : List ND.T).length) (fun i => ⟨[(1, .c (.ptr 0 0)), (3, .c (.row 1)), (36, .c (.dat ND r.2.2.2.1)), (37, .c (.int .i64 (r.2.2.2.1 : List ND.T).length)), (38, .c (.int .i64 i))], [(0, .cells 52 (Ans.ac r)), (1, .row 9 .str (tell2 r ++ ((r.2.2.2.1 : List ND.T).take i).map tellN))], 2⟩) (fun i => (r.2.2.2.1 : List ND.T).length - i) ⟨0, Nat.zero_le _, ?_⟩ ?_
      · (conv => whnf); refine ⟨rfl, ?_, ?_, ?_⟩ <;> (repeat' apply And.intro) <;> first | exact trivial | rfl | exact wr_succ _ (by omega) | assumption | exact decide_eq_false (by assumption) | exact decide_eq_true (by assumption)
      intro i hj
      conv => whnf
      refine ⟨fun c => ?_, fun c => ?_⟩
      · have c : i < (r.2.2.2.1 : List ND.T).length := by have := of_decide_eq_true c; omega
        conv => whnf
        try (intro _; conv => whnf)
        refine ⟨by omega, ?_⟩
        rw [gt_nat (d := ND) r.2.2.2.1 i c]
        conv => whnf
        obtain ⟨hn1, hn2⟩ := hn.2 _ (List.getElem_mem c)
        have hnw : Wf ND (r.2.2.2.1 : List ND.T)[i] := hw.2.2.2.1.2 _ (List.getElem_mem c)
        have hnl := tellN_len hnw hn1 hn2
        generalize hnd : (r.2.2.2.1 : List ND.T)[i] = nd at hn1 hn2 hnw hnl ⊢
        refine any0 ?_
        conv => whnf
        refine callr0 (console_decimal nd.1 (wf_i64 hnw.1).1 (wf_i64 hnw.1).2) rfl ?_
        conv => whnf
        refine callr0 (console_props nd.2.2 hn2) rfl ?_
        conv => whnf
        have hpl := propsW_len nd.2.2
        have hp60 := hn2.1
        refine ⟨by show (3 + (propsW nd.2.2).length) * 16 ≤ 140737488355328; omega, ?_⟩
        conv => whnf
        refine lendr0 (lib_Join ([110] :: itoa nd.1 :: nd.2.1 :: propsW nd.2.2) [32] (by rw [List.length_cons, List.length_cons, List.length_cons]; omega) hnl) rfl rfl ?_
        conv => whnf
        refine ⟨by show ((tell2 r ++ ((r.2.2.2.1 : List ND.T).take i).map tellN).length + 1) * 16 ≤ 140737488355328; rw [List.length_append, List.length_map, List.length_take]; omega, ?_⟩
        conv => whnf
        refine ⟨.inl (by kernel_rfl), after0 ?_⟩
        conv => whnf
        refine ⟨i + 1, ⟨by omega, by omega⟩, ?_⟩
        have hst : tell2 r ++ ((r.2.2.2.1 : List ND.T).take (i + 1)).map tellN = (tell2 r ++ ((r.2.2.2.1 : List ND.T).take i).map tellN) ++ [tellN nd] := by rw [List.take_add_one, List.getElem?_eq_getElem c, hnd]; simp
        rw [hst]
        (conv => whnf); refine ⟨rfl, ?_, ?_, ?_⟩ <;> (repeat' apply And.intro) <;> first | exact trivial | rfl | exact wr_succ _ (by omega) | assumption | exact decide_eq_false (by assumption) | exact decide_eq_true (by assumption)
      have c : i = (r.2.2.2.1 : List ND.T).length := by have := of_decide_eq_false c; omega
      subst c
      have t3 : tell3 r ++ ((r.2.2.2.2.1 : List ED.T).take 0).map tellE = tell2 r ++ ((r.2.2.2.1 : List ND.T).take (r.2.2.2.1 : List ND.T).length).map tellN := by
        rw [List.take_of_length_le (Nat.le_refl _)]; exact List.append_nil _
      conv => whnf
      intro _
      conv => whnf
      refine loop0 (α := Nat) (fun i => i ≤ (r.2.2.2.2.1 : List ED.T).length) (fun i => ⟨[(1, .c (.ptr 0 0)), (3, .c (.row 1)), (58, .c (.dat ED r.2.2.2.2.1)), (59, .c (.int .i64 (r.2.2.2.2.1 : List ED.T).length)), (60, .c (.int .i64 i))], [(0, .cells 52 (Ans.ac r)), (1, .row 9 .str (tell3 r ++ ((r.2.2.2.2.1 : List ED.T).take i).map tellE))], 2⟩) (fun i => (r.2.2.2.2.1 : List ED.T).length - i) ⟨0, Nat.zero_le _, ?_⟩ ?_
      · (conv => whnf); refine ⟨rfl, ?_, ?_, ?_⟩ <;> (repeat' apply And.intro) <;> first | exact trivial | rfl | exact wr_succ _ (by omega) | assumption | exact decide_eq_false (by assumption) | exact decide_eq_true (by assumption)
      intro i hj
      conv => whnf
      refine ⟨fun c => ?_, fun c => ?_⟩
      · have c : i < (r.2.2.2.2.1 : List ED.T).length := by have := of_decide_eq_true c; omega
        conv => whnf
        try (intro _; conv => whnf)
        refine ⟨by omega, ?_⟩
        rw [gt_nat (d := ED) r.2.2.2.2.1 i c]
        conv => whnf
        obtain ⟨hn1, hn2⟩ := he.2 _ (List.getElem_mem c)
        have hnw : Wf ED (r.2.2.2.2.1 : List ED.T)[i] := hw.2.2.2.2.1.2 _ (List.getElem_mem c)
        have hnl := tellE_len hnw hn1 hn2
        generalize hnd : (r.2.2.2.2.1 : List ED.T)[i] = nd at hn1 hn2 hnw hnl ⊢
        refine any0 ?_
        conv => whnf
        refine callr0 (console_decimal nd.1 (wf_i64 hnw.1).1 (wf_i64 hnw.1).2) rfl ?_
        conv => whnf
        refine callr0 (console_decimal nd.2.2.1 (wf_i64 hnw.2.2.1).1 (wf_i64 hnw.2.2.1).2) rfl ?_
        conv => whnf
        refine callr0 (console_decimal nd.2.2.2.1 (wf_i64 hnw.2.2.2.1).1 (wf_i64 hnw.2.2.2.1).2) rfl ?_
        conv => whnf
        refine callr0 (console_props nd.2.2.2.2 hn2) rfl ?_
        conv => whnf
        have hpl := propsW_len nd.2.2.2.2
        have hp60 := hn2.1
        refine ⟨by show (5 + (propsW nd.2.2.2.2).length) * 16 ≤ 140737488355328; omega, ?_⟩
        conv => whnf
        refine lendr0 (lib_Join ([101] :: itoa nd.1 :: nd.2.1 :: itoa nd.2.2.1 :: itoa nd.2.2.2.1 :: propsW nd.2.2.2.2) [32] (by rw [List.length_cons, List.length_cons, List.length_cons, List.length_cons, List.length_cons]; omega) hnl) rfl rfl ?_
        conv => whnf
        refine ⟨by show ((tell3 r ++ ((r.2.2.2.2.1 : List ED.T).take i).map tellE).length + 1) * 16 ≤ 140737488355328; rw [List.length_append, List.length_map, List.length_take]; omega, ?_⟩
        conv => whnf
        refine ⟨.inl (by kernel_rfl), after0 ?_⟩
        conv => whnf
        refine ⟨i + 1, ⟨by omega, by omega⟩, ?_⟩
        have hst : tell3 r ++ ((r.2.2.2.2.1 : List ED.T).take (i + 1)).map tellE = (tell3 r ++ ((r.2.2.2.2.1 : List ED.T).take i).map tellE) ++ [tellE nd] := by rw [List.take_add_one, List.getElem?_eq_getElem c, hnd]; simp
        rw [hst]
        (conv => whnf); refine ⟨rfl, ?_, ?_, ?_⟩ <;> (repeat' apply And.intro) <;> first | exact trivial | rfl | exact wr_succ _ (by omega) | assumption | exact decide_eq_false (by assumption) | exact decide_eq_true (by assumption)
      have c : i = (r.2.2.2.2.1 : List ED.T).length := by have := of_decide_eq_false c; omega
      subst c
      rw [show tell3 r ++ ((r.2.2.2.2.1 : List ED.T).take (r.2.2.2.2.1 : List ED.T).length).map tellE = tell4 r by rw [List.take_of_length_le (Nat.le_refl _)]; rfl]
      conv => whnf
      intro _
      conv => whnf
      refine ⟨fun d => ?_, fun d => ?_⟩
      · have d : ¬ (r.2.2.2.2.2.1 : List Int) = [] := by
          intro h
          have := of_decide_eq_true d
          rw [h] at this
          exact absurd this (by decide)
        conv => whnf
        intro _
        conv => whnf
        refine loop0 (α := Nat) (fun i => i ≤ (r.2.2.2.2.2.1 : List Int).length) (fun i => ⟨[(1, .c (.ptr 0 0)), (3, .c (.row 1)), (8, .c (.row 2)), (91, .c (.dat (.int .i64) r.2.2.2.2.2.1)), (92, .c (.int .i64 (r.2.2.2.2.2.1 : List Int).length)), (93, .c (.int .i64 i))], [(0, .cells 52 (Ans.ac r)), (1, .row 9 .str (tell4 r)), (2, .row 9 .str ([105, 100, 115] :: ((r.2.2.2.2.2.1 : List Int).take i).map itoa))], 3⟩) (fun i => (r.2.2.2.2.2.1 : List Int).length - i) ⟨0, Nat.zero_le _, ?_⟩ ?_
        · (conv => whnf); refine ⟨rfl, ?_, ?_, ?_⟩ <;> (repeat' apply And.intro) <;> first | exact trivial | rfl | exact wr_succ _ (by omega) | assumption | exact decide_eq_false (by assumption) | exact decide_eq_true (by assumption)
        intro i hj2
        conv => whnf
        refine ⟨fun c => ?_, fun c => ?_⟩
        · have c : i < (r.2.2.2.2.2.1 : List Int).length := by have := of_decide_eq_true c; omega
          conv => whnf
          try (intro _; conv => whnf)
          refine ⟨by omega, ?_⟩
          rw [gt_nat (d := Ans.LD) r.2.2.2.2.2.1 i c]
          conv => whnf
          have hnw := wf_i64 (hw.2.2.2.2.2.1.2 _ (List.getElem_mem c))
          generalize hnd : (r.2.2.2.2.2.1 : List Int)[i] = nd at hnw ⊢
          refine call1 (console_decimal nd hnw.1 hnw.2) rfl ?_
          conv => whnf
          refine ⟨by show (([105, 100, 115] :: ((r.2.2.2.2.2.1 : List Int).take i).map itoa).length + 1) * 16 ≤ 140737488355328; rw [List.length_cons, List.length_map, List.length_take]; omega, ?_⟩
          conv => whnf
          refine ⟨i + 1, ⟨by omega, by omega⟩, ?_⟩
          have hst : ([105, 100, 115] : List UInt8) :: ((r.2.2.2.2.2.1 : List Int).take (i + 1)).map itoa = ([105, 100, 115] :: ((r.2.2.2.2.2.1 : List Int).take i).map itoa) ++ [itoa nd] := by rw [List.take_add_one, List.getElem?_eq_getElem c, hnd]; simp
          rw [hst]
          (conv => whnf); refine ⟨rfl, ?_, ?_, ?_⟩ <;> (repeat' apply And.intro) <;> first | exact trivial | rfl | exact wr_succ _ (by omega) | assumption | exact decide_eq_false (by assumption) | exact decide_eq_true (by assumption)
        have c : i = (r.2.2.2.2.2.1 : List Int).length := by have := of_decide_eq_false c; omega
        subst c
        rw [List.take_of_length_le (Nat.le_refl _)]
        conv => whnf
        refine lend0 (lib_Join ([105, 100, 115] :: (r.2.2.2.2.2.1 : List Int).map itoa) [32] (by rw [List.length_cons, List.length_map]; omega) (tellI_len hw.2.2.2.2.2.1 hi)) rfl rfl ?_
        conv => whnf
        refine ⟨by show ((tell4 r).length + 1) * 16 ≤ 140737488355328; omega, ?_⟩
        conv => whnf
        rw [show tellS r = tell4 r ++ [tellI r.2.2.2.2.2.1] by unfold tellS; rw [if_neg d]]
        rfl
      · have d : (r.2.2.2.2.2.1 : List Int) = [] := by
          have := of_decide_eq_false d
          exact List.eq_nil_of_length_eq_zero (by omega)
        conv => whnf
        rw [show tellS r = tell4 r by unfold tellS; rw [if_pos d]; exact List.append_nil _]
    · have b : (r.2.2.1 : Int) = 0 := by simpa using b
      have t2 : tell2 r ++ ((r.2.2.2.1 : List ND.T).take 0).map tellN = [itoa r.1] ++ [[105, 100, 32] ++ itoa r.2.1] := by unfold tell2; rw [if_pos b, t1]; rfl
      conv => whnf
      intro _
      conv => whnf
      refine loop0 (α := Nat) (fun i => i ≤ (r.2.2.2.1 : List ND.T).length) (fun i => ⟨[(1, .c (.ptr 0 0)), (3, .c (.row 1)), (36, .c (.dat ND r.2.2.2.1)), (37, .c (.int .i64 (r.2.2.2.1 : List ND.T).length)), (38, .c (.int .i64 i))], [(0, .cells 52 (Ans.ac r)), (1, .row 9 .str (tell2 r ++ ((r.2.2.2.1 : List ND.T).take i).map tellN))], 2⟩) (fun i => (r.2.2.2.1 : List ND.T).length - i) ⟨0, Nat.zero_le _, ?_⟩ ?_
      · (conv => whnf); refine ⟨rfl, ?_, ?_, ?_⟩ <;> (repeat' apply And.intro) <;> first | exact trivial | rfl | exact wr_succ _ (by omega) | assumption | exact decide_eq_false (by assumption) | exact decide_eq_true (by assumption)
      intro i hj
      conv => whnf
      refine ⟨fun c => ?_, fun c => ?_⟩
      · have c : i < (r.2.2.2.1 : List ND.T).length := by have := of_decide_eq_true c; omega
        conv => whnf
        try (intro _; conv => whnf)
        refine ⟨by omega, ?_⟩
        rw [gt_nat (d := ND) r.2.2.2.1 i c]
        conv => whnf
        obtain ⟨hn1, hn2⟩ := hn.2 _ (List.getElem_mem c)
        have hnw : Wf ND (r.2.2.2.1 : List ND.T)[i] := hw.2.2.2.1.2 _ (List.getElem_mem c)
        have hnl := tellN_len hnw hn1 hn2
        generalize hnd : (r.2.2.2.1 : List ND.T)[i] = nd at hn1 hn2 hnw hnl ⊢
        refine any0 ?_
        conv => whnf
        refine callr0 (console_decimal nd.1 (wf_i64 hnw.1).1 (wf_i64 hnw.1).2) rfl ?_
        conv => whnf
        refine callr0 (console_props nd.2.2 hn2) rfl ?_
        conv => whnf
        have hpl := propsW_len nd.2.2
        have hp60 := hn2.1
        refine ⟨by show (3 + (propsW nd.2.2).length) * 16 ≤ 140737488355328; omega, ?_⟩
        conv => whnf
        refine lendr0 (lib_Join ([110] :: itoa nd.1 :: nd.2.1 :: propsW nd.2.2) [32] (by rw [List.length_cons, List.length_cons, List.length_cons]; omega) hnl) rfl rfl ?_
        conv => whnf
        refine ⟨by show ((tell2 r ++ ((r.2.2.2.1 : List ND.T).take i).map tellN).length + 1) * 16 ≤ 140737488355328; rw [List.length_append, List.length_map, List.length_take]; omega, ?_⟩
        conv => whnf
        refine ⟨.inl (by kernel_rfl), after0 ?_⟩
        conv => whnf
        refine ⟨i + 1, ⟨by omega, by omega⟩, ?_⟩
        have hst : tell2 r ++ ((r.2.2.2.1 : List ND.T).take (i + 1)).map tellN = (tell2 r ++ ((r.2.2.2.1 : List ND.T).take i).map tellN) ++ [tellN nd] := by rw [List.take_add_one, List.getElem?_eq_getElem c, hnd]; simp
        rw [hst]
        (conv => whnf); refine ⟨rfl, ?_, ?_, ?_⟩ <;> (repeat' apply And.intro) <;> first | exact trivial | rfl | exact wr_succ _ (by omega) | assumption | exact decide_eq_false (by assumption) | exact decide_eq_true (by assumption)
      have c : i = (r.2.2.2.1 : List ND.T).length := by have := of_decide_eq_false c; omega
      subst c
      have t3 : tell3 r ++ ((r.2.2.2.2.1 : List ED.T).take 0).map tellE = tell2 r ++ ((r.2.2.2.1 : List ND.T).take (r.2.2.2.1 : List ND.T).length).map tellN := by
        rw [List.take_of_length_le (Nat.le_refl _)]; exact List.append_nil _
      conv => whnf
      intro _
      conv => whnf
      refine loop0 (α := Nat) (fun i => i ≤ (r.2.2.2.2.1 : List ED.T).length) (fun i => ⟨[(1, .c (.ptr 0 0)), (3, .c (.row 1)), (58, .c (.dat ED r.2.2.2.2.1)), (59, .c (.int .i64 (r.2.2.2.2.1 : List ED.T).length)), (60, .c (.int .i64 i))], [(0, .cells 52 (Ans.ac r)), (1, .row 9 .str (tell3 r ++ ((r.2.2.2.2.1 : List ED.T).take i).map tellE))], 2⟩) (fun i => (r.2.2.2.2.1 : List ED.T).length - i) ⟨0, Nat.zero_le _, ?_⟩ ?_
      · (conv => whnf); refine ⟨rfl, ?_, ?_, ?_⟩ <;> (repeat' apply And.intro) <;> first | exact trivial | rfl | exact wr_succ _ (by omega) | assumption | exact decide_eq_false (by assumption) | exact decide_eq_true (by assumption)
      intro i hj
      conv => whnf
      refine ⟨fun c => ?_, fun c => ?_⟩
      · have c : i < (r.2.2.2.2.1 : List ED.T).length := by have := of_decide_eq_true c; omega
        conv => whnf
        try (intro _; conv => whnf)
        refine ⟨by omega, ?_⟩
        rw [gt_nat (d := ED) r.2.2.2.2.1 i c]
        conv => whnf
        obtain ⟨hn1, hn2⟩ := he.2 _ (List.getElem_mem c)
        have hnw : Wf ED (r.2.2.2.2.1 : List ED.T)[i] := hw.2.2.2.2.1.2 _ (List.getElem_mem c)
        have hnl := tellE_len hnw hn1 hn2
        generalize hnd : (r.2.2.2.2.1 : List ED.T)[i] = nd at hn1 hn2 hnw hnl ⊢
        refine any0 ?_
        conv => whnf
        refine callr0 (console_decimal nd.1 (wf_i64 hnw.1).1 (wf_i64 hnw.1).2) rfl ?_
        conv => whnf
        refine callr0 (console_decimal nd.2.2.1 (wf_i64 hnw.2.2.1).1 (wf_i64 hnw.2.2.1).2) rfl ?_
        conv => whnf
        refine callr0 (console_decimal nd.2.2.2.1 (wf_i64 hnw.2.2.2.1).1 (wf_i64 hnw.2.2.2.1).2) rfl ?_
        conv => whnf
        refine callr0 (console_props nd.2.2.2.2 hn2) rfl ?_
        conv => whnf
        have hpl := propsW_len nd.2.2.2.2
        have hp60 := hn2.1
        refine ⟨by show (5 + (propsW nd.2.2.2.2).length) * 16 ≤ 140737488355328; omega, ?_⟩
        conv => whnf
        refine lendr0 (lib_Join ([101] :: itoa nd.1 :: nd.2.1 :: itoa nd.2.2.1 :: itoa nd.2.2.2.1 :: propsW nd.2.2.2.2) [32] (by rw [List.length_cons, List.length_cons, List.length_cons, List.length_cons, List.length_cons]; omega) hnl) rfl rfl ?_
        conv => whnf
        refine ⟨by show ((tell3 r ++ ((r.2.2.2.2.1 : List ED.T).take i).map tellE).length + 1) * 16 ≤ 140737488355328; rw [List.length_append, List.length_map, List.length_take]; omega, ?_⟩
        conv => whnf
        refine ⟨.inl (by kernel_rfl), after0 ?_⟩
        conv => whnf
        refine ⟨i + 1, ⟨by omega, by omega⟩, ?_⟩
        have hst : tell3 r ++ ((r.2.2.2.2.1 : List ED.T).take (i + 1)).map tellE = (tell3 r ++ ((r.2.2.2.2.1 : List ED.T).take i).map tellE) ++ [tellE nd] := by rw [List.take_add_one, List.getElem?_eq_getElem c, hnd]; simp
        rw [hst]
        (conv => whnf); refine ⟨rfl, ?_, ?_, ?_⟩ <;> (repeat' apply And.intro) <;> first | exact trivial | rfl | exact wr_succ _ (by omega) | assumption | exact decide_eq_false (by assumption) | exact decide_eq_true (by assumption)
      have c : i = (r.2.2.2.2.1 : List ED.T).length := by have := of_decide_eq_false c; omega
      subst c
      rw [show tell3 r ++ ((r.2.2.2.2.1 : List ED.T).take (r.2.2.2.2.1 : List ED.T).length).map tellE = tell4 r by rw [List.take_of_length_le (Nat.le_refl _)]; rfl]
      conv => whnf
      intro _
      conv => whnf
      refine ⟨fun d => ?_, fun d => ?_⟩
      · have d : ¬ (r.2.2.2.2.2.1 : List Int) = [] := by
          intro h
          have := of_decide_eq_true d
          rw [h] at this
          exact absurd this (by decide)
        conv => whnf
        intro _
        conv => whnf
        refine loop0 (α := Nat) (fun i => i ≤ (r.2.2.2.2.2.1 : List Int).length) (fun i => ⟨[(1, .c (.ptr 0 0)), (3, .c (.row 1)), (8, .c (.row 2)), (91, .c (.dat (.int .i64) r.2.2.2.2.2.1)), (92, .c (.int .i64 (r.2.2.2.2.2.1 : List Int).length)), (93, .c (.int .i64 i))], [(0, .cells 52 (Ans.ac r)), (1, .row 9 .str (tell4 r)), (2, .row 9 .str ([105, 100, 115] :: ((r.2.2.2.2.2.1 : List Int).take i).map itoa))], 3⟩) (fun i => (r.2.2.2.2.2.1 : List Int).length - i) ⟨0, Nat.zero_le _, ?_⟩ ?_
        · (conv => whnf); refine ⟨rfl, ?_, ?_, ?_⟩ <;> (repeat' apply And.intro) <;> first | exact trivial | rfl | exact wr_succ _ (by omega) | assumption | exact decide_eq_false (by assumption) | exact decide_eq_true (by assumption)
        intro i hj2
        conv => whnf
        refine ⟨fun c => ?_, fun c => ?_⟩
        · have c : i < (r.2.2.2.2.2.1 : List Int).length := by have := of_decide_eq_true c; omega
          conv => whnf
          try (intro _; conv => whnf)
          refine ⟨by omega, ?_⟩
          rw [gt_nat (d := Ans.LD) r.2.2.2.2.2.1 i c]
          conv => whnf
          have hnw := wf_i64 (hw.2.2.2.2.2.1.2 _ (List.getElem_mem c))
          generalize hnd : (r.2.2.2.2.2.1 : List Int)[i] = nd at hnw ⊢
          refine call1 (console_decimal nd hnw.1 hnw.2) rfl ?_
          conv => whnf
          refine ⟨by show (([105, 100, 115] :: ((r.2.2.2.2.2.1 : List Int).take i).map itoa).length + 1) * 16 ≤ 140737488355328; rw [List.length_cons, List.length_map, List.length_take]; omega, ?_⟩
          conv => whnf
          refine ⟨i + 1, ⟨by omega, by omega⟩, ?_⟩
          have hst : ([105, 100, 115] : List UInt8) :: ((r.2.2.2.2.2.1 : List Int).take (i + 1)).map itoa = ([105, 100, 115] :: ((r.2.2.2.2.2.1 : List Int).take i).map itoa) ++ [itoa nd] := by rw [List.take_add_one, List.getElem?_eq_getElem c, hnd]; simp
          rw [hst]
          (conv => whnf); refine ⟨rfl, ?_, ?_, ?_⟩ <;> (repeat' apply And.intro) <;> first | exact trivial | rfl | exact wr_succ _ (by omega) | assumption | exact decide_eq_false (by assumption) | exact decide_eq_true (by assumption)
        have c : i = (r.2.2.2.2.2.1 : List Int).length := by have := of_decide_eq_false c; omega
        subst c
        rw [List.take_of_length_le (Nat.le_refl _)]
        conv => whnf
        refine lend0 (lib_Join ([105, 100, 115] :: (r.2.2.2.2.2.1 : List Int).map itoa) [32] (by rw [List.length_cons, List.length_map]; omega) (tellI_len hw.2.2.2.2.2.1 hi)) rfl rfl ?_
        conv => whnf
        refine ⟨by show ((tell4 r).length + 1) * 16 ≤ 140737488355328; omega, ?_⟩
        conv => whnf
        rw [show tellS r = tell4 r ++ [tellI r.2.2.2.2.2.1] by unfold tellS; rw [if_neg d]]
        rfl
      · have d : (r.2.2.2.2.2.1 : List Int) = [] := by
          have := of_decide_eq_false d
          exact List.eq_nil_of_length_eq_zero (by omega)
        conv => whnf
        rw [show tellS r = tell4 r by unfold tellS; rw [if_pos d]; exact List.append_nil _]
  · have a : (r.2.1 : Int) = 0 := by simpa using a
    have t1 : tell1 r = [itoa r.1] := by unfold tell1; rw [if_pos a]; rfl
    conv => whnf
    refine ⟨fun b => ?_, fun b => ?_⟩
    · have b : ¬ (r.2.2.1 : Int) = 0 := by simpa using b
      have t2 : tell2 r ++ ((r.2.2.2.1 : List ND.T).take 0).map tellN = [itoa r.1] ++ [[114, 117, 108, 101, 32] ++ itoa r.2.2.1] := by unfold tell2; rw [if_neg b, t1]; rfl
      conv => whnf
      refine call1 (lib_Itoa r.2.2.1 w3.1 w3.2) rfl ?_
      conv => whnf
      refine ⟨by show 5 + _ ≤ _; omega, ?_⟩
      conv => whnf
      refine ⟨by show (1 + 1) * 16 ≤ 140737488355328; omega, ?_⟩
      conv => whnf
      intro _
      conv => whnf
      refine loop0 (α := Nat) (fun i => i ≤ (r.2.2.2.1 : List ND.T).length) (fun i => ⟨[(1, .c (.ptr 0 0)), (3, .c (.row 1)), (36, .c (.dat ND r.2.2.2.1)), (37, .c (.int .i64 (r.2.2.2.1 : List ND.T).length)), (38, .c (.int .i64 i))], [(0, .cells 52 (Ans.ac r)), (1, .row 9 .str (tell2 r ++ ((r.2.2.2.1 : List ND.T).take i).map tellN))], 2⟩) (fun i => (r.2.2.2.1 : List ND.T).length - i) ⟨0, Nat.zero_le _, ?_⟩ ?_
      · (conv => whnf); refine ⟨rfl, ?_, ?_, ?_⟩ <;> (repeat' apply And.intro) <;> first | exact trivial | rfl | exact wr_succ _ (by omega) | assumption | exact decide_eq_false (by assumption) | exact decide_eq_true (by assumption)
      intro i hj
      conv => whnf
      refine ⟨fun c => ?_, fun c => ?_⟩
      · have c : i < (r.2.2.2.1 : List ND.T).length := by have := of_decide_eq_true c; omega
        conv => whnf
        try (intro _; conv => whnf)
        refine ⟨by omega, ?_⟩
        rw [gt_nat (d := ND) r.2.2.2.1 i c]
        conv => whnf
        obtain ⟨hn1, hn2⟩ := hn.2 _ (List.getElem_mem c)
        have hnw : Wf ND (r.2.2.2.1 : List ND.T)[i] := hw.2.2.2.1.2 _ (List.getElem_mem c)
        have hnl := tellN_len hnw hn1 hn2
        generalize hnd : (r.2.2.2.1 : List ND.T)[i] = nd at hn1 hn2 hnw hnl ⊢
        refine any0 ?_
        conv => whnf
        refine callr0 (console_decimal nd.1 (wf_i64 hnw.1).1 (wf_i64 hnw.1).2) rfl ?_
        conv => whnf
        refine callr0 (console_props nd.2.2 hn2) rfl ?_
        conv => whnf
        have hpl := propsW_len nd.2.2
        have hp60 := hn2.1
        refine ⟨by show (3 + (propsW nd.2.2).length) * 16 ≤ 140737488355328; omega, ?_⟩
        conv => whnf
        refine lendr0 (lib_Join ([110] :: itoa nd.1 :: nd.2.1 :: propsW nd.2.2) [32] (by rw [List.length_cons, List.length_cons, List.length_cons]; omega) hnl) rfl rfl ?_
        conv => whnf
        refine ⟨by show ((tell2 r ++ ((r.2.2.2.1 : List ND.T).take i).map tellN).length + 1) * 16 ≤ 140737488355328; rw [List.length_append, List.length_map, List.length_take]; omega, ?_⟩
        conv => whnf
        refine ⟨.inl (by kernel_rfl), after0 ?_⟩
        conv => whnf
        refine ⟨i + 1, ⟨by omega, by omega⟩, ?_⟩
        have hst : tell2 r ++ ((r.2.2.2.1 : List ND.T).take (i + 1)).map tellN = (tell2 r ++ ((r.2.2.2.1 : List ND.T).take i).map tellN) ++ [tellN nd] := by rw [List.take_add_one, List.getElem?_eq_getElem c, hnd]; simp
        rw [hst]
        (conv => whnf); refine ⟨rfl, ?_, ?_, ?_⟩ <;> (repeat' apply And.intro) <;> first | exact trivial | rfl | exact wr_succ _ (by omega) | assumption | exact decide_eq_false (by assumption) | exact decide_eq_true (by assumption)
      have c : i = (r.2.2.2.1 : List ND.T).length := by have := of_decide_eq_false c; omega
      subst c
      have t3 : tell3 r ++ ((r.2.2.2.2.1 : List ED.T).take 0).map tellE = tell2 r ++ ((r.2.2.2.1 : List ND.T).take (r.2.2.2.1 : List ND.T).length).map tellN := by
        rw [List.take_of_length_le (Nat.le_refl _)]; exact List.append_nil _
      conv => whnf
      intro _
      conv => whnf
      refine loop0 (α := Nat) (fun i => i ≤ (r.2.2.2.2.1 : List ED.T).length) (fun i => ⟨[(1, .c (.ptr 0 0)), (3, .c (.row 1)), (58, .c (.dat ED r.2.2.2.2.1)), (59, .c (.int .i64 (r.2.2.2.2.1 : List ED.T).length)), (60, .c (.int .i64 i))], [(0, .cells 52 (Ans.ac r)), (1, .row 9 .str (tell3 r ++ ((r.2.2.2.2.1 : List ED.T).take i).map tellE))], 2⟩) (fun i => (r.2.2.2.2.1 : List ED.T).length - i) ⟨0, Nat.zero_le _, ?_⟩ ?_
      · (conv => whnf); refine ⟨rfl, ?_, ?_, ?_⟩ <;> (repeat' apply And.intro) <;> first | exact trivial | rfl | exact wr_succ _ (by omega) | assumption | exact decide_eq_false (by assumption) | exact decide_eq_true (by assumption)
      intro i hj
      conv => whnf
      refine ⟨fun c => ?_, fun c => ?_⟩
      · have c : i < (r.2.2.2.2.1 : List ED.T).length := by have := of_decide_eq_true c; omega
        conv => whnf
        try (intro _; conv => whnf)
        refine ⟨by omega, ?_⟩
        rw [gt_nat (d := ED) r.2.2.2.2.1 i c]
        conv => whnf
        obtain ⟨hn1, hn2⟩ := he.2 _ (List.getElem_mem c)
        have hnw : Wf ED (r.2.2.2.2.1 : List ED.T)[i] := hw.2.2.2.2.1.2 _ (List.getElem_mem c)
        have hnl := tellE_len hnw hn1 hn2
        generalize hnd : (r.2.2.2.2.1 : List ED.T)[i] = nd at hn1 hn2 hnw hnl ⊢
        refine any0 ?_
        conv => whnf
        refine callr0 (console_decimal nd.1 (wf_i64 hnw.1).1 (wf_i64 hnw.1).2) rfl ?_
        conv => whnf
        refine callr0 (console_decimal nd.2.2.1 (wf_i64 hnw.2.2.1).1 (wf_i64 hnw.2.2.1).2) rfl ?_
        conv => whnf
        refine callr0 (console_decimal nd.2.2.2.1 (wf_i64 hnw.2.2.2.1).1 (wf_i64 hnw.2.2.2.1).2) rfl ?_
        conv => whnf
        refine callr0 (console_props nd.2.2.2.2 hn2) rfl ?_
        conv => whnf
        have hpl := propsW_len nd.2.2.2.2
        have hp60 := hn2.1
        refine ⟨by show (5 + (propsW nd.2.2.2.2).length) * 16 ≤ 140737488355328; omega, ?_⟩
        conv => whnf
        refine lendr0 (lib_Join ([101] :: itoa nd.1 :: nd.2.1 :: itoa nd.2.2.1 :: itoa nd.2.2.2.1 :: propsW nd.2.2.2.2) [32] (by rw [List.length_cons, List.length_cons, List.length_cons, List.length_cons, List.length_cons]; omega) hnl) rfl rfl ?_
        conv => whnf
        refine ⟨by show ((tell3 r ++ ((r.2.2.2.2.1 : List ED.T).take i).map tellE).length + 1) * 16 ≤ 140737488355328; rw [List.length_append, List.length_map, List.length_take]; omega, ?_⟩
        conv => whnf
        refine ⟨.inl (by kernel_rfl), after0 ?_⟩
        conv => whnf
        refine ⟨i + 1, ⟨by omega, by omega⟩, ?_⟩
        have hst : tell3 r ++ ((r.2.2.2.2.1 : List ED.T).take (i + 1)).map tellE = (tell3 r ++ ((r.2.2.2.2.1 : List ED.T).take i).map tellE) ++ [tellE nd] := by rw [List.take_add_one, List.getElem?_eq_getElem c, hnd]; simp
        rw [hst]
        (conv => whnf); refine ⟨rfl, ?_, ?_, ?_⟩ <;> (repeat' apply And.intro) <;> first | exact trivial | rfl | exact wr_succ _ (by omega) | assumption | exact decide_eq_false (by assumption) | exact decide_eq_true (by assumption)
      have c : i = (r.2.2.2.2.1 : List ED.T).length := by have := of_decide_eq_false c; omega
      subst c
      rw [show tell3 r ++ ((r.2.2.2.2.1 : List ED.T).take (r.2.2.2.2.1 : List ED.T).length).map tellE = tell4 r by rw [List.take_of_length_le (Nat.le_refl _)]; rfl]
      conv => whnf
      intro _
      conv => whnf
      refine ⟨fun d => ?_, fun d => ?_⟩
      · have d : ¬ (r.2.2.2.2.2.1 : List Int) = [] := by
          intro h
          have := of_decide_eq_true d
          rw [h] at this
          exact absurd this (by decide)
        conv => whnf
        intro _
        conv => whnf
        refine loop0 (α := Nat) (fun i => i ≤ (r.2.2.2.2.2.1 : List Int).length) (fun i => ⟨[(1, .c (.ptr 0 0)), (3, .c (.row 1)), (8, .c (.row 2)), (91, .c (.dat (.int .i64) r.2.2.2.2.2.1)), (92, .c (.int .i64 (r.2.2.2.2.2.1 : List Int).length)), (93, .c (.int .i64 i))], [(0, .cells 52 (Ans.ac r)), (1, .row 9 .str (tell4 r)), (2, .row 9 .str ([105, 100, 115] :: ((r.2.2.2.2.2.1 : List Int).take i).map itoa))], 3⟩) (fun i => (r.2.2.2.2.2.1 : List Int).length - i) ⟨0, Nat.zero_le _, ?_⟩ ?_
        · (conv => whnf); refine ⟨rfl, ?_, ?_, ?_⟩ <;> (repeat' apply And.intro) <;> first | exact trivial | rfl | exact wr_succ _ (by omega) | assumption | exact decide_eq_false (by assumption) | exact decide_eq_true (by assumption)
        intro i hj2
        conv => whnf
        refine ⟨fun c => ?_, fun c => ?_⟩
        · have c : i < (r.2.2.2.2.2.1 : List Int).length := by have := of_decide_eq_true c; omega
          conv => whnf
          try (intro _; conv => whnf)
          refine ⟨by omega, ?_⟩
          rw [gt_nat (d := Ans.LD) r.2.2.2.2.2.1 i c]
          conv => whnf
          have hnw := wf_i64 (hw.2.2.2.2.2.1.2 _ (List.getElem_mem c))
          generalize hnd : (r.2.2.2.2.2.1 : List Int)[i] = nd at hnw ⊢
          refine call1 (console_decimal nd hnw.1 hnw.2) rfl ?_
          conv => whnf
          refine ⟨by show (([105, 100, 115] :: ((r.2.2.2.2.2.1 : List Int).take i).map itoa).length + 1) * 16 ≤ 140737488355328; rw [List.length_cons, List.length_map, List.length_take]; omega, ?_⟩
          conv => whnf
          refine ⟨i + 1, ⟨by omega, by omega⟩, ?_⟩
          have hst : ([105, 100, 115] : List UInt8) :: ((r.2.2.2.2.2.1 : List Int).take (i + 1)).map itoa = ([105, 100, 115] :: ((r.2.2.2.2.2.1 : List Int).take i).map itoa) ++ [itoa nd] := by rw [List.take_add_one, List.getElem?_eq_getElem c, hnd]; simp
          rw [hst]
          (conv => whnf); refine ⟨rfl, ?_, ?_, ?_⟩ <;> (repeat' apply And.intro) <;> first | exact trivial | rfl | exact wr_succ _ (by omega) | assumption | exact decide_eq_false (by assumption) | exact decide_eq_true (by assumption)
        have c : i = (r.2.2.2.2.2.1 : List Int).length := by have := of_decide_eq_false c; omega
        subst c
        rw [List.take_of_length_le (Nat.le_refl _)]
        conv => whnf
        refine lend0 (lib_Join ([105, 100, 115] :: (r.2.2.2.2.2.1 : List Int).map itoa) [32] (by rw [List.length_cons, List.length_map]; omega) (tellI_len hw.2.2.2.2.2.1 hi)) rfl rfl ?_
        conv => whnf
        refine ⟨by show ((tell4 r).length + 1) * 16 ≤ 140737488355328; omega, ?_⟩
        conv => whnf
        rw [show tellS r = tell4 r ++ [tellI r.2.2.2.2.2.1] by unfold tellS; rw [if_neg d]]
        rfl
      · have d : (r.2.2.2.2.2.1 : List Int) = [] := by
          have := of_decide_eq_false d
          exact List.eq_nil_of_length_eq_zero (by omega)
        conv => whnf
        rw [show tellS r = tell4 r by unfold tellS; rw [if_pos d]; exact List.append_nil _]
    · have b : (r.2.2.1 : Int) = 0 := by simpa using b
      have t2 : tell2 r ++ ((r.2.2.2.1 : List ND.T).take 0).map tellN = [itoa r.1] := by unfold tell2; rw [if_pos b, t1]; rfl
      conv => whnf
      intro _
      conv => whnf
      refine loop0 (α := Nat) (fun i => i ≤ (r.2.2.2.1 : List ND.T).length) (fun i => ⟨[(1, .c (.ptr 0 0)), (3, .c (.row 1)), (36, .c (.dat ND r.2.2.2.1)), (37, .c (.int .i64 (r.2.2.2.1 : List ND.T).length)), (38, .c (.int .i64 i))], [(0, .cells 52 (Ans.ac r)), (1, .row 9 .str (tell2 r ++ ((r.2.2.2.1 : List ND.T).take i).map tellN))], 2⟩) (fun i => (r.2.2.2.1 : List ND.T).length - i) ⟨0, Nat.zero_le _, ?_⟩ ?_
      · (conv => whnf); refine ⟨rfl, ?_, ?_, ?_⟩ <;> (repeat' apply And.intro) <;> first | exact trivial | rfl | exact wr_succ _ (by omega) | assumption | exact decide_eq_false (by assumption) | exact decide_eq_true (by assumption)
      intro i hj
      conv => whnf
      refine ⟨fun c => ?_, fun c => ?_⟩
      · have c : i < (r.2.2.2.1 : List ND.T).length := by have := of_decide_eq_true c; omega
        conv => whnf
        try (intro _; conv => whnf)
        refine ⟨by omega, ?_⟩
        rw [gt_nat (d := ND) r.2.2.2.1 i c]
        conv => whnf
        obtain ⟨hn1, hn2⟩ := hn.2 _ (List.getElem_mem c)
        have hnw : Wf ND (r.2.2.2.1 : List ND.T)[i] := hw.2.2.2.1.2 _ (List.getElem_mem c)
        have hnl := tellN_len hnw hn1 hn2
        generalize hnd : (r.2.2.2.1 : List ND.T)[i] = nd at hn1 hn2 hnw hnl ⊢
        refine any0 ?_
        conv => whnf
        refine callr0 (console_decimal nd.1 (wf_i64 hnw.1).1 (wf_i64 hnw.1).2) rfl ?_
        conv => whnf
        refine callr0 (console_props nd.2.2 hn2) rfl ?_
        conv => whnf
        have hpl := propsW_len nd.2.2
        have hp60 := hn2.1
        refine ⟨by show (3 + (propsW nd.2.2).length) * 16 ≤ 140737488355328; omega, ?_⟩
        conv => whnf
        refine lendr0 (lib_Join ([110] :: itoa nd.1 :: nd.2.1 :: propsW nd.2.2) [32] (by rw [List.length_cons, List.length_cons, List.length_cons]; omega) hnl) rfl rfl ?_
        conv => whnf
        refine ⟨by show ((tell2 r ++ ((r.2.2.2.1 : List ND.T).take i).map tellN).length + 1) * 16 ≤ 140737488355328; rw [List.length_append, List.length_map, List.length_take]; omega, ?_⟩
        conv => whnf
        refine ⟨.inl (by kernel_rfl), after0 ?_⟩
        conv => whnf
        refine ⟨i + 1, ⟨by omega, by omega⟩, ?_⟩
        have hst : tell2 r ++ ((r.2.2.2.1 : List ND.T).take (i + 1)).map tellN = (tell2 r ++ ((r.2.2.2.1 : List ND.T).take i).map tellN) ++ [tellN nd] := by rw [List.take_add_one, List.getElem?_eq_getElem c, hnd]; simp
        rw [hst]
        (conv => whnf); refine ⟨rfl, ?_, ?_, ?_⟩ <;> (repeat' apply And.intro) <;> first | exact trivial | rfl | exact wr_succ _ (by omega) | assumption | exact decide_eq_false (by assumption) | exact decide_eq_true (by assumption)
      have c : i = (r.2.2.2.1 : List ND.T).length := by have := of_decide_eq_false c; omega
      subst c
      have t3 : tell3 r ++ ((r.2.2.2.2.1 : List ED.T).take 0).map tellE = tell2 r ++ ((r.2.2.2.1 : List ND.T).take (r.2.2.2.1 : List ND.T).length).map tellN := by
        rw [List.take_of_length_le (Nat.le_refl _)]; exact List.append_nil _
      conv => whnf
      intro _
      conv => whnf
      refine loop0 (α := Nat) (fun i => i ≤ (r.2.2.2.2.1 : List ED.T).length) (fun i => ⟨[(1, .c (.ptr 0 0)), (3, .c (.row 1)), (58, .c (.dat ED r.2.2.2.2.1)), (59, .c (.int .i64 (r.2.2.2.2.1 : List ED.T).length)), (60, .c (.int .i64 i))], [(0, .cells 52 (Ans.ac r)), (1, .row 9 .str (tell3 r ++ ((r.2.2.2.2.1 : List ED.T).take i).map tellE))], 2⟩) (fun i => (r.2.2.2.2.1 : List ED.T).length - i) ⟨0, Nat.zero_le _, ?_⟩ ?_
      · (conv => whnf); refine ⟨rfl, ?_, ?_, ?_⟩ <;> (repeat' apply And.intro) <;> first | exact trivial | rfl | exact wr_succ _ (by omega) | assumption | exact decide_eq_false (by assumption) | exact decide_eq_true (by assumption)
      intro i hj
      conv => whnf
      refine ⟨fun c => ?_, fun c => ?_⟩
      · have c : i < (r.2.2.2.2.1 : List ED.T).length := by have := of_decide_eq_true c; omega
        conv => whnf
        try (intro _; conv => whnf)
        refine ⟨by omega, ?_⟩
        rw [gt_nat (d := ED) r.2.2.2.2.1 i c]
        conv => whnf
        obtain ⟨hn1, hn2⟩ := he.2 _ (List.getElem_mem c)
        have hnw : Wf ED (r.2.2.2.2.1 : List ED.T)[i] := hw.2.2.2.2.1.2 _ (List.getElem_mem c)
        have hnl := tellE_len hnw hn1 hn2
        generalize hnd : (r.2.2.2.2.1 : List ED.T)[i] = nd at hn1 hn2 hnw hnl ⊢
        refine any0 ?_
        conv => whnf
        refine callr0 (console_decimal nd.1 (wf_i64 hnw.1).1 (wf_i64 hnw.1).2) rfl ?_
        conv => whnf
        refine callr0 (console_decimal nd.2.2.1 (wf_i64 hnw.2.2.1).1 (wf_i64 hnw.2.2.1).2) rfl ?_
        conv => whnf
        refine callr0 (console_decimal nd.2.2.2.1 (wf_i64 hnw.2.2.2.1).1 (wf_i64 hnw.2.2.2.1).2) rfl ?_
        conv => whnf
        refine callr0 (console_props nd.2.2.2.2 hn2) rfl ?_
        conv => whnf
        have hpl := propsW_len nd.2.2.2.2
        have hp60 := hn2.1
        refine ⟨by show (5 + (propsW nd.2.2.2.2).length) * 16 ≤ 140737488355328; omega, ?_⟩
        conv => whnf
        refine lendr0 (lib_Join ([101] :: itoa nd.1 :: nd.2.1 :: itoa nd.2.2.1 :: itoa nd.2.2.2.1 :: propsW nd.2.2.2.2) [32] (by rw [List.length_cons, List.length_cons, List.length_cons, List.length_cons, List.length_cons]; omega) hnl) rfl rfl ?_
        conv => whnf
        refine ⟨by show ((tell3 r ++ ((r.2.2.2.2.1 : List ED.T).take i).map tellE).length + 1) * 16 ≤ 140737488355328; rw [List.length_append, List.length_map, List.length_take]; omega, ?_⟩
        conv => whnf
        refine ⟨.inl (by kernel_rfl), after0 ?_⟩
        conv => whnf
        refine ⟨i + 1, ⟨by omega, by omega⟩, ?_⟩
        have hst : tell3 r ++ ((r.2.2.2.2.1 : List ED.T).take (i + 1)).map tellE = (tell3 r ++ ((r.2.2.2.2.1 : List ED.T).take i).map tellE) ++ [tellE nd] := by rw [List.take_add_one, List.getElem?_eq_getElem c, hnd]; simp
        rw [hst]
        (conv => whnf); refine ⟨rfl, ?_, ?_, ?_⟩ <;> (repeat' apply And.intro) <;> first | exact trivial | rfl | exact wr_succ _ (by omega) | assumption | exact decide_eq_false (by assumption) | exact decide_eq_true (by assumption)
      have c : i = (r.2.2.2.2.1 : List ED.T).length := by have := of_decide_eq_false c; omega
      subst c
      rw [show tell3 r ++ ((r.2.2.2.2.1 : List ED.T).take (r.2.2.2.2.1 : List ED.T).length).map tellE = tell4 r by rw [List.take_of_length_le (Nat.le_refl _)]; rfl]
      conv => whnf
      intro _
      conv => whnf
      refine ⟨fun d => ?_, fun d => ?_⟩
      · have d : ¬ (r.2.2.2.2.2.1 : List Int) = [] := by
          intro h
          have := of_decide_eq_true d
          rw [h] at this
          exact absurd this (by decide)
        conv => whnf
        intro _
        conv => whnf
        refine loop0 (α := Nat) (fun i => i ≤ (r.2.2.2.2.2.1 : List Int).length) (fun i => ⟨[(1, .c (.ptr 0 0)), (3, .c (.row 1)), (8, .c (.row 2)), (91, .c (.dat (.int .i64) r.2.2.2.2.2.1)), (92, .c (.int .i64 (r.2.2.2.2.2.1 : List Int).length)), (93, .c (.int .i64 i))], [(0, .cells 52 (Ans.ac r)), (1, .row 9 .str (tell4 r)), (2, .row 9 .str ([105, 100, 115] :: ((r.2.2.2.2.2.1 : List Int).take i).map itoa))], 3⟩) (fun i => (r.2.2.2.2.2.1 : List Int).length - i) ⟨0, Nat.zero_le _, ?_⟩ ?_
        · (conv => whnf); refine ⟨rfl, ?_, ?_, ?_⟩ <;> (repeat' apply And.intro) <;> first | exact trivial | rfl | exact wr_succ _ (by omega) | assumption | exact decide_eq_false (by assumption) | exact decide_eq_true (by assumption)
        intro i hj2
        conv => whnf
        refine ⟨fun c => ?_, fun c => ?_⟩
        · have c : i < (r.2.2.2.2.2.1 : List Int).length := by have := of_decide_eq_true c; omega
          conv => whnf
          try (intro _; conv => whnf)
          refine ⟨by omega, ?_⟩
          rw [gt_nat (d := Ans.LD) r.2.2.2.2.2.1 i c]
          conv => whnf
          have hnw := wf_i64 (hw.2.2.2.2.2.1.2 _ (List.getElem_mem c))
          generalize hnd : (r.2.2.2.2.2.1 : List Int)[i] = nd at hnw ⊢
          refine call1 (console_decimal nd hnw.1 hnw.2) rfl ?_
          conv => whnf
          refine ⟨by show (([105, 100, 115] :: ((r.2.2.2.2.2.1 : List Int).take i).map itoa).length + 1) * 16 ≤ 140737488355328; rw [List.length_cons, List.length_map, List.length_take]; omega, ?_⟩
          conv => whnf
          refine ⟨i + 1, ⟨by omega, by omega⟩, ?_⟩
          have hst : ([105, 100, 115] : List UInt8) :: ((r.2.2.2.2.2.1 : List Int).take (i + 1)).map itoa = ([105, 100, 115] :: ((r.2.2.2.2.2.1 : List Int).take i).map itoa) ++ [itoa nd] := by rw [List.take_add_one, List.getElem?_eq_getElem c, hnd]; simp
          rw [hst]
          (conv => whnf); refine ⟨rfl, ?_, ?_, ?_⟩ <;> (repeat' apply And.intro) <;> first | exact trivial | rfl | exact wr_succ _ (by omega) | assumption | exact decide_eq_false (by assumption) | exact decide_eq_true (by assumption)
        have c : i = (r.2.2.2.2.2.1 : List Int).length := by have := of_decide_eq_false c; omega
        subst c
        rw [List.take_of_length_le (Nat.le_refl _)]
        conv => whnf
        refine lend0 (lib_Join ([105, 100, 115] :: (r.2.2.2.2.2.1 : List Int).map itoa) [32] (by rw [List.length_cons, List.length_map]; omega) (tellI_len hw.2.2.2.2.2.1 hi)) rfl rfl ?_
        conv => whnf
        refine ⟨by show ((tell4 r).length + 1) * 16 ≤ 140737488355328; omega, ?_⟩
        conv => whnf
        rw [show tellS r = tell4 r ++ [tellI r.2.2.2.2.2.1] by unfold tellS; rw [if_neg d]]
        rfl
      · have d : (r.2.2.2.2.2.1 : List Int) = [] := by
          have := of_decide_eq_false d
          exact List.eq_nil_of_length_eq_zero (by omega)
        conv => whnf
        rw [show tellS r = tell4 r by unfold tellS; rw [if_pos d]; exact List.append_nil _]
end Go.Proofs.YtdhfipjfgigamaaGreatDoor.Con
/- A good command's line is read as it; a line that is read is its command's. Printed by a program of the session (genconback.py). Own work. -/
set_option linter.unusedVariables false
set_option maxRecDepth 100000
namespace Go.Proofs.YtdhfipjfgigamaaGreatDoor.Con
open Go Go.RowKit Go.Lib OE

/-- no blank in it -/
def noB (s : List UInt8) : Prop := ∀ c ∈ s, c ≠ 32
theorem w_sp {a : List UInt8} (b : List UInt8) (h : noB a) : wordsL (sp a b) = a :: wordsL b := wordsL_cut b h
theorem w_one {a : List UInt8} (h : noB a) : wordsL a = [a] := wordsL_one h
theorem nb_name {s : List UInt8} (h : nameS s = true) : noB s := by
  unfold nameS at h
  rw [Bool.and_eq_true, List.all_eq_true] at h
  intro c hc e
  have := h.2 c hc
  rw [e] at this
  revert this; decide
theorem nb_dec (u : Nat) : noB (decDigits u) := by
  have := (dec_val u).2.1
  rw [List.all_eq_true] at this
  exact fun c hc => (digit_ne (this c hc)).2.2.1
theorem nb_itoa (n : Int) : noB (itoa n) := by
  by_cases h : n < 0
  · rw [itoa_neg' h]
    intro c hc
    rcases List.mem_cons.1 hc with rfl | hc
    · decide
    · exact nb_dec _ c hc
  · rw [itoa_pos (by omega)]; exact nb_dec _
theorem nb_hex : ∀ s : List UInt8, noB (hexS s)
  | [] => fun c h => by cases h
  | a :: r => by
    have key : ∀ n, n < 16 → hexC n ≠ 32 := by
      intro n hn
      have : ∀ n : Fin 16, hexC n.val ≠ 32 := by decide
      exact this ⟨n, hn⟩
    intro c hc
    have ha := a.toNat_lt
    rcases List.mem_cons.1 hc with rfl | hc
    · exact key _ (by omega)
    · rcases List.mem_cons.1 hc with rfl | hc
      · exact key _ (by omega)
      · exact nb_hex r c hc
theorem nb_word (v : VD.T) : noB (wordV v) := by
  unfold wordV
  split
  · unfold noB; decide
  · split
    · split <;> (unfold noB; decide)
    · split
      · exact nb_itoa _
      · intro c hc
        rcases List.mem_cons.1 hc with rfl | hc
        · decide
        · exact nb_hex _ c hc
theorem itoa_head (n : Int) : ∃ c t, itoa n = c :: t ∧ (c = 45 ∨ digitB c = true) := by
  by_cases h : n < 0
  · exact ⟨45, _, itoa_neg' h, .inl rfl⟩
  · rw [itoa_pos (by omega)]
    obtain ⟨_, h2, h3, _⟩ := dec_val n.toNat
    cases hd : decDigits n.toNat with
    | nil => exact absurd hd h3
    | cons c t =>
      rw [hd, List.all_cons, Bool.and_eq_true] at h2
      exact ⟨c, t, rfl, .inr h2.1⟩
theorem int_none : intV tNone = none ∧ intV tFalse = none ∧ intV tTrue = none := by decide
theorem val_itoa {n : Int} (h0 : -9223372036854775808 ≤ n) (h1 : n ≤ 9223372036854775807) : valS (itoa n) = ((2, n, []), true) := by
  have hi := intV_itoa h0 h1
  obtain ⟨c, t, hc, hd⟩ := itoa_head n
  unfold valS
  rw [if_neg (fun e => by rw [e, int_none.1] at hi; cases hi), if_neg (fun e => by rw [e, int_none.2.1] at hi; cases hi), if_neg (fun e => by rw [e, int_none.2.2] at hi; cases hi), if_neg, hi, pn_of hi]
  · rfl
  · rw [hc]
    intro e
    have e : c = 34 := by simpa using e
    rw [e] at hd
    revert hd; decide
theorem val_hex (s : List UInt8) : valS (34 :: hexS s) = ((3, 0, s), true) := by
  obtain ⟨h1, h2⟩ := hexS_ok s
  unfold valS
  rw [if_neg (by simp), if_neg (by simp), if_neg (by simp), if_pos (by rfl), List.tail_cons, if_pos h1, h2]
theorem valR_of {s : List UInt8} {v : VD.T} (h : valS s = (v, true)) : valR s = (v, true) := by
  obtain ⟨h1, h2⟩ := val_eq s
  rw [h] at h1 h2
  have h2 := h2 rfl
  generalize valR s = p at h1 h2
  obtain ⟨a, b⟩ := p
  dsimp only at h1 h2
  rw [← h1, ← h2]
/-- a value that a command may have -/
theorem val_back {v : VD.T} (h : okVal v = true) (hw : Wf VD v) : valR (wordV v) = (v, true) := by
  obtain ⟨k, n, s⟩ := v
  unfold okVal at h
  rw [Bool.or_eq_true] at h
  by_cases k0 : k = 0
  · subst k0
    have hb : blankV (0, n, s) = true := by
      rcases h with h | h
      · cases h
      · exact h
    unfold blankV at hb
    simp only [Bool.and_eq_true, decide_eq_true_eq] at hb
    obtain ⟨⟨_, h2⟩, h3⟩ := hb
    have h2 : n = 0 := h2
    have h3 : s = [] := h3
    subst h2 h3
    exact valR_of (by decide)
  have hg : goodV (k, n, s) = true := by
    rcases h with h | h
    · exact h
    · unfold blankV at h
      simp only [Bool.and_eq_true, decide_eq_true_eq] at h
      exact absurd h.1.1 k0
  unfold goodV at hg
  split at hg
  · rename_i h1
    have h1 : k = 1 := h1
    subst h1
    unfold good1 at hg
    simp only [Bool.and_eq_true, Bool.or_eq_true, decide_eq_true_eq] at hg
    obtain ⟨h2, h3⟩ := hg
    have h3 : s = [] := h3
    subst h3
    rcases h2 with h2 | h2
    · have h2 : n = 0 := h2
      subst h2
      exact valR_of (by decide)
    · have h2 : n = 1 := h2
      subst h2
      exact valR_of (by decide)
  · split at hg
    · rename_i h1
      have h1 : k = 2 := h1
      subst h1
      have h3 : s = [] := of_decide_eq_true hg
      subst h3
      have hr := wf_i64 hw.2.1
      exact valR_of (val_itoa hr.1 hr.2)
    · split at hg
      · rename_i h1
        have h1 : k = 3 := h1
        subst h1
        unfold good3 at hg
        simp only [Bool.and_eq_true, decide_eq_true_eq] at hg
        have h2 : n = 0 := hg.1
        subst h2
        exact valR_of (val_hex s)
      · cases hg
theorem num_back {n : Int} (h0 : 0 ≤ n) (h1 : n ≤ 9223372036854775807) : numR (itoa n) = n := by
  have hi := intV_itoa (n := n) (by omega) h1
  have hh : ¬ (itoa n).head? = some 45 := by rw [itoa_pos h0]; exact dec_head
  rw [intV_of hh] at hi
  split at hi
  · exact Option.some.inj hi
  · cases hi
theorem id_rg {n : Int} (h : okId n = true) : 0 ≤ n ∧ n ≤ 9223372036854775807 := by
  unfold okId at h
  rw [Bool.and_eq_true, decide_eq_true_eq, decide_eq_true_eq] at h
  omega
theorem rg_two {n : Int} (h : n = 1 ∨ n = 2) : 0 ≤ n ∧ n ≤ 9223372036854775807 := by omega
theorem rg_le {n b : Int} (hb : b ≤ 9223372036854775807) (h0 : 0 ≤ n) (h1 : n ≤ b) : 0 ≤ n ∧ n ≤ 9223372036854775807 := by omega
/-! and what is read -/
theorem num_text {a : List UInt8} (h : decide (0 ≤ numR a) = true) : itoa (numR a) = a := by
  have h := of_decide_eq_true h
  have ho := numR_some.1 h
  have hn : numR a = (valD a : Int) := by unfold numR; rw [if_pos ho]
  rw [hn, itoa_pos (by omega), Int.toNat_natCast]
  unfold numOk at ho
  rw [Bool.and_eq_true] at ho
  exact dec_canon ho.1
theorem val_text {s : List UInt8} (h : (valR s).2 = true) : wordV (valR s).1 = s := by
  obtain ⟨h1, h2⟩ := val_eq s
  rw [← h1] at h
  rw [← h2 h]
  unfold valS at h ⊢
  by_cases g1 : s = tNone
  · rw [if_pos g1, g1]; rfl
  rw [if_neg g1] at h ⊢
  by_cases g2 : s = tFalse
  · rw [if_pos g2, g2]; rfl
  rw [if_neg g2] at h ⊢
  by_cases g3 : s = tTrue
  · rw [if_pos g3, g3]; rfl
  rw [if_neg g3] at h ⊢
  by_cases g4 : s.head? = some 34
  · rw [if_pos g4] at h ⊢
    by_cases g5 : hexB s.tail = true
    · rw [if_pos g5]
      show 34 :: hexS (unhex s.tail) = s
      rw [hex_un _ _ (Nat.le_refl _) g5]
      cases s with
      | nil => cases g4
      | cons c t =>
        have g4 : c = 34 := by simpa using g4
        rw [g4]; rfl
    · rw [if_neg g5] at h; cases h
  rw [if_neg g4] at h ⊢
  obtain ⟨n, hn⟩ := Option.isSome_iff_exists.1 h
  rw [pn_of hn]
  exact (intV_some hn).1

theorem b_begin (hg : refgood (m0 1) = true) : finR (ofR (wordsL [98, 101, 103, 105, 110])) = some (m0 1) ∧ ∃ x ∈ formsL, x.2.1 = (m0 1).1 ∧ lineX x (m0 1) = [98, 101, 103, 105, 110] := by
  refine ⟨?_, ([98, 101, 103, 105, 110], 1, 0, []), by decide, rfl, ?_⟩
  · rw [w_one (by unfold noB; decide)]
    show finR (m0 1, true) = some (m0 1)
    exact finG _ hg rfl
  · show joinW [[98, 101, 103, 105, 110]] = _
    rw [joinW_one]
theorem b_commit (hg : refgood (m0 2) = true) : finR (ofR (wordsL [99, 111, 109, 109, 105, 116])) = some (m0 2) ∧ ∃ x ∈ formsL, x.2.1 = (m0 2).1 ∧ lineX x (m0 2) = [99, 111, 109, 109, 105, 116] := by
  refine ⟨?_, ([99, 111, 109, 109, 105, 116], 2, 0, []), by decide, rfl, ?_⟩
  · rw [w_one (by unfold noB; decide)]
    show finR (m0 2, true) = some (m0 2)
    exact finG _ hg rfl
  · show joinW [[99, 111, 109, 109, 105, 116]] = _
    rw [joinW_one]
theorem b_abort (hg : refgood (m0 3) = true) : finR (ofR (wordsL [97, 98, 111, 114, 116])) = some (m0 3) ∧ ∃ x ∈ formsL, x.2.1 = (m0 3).1 ∧ lineX x (m0 3) = [97, 98, 111, 114, 116] := by
  refine ⟨?_, ([97, 98, 111, 114, 116], 3, 0, []), by decide, rfl, ?_⟩
  · rw [w_one (by unfold noB; decide)]
    show finR (m0 3, true) = some (m0 3)
    exact finG _ hg rfl
  · show joinW [[97, 98, 111, 114, 116]] = _
    rw [joinW_one]
theorem b_catalog (hg : refgood (m0 20) = true) : finR (ofR (wordsL [99, 97, 116, 97, 108, 111, 103])) = some (m0 20) ∧ ∃ x ∈ formsL, x.2.1 = (m0 20).1 ∧ lineX x (m0 20) = [99, 97, 116, 97, 108, 111, 103] := by
  refine ⟨?_, ([99, 97, 116, 97, 108, 111, 103], 20, 0, []), by decide, rfl, ?_⟩
  · rw [w_one (by unfold noB; decide)]
    show finR (m0 20, true) = some (m0 20)
    exact finG _ hg rfl
  · show joinW [[99, 97, 116, 97, 108, 111, 103]] = _
    rw [joinW_one]
theorem b_save (a : List UInt8) (na : nameS a = true) (hg : refgood (mNm (m0 4) a) = true) : finR (ofR (wordsL (sp [115, 97, 118, 101] a))) = some (mNm (m0 4) a) ∧ ∃ x ∈ formsL, x.2.1 = (mNm (m0 4) a).1 ∧ lineX x (mNm (m0 4) a) = (sp [115, 97, 118, 101] a) := by
  refine ⟨?_, ([115, 97, 118, 101], 4, 0, [110]), by decide, rfl, ?_⟩
  · rw [w_sp _ (by unfold noB; decide), w_one (nb_name na)]
    show finR (mNm (m0 4) a, true) = some (mNm (m0 4) a)
    exact finG _ hg rfl
  · show joinW [[115, 97, 118, 101], a] = _
    rw [joinW_cons, joinW_one]
theorem b_back (a : List UInt8) (na : nameS a = true) (hg : refgood (mNm (m0 5) a) = true) : finR (ofR (wordsL (sp [98, 97, 99, 107] a))) = some (mNm (m0 5) a) ∧ ∃ x ∈ formsL, x.2.1 = (mNm (m0 5) a).1 ∧ lineX x (mNm (m0 5) a) = (sp [98, 97, 99, 107] a) := by
  refine ⟨?_, ([98, 97, 99, 107], 5, 0, [110]), by decide, rfl, ?_⟩
  · rw [w_sp _ (by unfold noB; decide), w_one (nb_name na)]
    show finR (mNm (m0 5) a, true) = some (mNm (m0 5) a)
    exact finG _ hg rfl
  · show joinW [[98, 97, 99, 107], a] = _
    rw [joinW_cons, joinW_one]
theorem b_node (a : List UInt8) (na : nameS a = true) (hg : refgood (opM (oT (o0 1) a)) = true) : finR (ofR (wordsL (sp [110, 111, 100, 101] a))) = some (opM (oT (o0 1) a)) ∧ ∃ x ∈ formsL, x.2.1 = (opM (oT (o0 1) a)).1 ∧ lineX x (opM (oT (o0 1) a)) = (sp [110, 111, 100, 101] a) := by
  refine ⟨?_, ([110, 111, 100, 101], 6, 1, [116]), by decide, rfl, ?_⟩
  · rw [w_sp _ (by unfold noB; decide), w_one (nb_name na)]
    show finR (opM (oT (o0 1) a), true) = some (opM (oT (o0 1) a))
    exact finG _ hg rfl
  · show joinW [[110, 111, 100, 101], a] = _
    rw [joinW_cons, joinW_one]
theorem b_drop (a : Int) (ra : 0 ≤ a ∧ a ≤ 9223372036854775807) (hg : refgood (opM (oI (o0 2) a)) = true) : finR (ofR (wordsL (sp [100, 114, 111, 112] (itoa a)))) = some (opM (oI (o0 2) a)) ∧ ∃ x ∈ formsL, x.2.1 = (opM (oI (o0 2) a)).1 ∧ lineX x (opM (oI (o0 2) a)) = (sp [100, 114, 111, 112] (itoa a)) := by
  refine ⟨?_, ([100, 114, 111, 112], 6, 2, [105]), by decide, rfl, ?_⟩
  · rw [w_sp _ (by unfold noB; decide), w_one (nb_itoa a)]
    show finR (opM (oI (o0 2) (numR (itoa a))), decide (0 ≤ numR (itoa a))) = some (opM (oI (o0 2) a))
    rw [num_back ra.1 ra.2]
    exact finG _ hg (by rw [decide_eq_true ra.1] <;> rfl)
  · show joinW [[100, 114, 111, 112], (itoa a)] = _
    rw [joinW_cons, joinW_one]
theorem b_cascade (a : Int) (ra : 0 ≤ a ∧ a ≤ 9223372036854775807) (hg : refgood (opM (oC (oI (o0 2) a) true)) = true) : finR (ofR (wordsL (sp [99, 97, 115, 99, 97, 100, 101] (itoa a)))) = some (opM (oC (oI (o0 2) a) true)) ∧ ∃ x ∈ formsL, x.2.1 = (opM (oC (oI (o0 2) a) true)).1 ∧ lineX x (opM (oC (oI (o0 2) a) true)) = (sp [99, 97, 115, 99, 97, 100, 101] (itoa a)) := by
  refine ⟨?_, ([99, 97, 115, 99, 97, 100, 101], 6, 2, [105]), by decide, rfl, ?_⟩
  · rw [w_sp _ (by unfold noB; decide), w_one (nb_itoa a)]
    show finR (opM (oC (oI (o0 2) (numR (itoa a))) true), decide (0 ≤ numR (itoa a))) = some (opM (oC (oI (o0 2) a) true))
    rw [num_back ra.1 ra.2]
    exact finG _ hg (by rw [decide_eq_true ra.1] <;> rfl)
  · show joinW [[99, 97, 115, 99, 97, 100, 101], (itoa a)] = _
    rw [joinW_cons, joinW_one]
theorem b_edge (a : List UInt8) (b : Int) (c : Int) (rb : 0 ≤ b ∧ b ≤ 9223372036854775807) (rc : 0 ≤ c ∧ c ≤ 9223372036854775807) (na : nameS a = true) (hg : refgood (opM (oE (oF (oT (o0 3) a) b) c)) = true) : finR (ofR (wordsL (sp [101, 100, 103, 101] (sp a (sp (itoa b) (itoa c)))))) = some (opM (oE (oF (oT (o0 3) a) b) c)) ∧ ∃ x ∈ formsL, x.2.1 = (opM (oE (oF (oT (o0 3) a) b) c)).1 ∧ lineX x (opM (oE (oF (oT (o0 3) a) b) c)) = (sp [101, 100, 103, 101] (sp a (sp (itoa b) (itoa c)))) := by
  refine ⟨?_, ([101, 100, 103, 101], 6, 3, [116, 97, 98]), by decide, rfl, ?_⟩
  · rw [w_sp _ (by unfold noB; decide), w_sp _ (nb_name na), w_sp _ (nb_itoa b), w_one (nb_itoa c)]
    show finR (opM (oE (oF (oT (o0 3) a) (numR (itoa b))) (numR (itoa c))), decide (0 ≤ numR (itoa b)) && decide (0 ≤ numR (itoa c))) = some (opM (oE (oF (oT (o0 3) a) b) c))
    rw [num_back rb.1 rb.2, num_back rc.1 rc.2]
    exact finG _ hg (by rw [decide_eq_true rb.1, decide_eq_true rc.1] <;> rfl)
  · show joinW [[101, 100, 103, 101], a, (itoa b), (itoa c)] = _
    rw [joinW_cons, joinW_cons, joinW_cons, joinW_one]
theorem b_cut (a : Int) (ra : 0 ≤ a ∧ a ≤ 9223372036854775807) (hg : refgood (opM (oI (o0 4) a)) = true) : finR (ofR (wordsL (sp [99, 117, 116] (itoa a)))) = some (opM (oI (o0 4) a)) ∧ ∃ x ∈ formsL, x.2.1 = (opM (oI (o0 4) a)).1 ∧ lineX x (opM (oI (o0 4) a)) = (sp [99, 117, 116] (itoa a)) := by
  refine ⟨?_, ([99, 117, 116], 6, 4, [105]), by decide, rfl, ?_⟩
  · rw [w_sp _ (by unfold noB; decide), w_one (nb_itoa a)]
    show finR (opM (oI (o0 4) (numR (itoa a))), decide (0 ≤ numR (itoa a))) = some (opM (oI (o0 4) a))
    rw [num_back ra.1 ra.2]
    exact finG _ hg (by rw [decide_eq_true ra.1] <;> rfl)
  · show joinW [[99, 117, 116], (itoa a)] = _
    rw [joinW_cons, joinW_one]
theorem b_set (a : Int) (b : List UInt8) (c : VD.T) (ra : 0 ≤ a ∧ a ≤ 9223372036854775807) (vc : okVal c = true) (uc : Wf VD c) (nb : nameS b = true) (hg : refgood (opM (oVl (oN (oI (o0 5) a) b) c)) = true) : finR (ofR (wordsL (sp [115, 101, 116] (sp (itoa a) (sp b (wordV c)))))) = some (opM (oVl (oN (oI (o0 5) a) b) c)) ∧ ∃ x ∈ formsL, x.2.1 = (opM (oVl (oN (oI (o0 5) a) b) c)).1 ∧ lineX x (opM (oVl (oN (oI (o0 5) a) b) c)) = (sp [115, 101, 116] (sp (itoa a) (sp b (wordV c)))) := by
  refine ⟨?_, ([115, 101, 116], 6, 5, [105, 110, 118]), by decide, rfl, ?_⟩
  · rw [w_sp _ (by unfold noB; decide), w_sp _ (nb_itoa a), w_sp _ (nb_name nb), w_one (nb_word c)]
    show finR (opM (oVl (oN (oI (o0 5) (numR (itoa a))) b) (valR (wordV c)).1), decide (0 ≤ numR (itoa a)) && (valR (wordV c)).2) = some (opM (oVl (oN (oI (o0 5) a) b) c))
    rw [num_back ra.1 ra.2, val_back vc uc]
    exact finG _ hg (by rw [decide_eq_true ra.1] <;> rfl)
  · show joinW [[115, 101, 116], (itoa a), b, (wordV c)] = _
    rw [joinW_cons, joinW_cons, joinW_cons, joinW_one]
theorem b_get (a : Int) (ra : 0 ≤ a ∧ a ≤ 9223372036854775807) (hg : refgood (mI (m0 7) a) = true) : finR (ofR (wordsL (sp [103, 101, 116] (itoa a)))) = some (mI (m0 7) a) ∧ ∃ x ∈ formsL, x.2.1 = (mI (m0 7) a).1 ∧ lineX x (mI (m0 7) a) = (sp [103, 101, 116] (itoa a)) := by
  refine ⟨?_, ([103, 101, 116], 7, 0, [105]), by decide, rfl, ?_⟩
  · rw [w_sp _ (by unfold noB; decide), w_one (nb_itoa a)]
    show finR (mI (m0 7) (numR (itoa a)), decide (0 ≤ numR (itoa a))) = some (mI (m0 7) a)
    rw [num_back ra.1 ra.2]
    exact finG _ hg (by rw [decide_eq_true ra.1] <;> rfl)
  · show joinW [[103, 101, 116], (itoa a)] = _
    rw [joinW_cons, joinW_one]
theorem b_arc (a : Int) (ra : 0 ≤ a ∧ a ≤ 9223372036854775807) (hg : refgood (mI (m0 8) a) = true) : finR (ofR (wordsL (sp [97, 114, 99] (itoa a)))) = some (mI (m0 8) a) ∧ ∃ x ∈ formsL, x.2.1 = (mI (m0 8) a).1 ∧ lineX x (mI (m0 8) a) = (sp [97, 114, 99] (itoa a)) := by
  refine ⟨?_, ([97, 114, 99], 8, 0, [105]), by decide, rfl, ?_⟩
  · rw [w_sp _ (by unfold noB; decide), w_one (nb_itoa a)]
    show finR (mI (m0 8) (numR (itoa a)), decide (0 ≤ numR (itoa a))) = some (mI (m0 8) a)
    rw [num_back ra.1 ra.2]
    exact finG _ hg (by rw [decide_eq_true ra.1] <;> rfl)
  · show joinW [[97, 114, 99], (itoa a)] = _
    rw [joinW_cons, joinW_one]
theorem b_out1 (a : Int) (ra : 0 ≤ a ∧ a ≤ 9223372036854775807) (hg : refgood (mI (m0 9) a) = true) : finR (ofR (wordsL (sp [111, 117, 116] (itoa a)))) = some (mI (m0 9) a) ∧ ∃ x ∈ formsL, x.2.1 = (mI (m0 9) a).1 ∧ lineX x (mI (m0 9) a) = (sp [111, 117, 116] (itoa a)) := by
  refine ⟨?_, ([111, 117, 116], 9, 0, [105, 101]), by decide, rfl, ?_⟩
  · rw [w_sp _ (by unfold noB; decide), w_one (nb_itoa a)]
    show finR (mI (m0 9) (numR (itoa a)), decide (0 ≤ numR (itoa a))) = some (mI (m0 9) a)
    rw [num_back ra.1 ra.2]
    exact finG _ hg (by rw [decide_eq_true ra.1] <;> rfl)
  · show joinW [[111, 117, 116], (itoa a)] = _
    rw [joinW_cons, joinW_one]
theorem b_out (a : Int) (b : List UInt8) (ra : 0 ≤ a ∧ a ≤ 9223372036854775807) (nb : nameS b = true) (hg : refgood (mT (mI (m0 9) a) b) = true) : finR (ofR (wordsL (sp [111, 117, 116] (sp (itoa a) b)))) = some (mT (mI (m0 9) a) b) ∧ ∃ x ∈ formsL, x.2.1 = (mT (mI (m0 9) a) b).1 ∧ lineX x (mT (mI (m0 9) a) b) = (sp [111, 117, 116] (sp (itoa a) b)) := by
  refine ⟨?_, ([111, 117, 116], 9, 0, [105, 101]), by decide, rfl, ?_⟩
  · rw [w_sp _ (by unfold noB; decide), w_sp _ (nb_itoa a), w_one (nb_name nb)]
    show finR (mT (mI (m0 9) (numR (itoa a))) b, decide (0 ≤ numR (itoa a)) && !decide (b = [])) = some (mT (mI (m0 9) a) b)
    rw [num_back ra.1 ra.2]
    exact finG _ hg (by rw [decide_eq_true ra.1, show (!decide (b = [])) = true by cases b with | nil => cases nb | cons _ _ => rfl] <;> rfl)
  · have hb : ¬ ((101 : UInt8) = 101 ∧ b = []) := by rintro ⟨_, rfl⟩; cases nb
    show joinW ([111, 117, 116] :: itoa a :: (if (101 : UInt8) = 101 ∧ b = [] then [] else [b])) = _
    rw [if_neg hb]
    rw [joinW_cons, joinW_cons, joinW_one]
theorem b_in1 (a : Int) (ra : 0 ≤ a ∧ a ≤ 9223372036854775807) (hg : refgood (mI (m0 10) a) = true) : finR (ofR (wordsL (sp [105, 110] (itoa a)))) = some (mI (m0 10) a) ∧ ∃ x ∈ formsL, x.2.1 = (mI (m0 10) a).1 ∧ lineX x (mI (m0 10) a) = (sp [105, 110] (itoa a)) := by
  refine ⟨?_, ([105, 110], 10, 0, [105, 101]), by decide, rfl, ?_⟩
  · rw [w_sp _ (by unfold noB; decide), w_one (nb_itoa a)]
    show finR (mI (m0 10) (numR (itoa a)), decide (0 ≤ numR (itoa a))) = some (mI (m0 10) a)
    rw [num_back ra.1 ra.2]
    exact finG _ hg (by rw [decide_eq_true ra.1] <;> rfl)
  · show joinW [[105, 110], (itoa a)] = _
    rw [joinW_cons, joinW_one]
theorem b_in (a : Int) (b : List UInt8) (ra : 0 ≤ a ∧ a ≤ 9223372036854775807) (nb : nameS b = true) (hg : refgood (mT (mI (m0 10) a) b) = true) : finR (ofR (wordsL (sp [105, 110] (sp (itoa a) b)))) = some (mT (mI (m0 10) a) b) ∧ ∃ x ∈ formsL, x.2.1 = (mT (mI (m0 10) a) b).1 ∧ lineX x (mT (mI (m0 10) a) b) = (sp [105, 110] (sp (itoa a) b)) := by
  refine ⟨?_, ([105, 110], 10, 0, [105, 101]), by decide, rfl, ?_⟩
  · rw [w_sp _ (by unfold noB; decide), w_sp _ (nb_itoa a), w_one (nb_name nb)]
    show finR (mT (mI (m0 10) (numR (itoa a))) b, decide (0 ≤ numR (itoa a)) && !decide (b = [])) = some (mT (mI (m0 10) a) b)
    rw [num_back ra.1 ra.2]
    exact finG _ hg (by rw [decide_eq_true ra.1, show (!decide (b = [])) = true by cases b with | nil => cases nb | cons _ _ => rfl] <;> rfl)
  · have hb : ¬ ((101 : UInt8) = 101 ∧ b = []) := by rintro ⟨_, rfl⟩; cases nb
    show joinW ([105, 110] :: itoa a :: (if (101 : UInt8) = 101 ∧ b = [] then [] else [b])) = _
    rw [if_neg hb]
    rw [joinW_cons, joinW_cons, joinW_one]
theorem b_scan (a : List UInt8) (na : nameS a = true) (hg : refgood (mT (m0 11) a) = true) : finR (ofR (wordsL (sp [115, 99, 97, 110] a))) = some (mT (m0 11) a) ∧ ∃ x ∈ formsL, x.2.1 = (mT (m0 11) a).1 ∧ lineX x (mT (m0 11) a) = (sp [115, 99, 97, 110] a) := by
  refine ⟨?_, ([115, 99, 97, 110], 11, 0, [116]), by decide, rfl, ?_⟩
  · rw [w_sp _ (by unfold noB; decide), w_one (nb_name na)]
    show finR (mT (m0 11) a, true) = some (mT (m0 11) a)
    exact finG _ hg rfl
  · show joinW [[115, 99, 97, 110], a] = _
    rw [joinW_cons, joinW_one]
theorem b_find (a : List UInt8) (b : List UInt8) (c : VD.T) (vc : okVal c = true) (uc : Wf VD c) (na : nameS a = true) (nb : nameS b = true) (hg : refgood (mVl (mNm (mT (m0 12) a) b) c) = true) : finR (ofR (wordsL (sp [102, 105, 110, 100] (sp a (sp b (wordV c)))))) = some (mVl (mNm (mT (m0 12) a) b) c) ∧ ∃ x ∈ formsL, x.2.1 = (mVl (mNm (mT (m0 12) a) b) c).1 ∧ lineX x (mVl (mNm (mT (m0 12) a) b) c) = (sp [102, 105, 110, 100] (sp a (sp b (wordV c)))) := by
  refine ⟨?_, ([102, 105, 110, 100], 12, 0, [116, 110, 118]), by decide, rfl, ?_⟩
  · rw [w_sp _ (by unfold noB; decide), w_sp _ (nb_name na), w_sp _ (nb_name nb), w_one (nb_word c)]
    show finR (mVl (mNm (mT (m0 12) a) b) (valR (wordV c)).1, (valR (wordV c)).2) = some (mVl (mNm (mT (m0 12) a) b) c)
    rw [val_back vc uc]
    exact finG _ hg (by rfl)
  · show joinW [[102, 105, 110, 100], a, b, (wordV c)] = _
    rw [joinW_cons, joinW_cons, joinW_cons, joinW_one]
theorem b_range (a : List UInt8) (b : List UInt8) (c : VD.T) (d : VD.T) (vc : okVal c = true) (uc : Wf VD c) (vd : okVal d = true) (ud : Wf VD d) (na : nameS a = true) (nb : nameS b = true) (hg : refgood (mW (mVl (mNm (mT (m0 13) a) b) c) d) = true) : finR (ofR (wordsL (sp [114, 97, 110, 103, 101] (sp a (sp b (sp (wordV c) (wordV d))))))) = some (mW (mVl (mNm (mT (m0 13) a) b) c) d) ∧ ∃ x ∈ formsL, x.2.1 = (mW (mVl (mNm (mT (m0 13) a) b) c) d).1 ∧ lineX x (mW (mVl (mNm (mT (m0 13) a) b) c) d) = (sp [114, 97, 110, 103, 101] (sp a (sp b (sp (wordV c) (wordV d))))) := by
  refine ⟨?_, ([114, 97, 110, 103, 101], 13, 0, [116, 110, 118, 119]), by decide, rfl, ?_⟩
  · rw [w_sp _ (by unfold noB; decide), w_sp _ (nb_name na), w_sp _ (nb_name nb), w_sp _ (nb_word c), w_one (nb_word d)]
    show finR (mW (mVl (mNm (mT (m0 13) a) b) (valR (wordV c)).1) (valR (wordV d)).1, (valR (wordV c)).2 && (valR (wordV d)).2) = some (mW (mVl (mNm (mT (m0 13) a) b) c) d)
    rw [val_back vc uc, val_back vd ud]
    exact finG _ hg (by rfl)
  · show joinW [[114, 97, 110, 103, 101], a, b, (wordV c), (wordV d)] = _
    rw [joinW_cons, joinW_cons, joinW_cons, joinW_cons, joinW_one]
theorem b_type (a : List UInt8) (b : Int) (rb : 0 ≤ b ∧ b ≤ 9223372036854775807) (na : nameS a = true) (hg : refgood (mM (mT (m0 14) a) b) = true) : finR (ofR (wordsL (sp [116, 121, 112, 101] (sp a (itoa b))))) = some (mM (mT (m0 14) a) b) ∧ ∃ x ∈ formsL, x.2.1 = (mM (mT (m0 14) a) b).1 ∧ lineX x (mM (mT (m0 14) a) b) = (sp [116, 121, 112, 101] (sp a (itoa b))) := by
  refine ⟨?_, ([116, 121, 112, 101], 14, 0, [116, 107]), by decide, rfl, ?_⟩
  · rw [w_sp _ (by unfold noB; decide), w_sp _ (nb_name na), w_one (nb_itoa b)]
    show finR (mM (mT (m0 14) a) (numR (itoa b)), decide (0 ≤ numR (itoa b))) = some (mM (mT (m0 14) a) b)
    rw [num_back rb.1 rb.2]
    exact finG _ hg (by rw [decide_eq_true rb.1] <;> rfl)
  · show joinW [[116, 121, 112, 101], a, (itoa b)] = _
    rw [joinW_cons, joinW_cons, joinW_one]
theorem b_notype (a : List UInt8) (b : Int) (rb : 0 ≤ b ∧ b ≤ 9223372036854775807) (na : nameS a = true) (hg : refgood (mM (mT (m0 15) a) b) = true) : finR (ofR (wordsL (sp [110, 111, 116, 121, 112, 101] (sp a (itoa b))))) = some (mM (mT (m0 15) a) b) ∧ ∃ x ∈ formsL, x.2.1 = (mM (mT (m0 15) a) b).1 ∧ lineX x (mM (mT (m0 15) a) b) = (sp [110, 111, 116, 121, 112, 101] (sp a (itoa b))) := by
  refine ⟨?_, ([110, 111, 116, 121, 112, 101], 15, 0, [116, 107]), by decide, rfl, ?_⟩
  · rw [w_sp _ (by unfold noB; decide), w_sp _ (nb_name na), w_one (nb_itoa b)]
    show finR (mM (mT (m0 15) a) (numR (itoa b)), decide (0 ≤ numR (itoa b))) = some (mM (mT (m0 15) a) b)
    rw [num_back rb.1 rb.2]
    exact finG _ hg (by rw [decide_eq_true rb.1] <;> rfl)
  · show joinW [[110, 111, 116, 121, 112, 101], a, (itoa b)] = _
    rw [joinW_cons, joinW_cons, joinW_one]
theorem b_unique (a : List UInt8) (b : List UInt8) (na : nameS a = true) (nb : nameS b = true) (hg : refgood (ruM (rN (rT (rule0 1) a) b)) = true) : finR (ofR (wordsL (sp [117, 110, 105, 113, 117, 101] (sp a b)))) = some (ruM (rN (rT (rule0 1) a) b)) ∧ ∃ x ∈ formsL, x.2.1 = (ruM (rN (rT (rule0 1) a) b)).1 ∧ lineX x (ruM (rN (rT (rule0 1) a) b)) = (sp [117, 110, 105, 113, 117, 101] (sp a b)) := by
  refine ⟨?_, ([117, 110, 105, 113, 117, 101], 16, 1, [116, 110]), by decide, rfl, ?_⟩
  · rw [w_sp _ (by unfold noB; decide), w_sp _ (nb_name na), w_one (nb_name nb)]
    show finR (ruM (rN (rT (rule0 1) a) b), true) = some (ruM (rN (rT (rule0 1) a) b))
    exact finG _ hg rfl
  · show joinW [[117, 110, 105, 113, 117, 101], a, b] = _
    rw [joinW_cons, joinW_cons, joinW_one]
theorem b_exists (a : List UInt8) (b : List UInt8) (na : nameS a = true) (nb : nameS b = true) (hg : refgood (ruM (rN (rT (rule0 2) a) b)) = true) : finR (ofR (wordsL (sp [101, 120, 105, 115, 116, 115] (sp a b)))) = some (ruM (rN (rT (rule0 2) a) b)) ∧ ∃ x ∈ formsL, x.2.1 = (ruM (rN (rT (rule0 2) a) b)).1 ∧ lineX x (ruM (rN (rT (rule0 2) a) b)) = (sp [101, 120, 105, 115, 116, 115] (sp a b)) := by
  refine ⟨?_, ([101, 120, 105, 115, 116, 115], 16, 2, [116, 110]), by decide, rfl, ?_⟩
  · rw [w_sp _ (by unfold noB; decide), w_sp _ (nb_name na), w_one (nb_name nb)]
    show finR (ruM (rN (rT (rule0 2) a) b), true) = some (ruM (rN (rT (rule0 2) a) b))
    exact finG _ hg rfl
  · show joinW [[101, 120, 105, 115, 116, 115], a, b] = _
    rw [joinW_cons, joinW_cons, joinW_one]
theorem b_ends (a : List UInt8) (b : List UInt8) (c : List UInt8) (na : nameS a = true) (nb : nameS b = true) (nc : nameS c = true) (hg : refgood (ruM (rG (rF (rT (rule0 3) a) b) c)) = true) : finR (ofR (wordsL (sp [101, 110, 100, 115] (sp a (sp b c))))) = some (ruM (rG (rF (rT (rule0 3) a) b) c)) ∧ ∃ x ∈ formsL, x.2.1 = (ruM (rG (rF (rT (rule0 3) a) b) c)).1 ∧ lineX x (ruM (rG (rF (rT (rule0 3) a) b) c)) = (sp [101, 110, 100, 115] (sp a (sp b c))) := by
  refine ⟨?_, ([101, 110, 100, 115], 16, 3, [116, 102, 103]), by decide, rfl, ?_⟩
  · rw [w_sp _ (by unfold noB; decide), w_sp _ (nb_name na), w_sp _ (nb_name nb), w_one (nb_name nc)]
    show finR (ruM (rG (rF (rT (rule0 3) a) b) c), true) = some (ruM (rG (rF (rT (rule0 3) a) b) c))
    exact finG _ hg rfl
  · show joinW [[101, 110, 100, 115], a, b, c] = _
    rw [joinW_cons, joinW_cons, joinW_cons, joinW_one]
theorem b_most (a : List UInt8) (b : Int) (rb : 0 ≤ b ∧ b ≤ 9223372036854775807) (na : nameS a = true) (hg : refgood (ruM (rM (rT (rule0 4) a) b)) = true) : finR (ofR (wordsL (sp [109, 111, 115, 116] (sp a (itoa b))))) = some (ruM (rM (rT (rule0 4) a) b)) ∧ ∃ x ∈ formsL, x.2.1 = (ruM (rM (rT (rule0 4) a) b)).1 ∧ lineX x (ruM (rM (rT (rule0 4) a) b)) = (sp [109, 111, 115, 116] (sp a (itoa b))) := by
  refine ⟨?_, ([109, 111, 115, 116], 16, 4, [116, 107]), by decide, rfl, ?_⟩
  · rw [w_sp _ (by unfold noB; decide), w_sp _ (nb_name na), w_one (nb_itoa b)]
    show finR (ruM (rM (rT (rule0 4) a) (numR (itoa b))), decide (0 ≤ numR (itoa b))) = some (ruM (rM (rT (rule0 4) a) b))
    rw [num_back rb.1 rb.2]
    exact finG _ hg (by rw [decide_eq_true rb.1] <;> rfl)
  · show joinW [[109, 111, 115, 116], a, (itoa b)] = _
    rw [joinW_cons, joinW_cons, joinW_one]
theorem b_norule (a : Int) (ra : 0 ≤ a ∧ a ≤ 9223372036854775807) (hg : refgood (mM (m0 17) a) = true) : finR (ofR (wordsL (sp [110, 111, 114, 117, 108, 101] (itoa a)))) = some (mM (m0 17) a) ∧ ∃ x ∈ formsL, x.2.1 = (mM (m0 17) a).1 ∧ lineX x (mM (m0 17) a) = (sp [110, 111, 114, 117, 108, 101] (itoa a)) := by
  refine ⟨?_, ([110, 111, 114, 117, 108, 101], 17, 0, [107]), by decide, rfl, ?_⟩
  · rw [w_sp _ (by unfold noB; decide), w_one (nb_itoa a)]
    show finR (mM (m0 17) (numR (itoa a)), decide (0 ≤ numR (itoa a))) = some (mM (m0 17) a)
    rw [num_back ra.1 ra.2]
    exact finG _ hg (by rw [decide_eq_true ra.1] <;> rfl)
  · show joinW [[110, 111, 114, 117, 108, 101], (itoa a)] = _
    rw [joinW_cons, joinW_one]
theorem b_index (a : List UInt8) (b : List UInt8) (na : nameS a = true) (nb : nameS b = true) (hg : refgood (mNm (mT (m0 18) a) b) = true) : finR (ofR (wordsL (sp [105, 110, 100, 101, 120] (sp a b)))) = some (mNm (mT (m0 18) a) b) ∧ ∃ x ∈ formsL, x.2.1 = (mNm (mT (m0 18) a) b).1 ∧ lineX x (mNm (mT (m0 18) a) b) = (sp [105, 110, 100, 101, 120] (sp a b)) := by
  refine ⟨?_, ([105, 110, 100, 101, 120], 18, 0, [116, 110]), by decide, rfl, ?_⟩
  · rw [w_sp _ (by unfold noB; decide), w_sp _ (nb_name na), w_one (nb_name nb)]
    show finR (mNm (mT (m0 18) a) b, true) = some (mNm (mT (m0 18) a) b)
    exact finG _ hg rfl
  · show joinW [[105, 110, 100, 101, 120], a, b] = _
    rw [joinW_cons, joinW_cons, joinW_one]
theorem b_noindex (a : List UInt8) (b : List UInt8) (na : nameS a = true) (nb : nameS b = true) (hg : refgood (mNm (mT (m0 19) a) b) = true) : finR (ofR (wordsL (sp [110, 111, 105, 110, 100, 101, 120] (sp a b)))) = some (mNm (mT (m0 19) a) b) ∧ ∃ x ∈ formsL, x.2.1 = (mNm (mT (m0 19) a) b).1 ∧ lineX x (mNm (mT (m0 19) a) b) = (sp [110, 111, 105, 110, 100, 101, 120] (sp a b)) := by
  refine ⟨?_, ([110, 111, 105, 110, 100, 101, 120], 19, 0, [116, 110]), by decide, rfl, ?_⟩
  · rw [w_sp _ (by unfold noB; decide), w_sp _ (nb_name na), w_one (nb_name nb)]
    show finR (mNm (mT (m0 19) a) b, true) = some (mNm (mT (m0 19) a) b)
    exact finG _ hg rfl
  · show joinW [[110, 111, 105, 110, 100, 101, 120], a, b] = _
    rw [joinW_cons, joinW_cons, joinW_one]
theorem good_cmN {m : MD.T} (h : refgood m = true) : (cmN m).2 = true ∧ (cmN m).1 = m := by
  unfold refgood at h
  rw [Bool.and_eq_true] at h
  exact ⟨h.1, (D.eqb_iff MD _ _).1 h.2⟩
theorem good_opN {o : OD.T} (h : goodO o = true) : (opN o).2 = true ∧ (opN o).1 = o := by
  unfold goodO at h
  rw [Bool.and_eq_true] at h
  exact ⟨h.1, (D.eqb_iff OD _ _).1 h.2⟩
theorem val_ok {v : VD.T} (h : goodV v = true) : okVal v = true := by unfold okVal; rw [h]; rfl
/-- a good command's line: it is read as the command, and a form writes it -/
theorem good_line {m : MD.T} (hm : SmC m) (h : refgood m = true) : finR (ofR (wordsL (textR m))) = some m ∧ ∃ x ∈ formsL, x.2.1 = m.1 ∧ lineX x m = textR m := by
  obtain ⟨g1, g2⟩ := good_cmN h
  obtain ⟨k, i, t, n, v, w, N, o, r⟩ := m
  by_cases k1 : k = 1
  · subst k1
    have g2 : ((1, 0, [], [], (0, 0, []), (0, 0, []), 0, OD.df, RD.df) : MD.T) = (1, i, t, n, v, w, N, o, r) := g2
    cases g2
    exact b_begin h
  by_cases k2 : k = 2
  · subst k2
    have g2 : ((2, 0, [], [], (0, 0, []), (0, 0, []), 0, OD.df, RD.df) : MD.T) = (2, i, t, n, v, w, N, o, r) := g2
    cases g2
    exact b_commit h
  by_cases k3 : k = 3
  · subst k3
    have g2 : ((3, 0, [], [], (0, 0, []), (0, 0, []), 0, OD.df, RD.df) : MD.T) = (3, i, t, n, v, w, N, o, r) := g2
    cases g2
    exact b_abort h
  by_cases k20 : k = 20
  · subst k20
    have g2 : ((20, 0, [], [], (0, 0, []), (0, 0, []), 0, OD.df, RD.df) : MD.T) = (20, i, t, n, v, w, N, o, r) := g2
    cases g2
    exact b_catalog h
  by_cases k4 : k = 4
  · subst k4
    have g2 : ((4, 0, [], n, (0, 0, []), (0, 0, []), 0, OD.df, RD.df) : MD.T) = (4, i, t, n, v, w, N, o, r) := g2
    cases g2
    exact b_save n g1 h
  by_cases k5 : k = 5
  · subst k5
    have g2 : ((5, 0, [], n, (0, 0, []), (0, 0, []), 0, OD.df, RD.df) : MD.T) = (5, i, t, n, v, w, N, o, r) := g2
    cases g2
    exact b_back n g1 h
  by_cases k7 : k = 7
  · subst k7
    have g2 : ((7, i, [], [], (0, 0, []), (0, 0, []), 0, OD.df, RD.df) : MD.T) = (7, i, t, n, v, w, N, o, r) := g2
    cases g2
    exact b_get i (id_rg g1) h
  by_cases k8 : k = 8
  · subst k8
    have g2 : ((8, i, [], [], (0, 0, []), (0, 0, []), 0, OD.df, RD.df) : MD.T) = (8, i, t, n, v, w, N, o, r) := g2
    cases g2
    exact b_arc i (id_rg g1) h
  by_cases k9 : k = 9
  · subst k9
    have g2 : ((9, i, t, [], (0, 0, []), (0, 0, []), 0, OD.df, RD.df) : MD.T) = (9, i, t, n, v, w, N, o, r) := g2
    cases g2
    have g1 : (okId i && (decide (t = []) || nameS t)) = true := g1
    rw [Bool.and_eq_true, Bool.or_eq_true] at g1
    cases t with
    | nil => exact b_out1 i (id_rg g1.1) h
    | cons c t =>
      have hn : nameS (c :: t) = true := by
        rcases g1.2 with g | g
        · cases g
        · exact g
      exact b_out i (c :: t) (id_rg g1.1) hn h
  by_cases k10 : k = 10
  · subst k10
    have g2 : ((10, i, t, [], (0, 0, []), (0, 0, []), 0, OD.df, RD.df) : MD.T) = (10, i, t, n, v, w, N, o, r) := g2
    cases g2
    have g1 : (okId i && (decide (t = []) || nameS t)) = true := g1
    rw [Bool.and_eq_true, Bool.or_eq_true] at g1
    cases t with
    | nil => exact b_in1 i (id_rg g1.1) h
    | cons c t =>
      have hn : nameS (c :: t) = true := by
        rcases g1.2 with g | g
        · cases g
        · exact g
      exact b_in i (c :: t) (id_rg g1.1) hn h
  by_cases k11 : k = 11
  · subst k11
    have g2 : ((11, 0, t, [], (0, 0, []), (0, 0, []), 0, OD.df, RD.df) : MD.T) = (11, i, t, n, v, w, N, o, r) := g2
    cases g2
    exact b_scan t g1 h
  by_cases k12 : k = 12
  · subst k12
    have g2 : ((12, 0, t, n, v, (0, 0, []), 0, OD.df, RD.df) : MD.T) = (12, i, t, n, v, w, N, o, r) := g2
    cases g2
    have g1 : (nameS t && nameS n && goodV v) = true := g1
    rw [Bool.and_eq_true, Bool.and_eq_true] at g1
    exact b_find t n v (val_ok g1.2) hm.v g1.1.1 g1.1.2 h
  by_cases k13 : k = 13
  · subst k13
    have g2 : ((13, 0, t, n, v, w, 0, OD.df, RD.df) : MD.T) = (13, i, t, n, v, w, N, o, r) := g2
    cases g2
    have g1 : (nameS t && nameS n && okVal v && okVal w) = true := g1
    rw [Bool.and_eq_true, Bool.and_eq_true, Bool.and_eq_true] at g1
    exact b_range t n v w g1.1.2 hm.v g1.2 hm.to g1.1.1.1 g1.1.1.2 h
  by_cases k14 : k = 14
  · subst k14
    have g2 : ((14, 0, t, [], (0, 0, []), (0, 0, []), N, OD.df, RD.df) : MD.T) = (14, i, t, n, v, w, N, o, r) := g2
    cases g2
    have g1 : (nameS t && (decide (N = 1) || decide (N = 2))) = true := g1
    rw [Bool.and_eq_true, Bool.or_eq_true, decide_eq_true_eq, decide_eq_true_eq] at g1
    exact b_type t N (rg_two g1.2) g1.1 h
  by_cases k15 : k = 15
  · subst k15
    have g2 : ((15, 0, t, [], (0, 0, []), (0, 0, []), N, OD.df, RD.df) : MD.T) = (15, i, t, n, v, w, N, o, r) := g2
    cases g2
    have g1 : (nameS t && (decide (N = 1) || decide (N = 2))) = true := g1
    rw [Bool.and_eq_true, Bool.or_eq_true, decide_eq_true_eq, decide_eq_true_eq] at g1
    exact b_notype t N (rg_two g1.2) g1.1 h
  by_cases k17 : k = 17
  · subst k17
    have g2 : ((17, 0, [], [], (0, 0, []), (0, 0, []), N, OD.df, RD.df) : MD.T) = (17, i, t, n, v, w, N, o, r) := g2
    cases g2
    have g1 : (decide (0 ≤ N) && decide (N ≤ 1000000)) = true := g1
    rw [Bool.and_eq_true, decide_eq_true_eq, decide_eq_true_eq] at g1
    exact b_norule N (rg_le (by decide) g1.1 g1.2) h
  by_cases k18 : k = 18
  · subst k18
    have g2 : ((18, 0, t, n, (0, 0, []), (0, 0, []), 0, OD.df, RD.df) : MD.T) = (18, i, t, n, v, w, N, o, r) := g2
    cases g2
    have g1 : (nameS t && nameS n) = true := g1
    rw [Bool.and_eq_true] at g1
    exact b_index t n g1.1 g1.2 h
  by_cases k19 : k = 19
  · subst k19
    have g2 : ((19, 0, t, n, (0, 0, []), (0, 0, []), 0, OD.df, RD.df) : MD.T) = (19, i, t, n, v, w, N, o, r) := g2
    cases g2
    have g1 : (nameS t && nameS n) = true := g1
    rw [Bool.and_eq_true] at g1
    exact b_noindex t n g1.1 g1.2 h
  by_cases k6 : k = 6
  · subst k6
    have e := g2
    have g1 : goodO o = true := g1
    obtain ⟨p1, p2⟩ := good_opN g1
    have hov : Wf VD (oV o) := hm.ov
    clear hm
    have g2 : ((6, 0, [], [], (0, 0, []), (0, 0, []), 0, o, RD.df) : MD.T) = (6, i, t, n, v, w, N, o, r) := g2
    cases g2
    obtain ⟨q, oi, ot, ofr, oe, on, ov, oc⟩ := o
    by_cases q1 : q = 1
    · subst q1
      have p2 : ((1, 0, ot, 0, 0, [], (0, 0, []), false) : OD.T) = (1, oi, ot, ofr, oe, on, ov, oc) := p2
      cases p2
      exact b_node ot p1 h
    by_cases q2 : q = 2
    · subst q2
      have p2 : ((2, oi, [], 0, 0, [], (0, 0, []), oc) : OD.T) = (2, oi, ot, ofr, oe, on, ov, oc) := p2
      cases p2
      cases oc with
      | false => exact b_drop oi (id_rg p1) h
      | true => exact b_cascade oi (id_rg p1) h
    by_cases q3 : q = 3
    · subst q3
      have p2 : ((3, 0, ot, ofr, oe, [], (0, 0, []), false) : OD.T) = (3, oi, ot, ofr, oe, on, ov, oc) := p2
      cases p2
      have p1 : (nameS ot && okId ofr && okId oe) = true := p1
      rw [Bool.and_eq_true, Bool.and_eq_true] at p1
      exact b_edge ot ofr oe (id_rg p1.1.2) (id_rg p1.2) p1.1.1 h
    by_cases q4 : q = 4
    · subst q4
      have p2 : ((4, oi, [], 0, 0, [], (0, 0, []), false) : OD.T) = (4, oi, ot, ofr, oe, on, ov, oc) := p2
      cases p2
      exact b_cut oi (id_rg p1) h
    by_cases q5 : q = 5
    · subst q5
      have p2 : ((5, oi, [], 0, 0, on, ov, false) : OD.T) = (5, oi, ot, ofr, oe, on, ov, oc) := p2
      cases p2
      have p1 : (okId oi && nameS on && okVal ov) = true := p1
      rw [Bool.and_eq_true, Bool.and_eq_true] at p1
      exact b_set oi on ov (id_rg p1.1.1) p1.2 hov p1.1.2 h
    exfalso
    revert p1
    unfold opN
    rw [if_neg q1, if_neg q2, if_neg q3, if_neg q4, if_neg q5]
    exact fun h => by cases h
  by_cases k16 : k = 16
  · subst k16
    have g2 : ((16, 0, [], [], (0, 0, []), (0, 0, []), 0, OD.df, r) : MD.T) = (16, i, t, n, v, w, N, o, r) := g2
    cases g2
    have g1 : (formS r && decide (r.1 = 0) && decide (r.2.2.2.2.2.2.2 = 0)) = true := g1
    obtain ⟨ri, q, rt, rn, rf, rg, rk, rs⟩ := r
    rw [Bool.and_eq_true, Bool.and_eq_true, decide_eq_true_eq, decide_eq_true_eq] at g1
    obtain ⟨⟨g1, e1⟩, e2⟩ := g1
    have e1 : ri = 0 := e1
    have e2 : rs = 0 := e2
    subst e1 e2
    unfold formS at g1
    rw [Bool.and_eq_true] at g1
    obtain ⟨gt, g1⟩ := g1
    by_cases q1 : q = 1
    · subst q1
      rw [if_pos (.inl rfl)] at g1
      simp only [Bool.and_eq_true, decide_eq_true_eq] at g1
      obtain ⟨⟨⟨gn, e1⟩, e2⟩, e3⟩ := g1
      subst e1 e2 e3
      exact b_unique rt rn gt gn h
    by_cases q2 : q = 2
    · subst q2
      rw [if_pos (.inr rfl)] at g1
      simp only [Bool.and_eq_true, decide_eq_true_eq] at g1
      obtain ⟨⟨⟨gn, e1⟩, e2⟩, e3⟩ := g1
      subst e1 e2 e3
      exact b_exists rt rn gt gn h
    by_cases q3 : q = 3
    · subst q3
      rw [if_neg (fun h => absurd h (by decide : ¬ ((3 : Int) = 1 ∨ (3 : Int) = 2))), if_pos rfl] at g1
      simp only [Bool.and_eq_true, decide_eq_true_eq] at g1
      obtain ⟨⟨⟨gf, gg⟩, e1⟩, e2⟩ := g1
      subst e1 e2
      exact b_ends rt rf rg gt gf gg h
    by_cases q4 : q = 4
    · subst q4
      rw [if_neg (fun h => absurd h (by decide : ¬ ((4 : Int) = 1 ∨ (4 : Int) = 2))), if_neg (fun h => absurd h (by decide : ¬ (4 : Int) = 3)), if_pos rfl] at g1
      simp only [Bool.and_eq_true, decide_eq_true_eq] at g1
      obtain ⟨⟨⟨⟨e1, e2⟩, e3⟩, e4⟩, e5⟩ := g1
      subst e1 e2 e3
      exact b_most rt rk (rg_le (by decide) e4 e5) gt h
    exfalso
    rw [if_neg (fun h => h.elim q1 q2), if_neg q3, if_neg q4] at g1
    cases g1
  exfalso
  revert g1
  unfold cmN
  rw [if_neg (by rintro (h | h | h | h) <;> contradiction), if_neg (by rintro (h | h) <;> contradiction), if_neg k6, if_neg (by rintro (h | h) <;> contradiction), if_neg (by rintro (h | h) <;> contradiction), if_neg k11, if_neg k12, if_neg k13, if_neg (by rintro (h | h) <;> contradiction), if_neg k16, if_neg k17, if_neg (by rintro (h | h) <;> contradiction)]
  exact fun h => by cases h
theorem l_one (w : List UInt8) {d : MD.T} (h : finR (ofR [w]) = some d) : textR d = joinW [w] := by
  have h : finR (if w = [98, 101, 103, 105, 110] then (m0 1, true) else (if w = [99, 111, 109, 109, 105, 116] then (m0 2, true) else (if w = [97, 98, 111, 114, 116] then (m0 3, true) else (if w = [99, 97, 116, 97, 108, 111, 103] then (m0 20, true) else (MD.df, false))))) = some d := h
  by_cases e_begin : w = [98, 101, 103, 105, 110]
  · rw [if_pos e_begin] at h
    obtain ⟨h1, rfl, h3⟩ := fin_some h
    subst e_begin
    show [98, 101, 103, 105, 110] = _
    rw [joinW_one]
  rw [if_neg e_begin] at h
  by_cases e_commit : w = [99, 111, 109, 109, 105, 116]
  · rw [if_pos e_commit] at h
    obtain ⟨h1, rfl, h3⟩ := fin_some h
    subst e_commit
    show [99, 111, 109, 109, 105, 116] = _
    rw [joinW_one]
  rw [if_neg e_commit] at h
  by_cases e_abort : w = [97, 98, 111, 114, 116]
  · rw [if_pos e_abort] at h
    obtain ⟨h1, rfl, h3⟩ := fin_some h
    subst e_abort
    show [97, 98, 111, 114, 116] = _
    rw [joinW_one]
  rw [if_neg e_abort] at h
  by_cases e_catalog : w = [99, 97, 116, 97, 108, 111, 103]
  · rw [if_pos e_catalog] at h
    obtain ⟨h1, rfl, h3⟩ := fin_some h
    subst e_catalog
    show [99, 97, 116, 97, 108, 111, 103] = _
    rw [joinW_one]
  rw [if_neg e_catalog] at h
  cases h
theorem l_two (w : List UInt8) (a : List UInt8) {d : MD.T} (h : finR (twoS w a) = some d) : textR d = joinW [w, a] := by
  unfold twoS at h
  by_cases e_save : w = [115, 97, 118, 101]
  · rw [if_pos e_save] at h
    obtain ⟨h1, rfl, h3⟩ := fin_some h
    subst e_save
    show (sp [115, 97, 118, 101] a) = _
    rw [joinW_cons, joinW_one]
  rw [if_neg e_save] at h
  by_cases e_back : w = [98, 97, 99, 107]
  · rw [if_pos e_back] at h
    obtain ⟨h1, rfl, h3⟩ := fin_some h
    subst e_back
    show (sp [98, 97, 99, 107] a) = _
    rw [joinW_cons, joinW_one]
  rw [if_neg e_back] at h
  by_cases e_node : w = [110, 111, 100, 101]
  · rw [if_pos e_node] at h
    obtain ⟨h1, rfl, h3⟩ := fin_some h
    subst e_node
    show (sp [110, 111, 100, 101] a) = _
    rw [joinW_cons, joinW_one]
  rw [if_neg e_node] at h
  by_cases e_drop : w = [100, 114, 111, 112]
  · rw [if_pos e_drop] at h
    obtain ⟨h1, rfl, h3⟩ := fin_some h
    subst e_drop
    show (sp [100, 114, 111, 112] (itoa (numR a))) = _
    rw [num_text h1, joinW_cons, joinW_one]
  rw [if_neg e_drop] at h
  by_cases e_cascade : w = [99, 97, 115, 99, 97, 100, 101]
  · rw [if_pos e_cascade] at h
    obtain ⟨h1, rfl, h3⟩ := fin_some h
    subst e_cascade
    show (sp [99, 97, 115, 99, 97, 100, 101] (itoa (numR a))) = _
    rw [num_text h1, joinW_cons, joinW_one]
  rw [if_neg e_cascade] at h
  by_cases e_cut : w = [99, 117, 116]
  · rw [if_pos e_cut] at h
    obtain ⟨h1, rfl, h3⟩ := fin_some h
    subst e_cut
    show (sp [99, 117, 116] (itoa (numR a))) = _
    rw [num_text h1, joinW_cons, joinW_one]
  rw [if_neg e_cut] at h
  by_cases e_get : w = [103, 101, 116]
  · rw [if_pos e_get] at h
    obtain ⟨h1, rfl, h3⟩ := fin_some h
    subst e_get
    show (sp [103, 101, 116] (itoa (numR a))) = _
    rw [num_text h1, joinW_cons, joinW_one]
  rw [if_neg e_get] at h
  by_cases e_arc : w = [97, 114, 99]
  · rw [if_pos e_arc] at h
    obtain ⟨h1, rfl, h3⟩ := fin_some h
    subst e_arc
    show (sp [97, 114, 99] (itoa (numR a))) = _
    rw [num_text h1, joinW_cons, joinW_one]
  rw [if_neg e_arc] at h
  by_cases e_out : w = [111, 117, 116]
  · rw [if_pos e_out] at h
    obtain ⟨h1, rfl, h3⟩ := fin_some h
    subst e_out
    show (sp [111, 117, 116] (itoa (numR a))) = _
    rw [num_text h1, joinW_cons, joinW_one]
  rw [if_neg e_out] at h
  by_cases e_in : w = [105, 110]
  · rw [if_pos e_in] at h
    obtain ⟨h1, rfl, h3⟩ := fin_some h
    subst e_in
    show (sp [105, 110] (itoa (numR a))) = _
    rw [num_text h1, joinW_cons, joinW_one]
  rw [if_neg e_in] at h
  by_cases e_scan : w = [115, 99, 97, 110]
  · rw [if_pos e_scan] at h
    obtain ⟨h1, rfl, h3⟩ := fin_some h
    subst e_scan
    show (sp [115, 99, 97, 110] a) = _
    rw [joinW_cons, joinW_one]
  rw [if_neg e_scan] at h
  by_cases e_norule : w = [110, 111, 114, 117, 108, 101]
  · rw [if_pos e_norule] at h
    obtain ⟨h1, rfl, h3⟩ := fin_some h
    subst e_norule
    show (sp [110, 111, 114, 117, 108, 101] (itoa (numR a))) = _
    rw [num_text h1, joinW_cons, joinW_one]
  rw [if_neg e_norule] at h
  cases h
theorem l_three (w : List UInt8) (a : List UInt8) (b : List UInt8) {d : MD.T} (h : finR (threeS w a b) = some d) : textR d = joinW [w, a, b] := by
  unfold threeS at h
  by_cases e_out : w = [111, 117, 116]
  · rw [if_pos e_out] at h
    obtain ⟨h1, rfl, h3⟩ := fin_some h
    subst e_out
    rw [Bool.and_eq_true] at h1
    have hb : ¬ b = [] := fun e => by have := h1.2; rw [e] at this; cases this
    show (if b = [] then sp [111, 117, 116] (itoa (numR a)) else sp [111, 117, 116] (sp (itoa (numR a)) b)) = _
    rw [if_neg hb]
    rw [num_text h1.1, joinW_cons, joinW_cons, joinW_one]
  rw [if_neg e_out] at h
  by_cases e_in : w = [105, 110]
  · rw [if_pos e_in] at h
    obtain ⟨h1, rfl, h3⟩ := fin_some h
    subst e_in
    rw [Bool.and_eq_true] at h1
    have hb : ¬ b = [] := fun e => by have := h1.2; rw [e] at this; cases this
    show (if b = [] then sp [105, 110] (itoa (numR a)) else sp [105, 110] (sp (itoa (numR a)) b)) = _
    rw [if_neg hb]
    rw [num_text h1.1, joinW_cons, joinW_cons, joinW_one]
  rw [if_neg e_in] at h
  by_cases e_type : w = [116, 121, 112, 101]
  · rw [if_pos e_type] at h
    obtain ⟨h1, rfl, h3⟩ := fin_some h
    subst e_type
    show (sp [116, 121, 112, 101] (sp a (itoa (numR b)))) = _
    rw [num_text h1, joinW_cons, joinW_cons, joinW_one]
  rw [if_neg e_type] at h
  by_cases e_notype : w = [110, 111, 116, 121, 112, 101]
  · rw [if_pos e_notype] at h
    obtain ⟨h1, rfl, h3⟩ := fin_some h
    subst e_notype
    show (sp [110, 111, 116, 121, 112, 101] (sp a (itoa (numR b)))) = _
    rw [num_text h1, joinW_cons, joinW_cons, joinW_one]
  rw [if_neg e_notype] at h
  by_cases e_unique : w = [117, 110, 105, 113, 117, 101]
  · rw [if_pos e_unique] at h
    obtain ⟨h1, rfl, h3⟩ := fin_some h
    subst e_unique
    show (sp [117, 110, 105, 113, 117, 101] (sp a b)) = _
    rw [joinW_cons, joinW_cons, joinW_one]
  rw [if_neg e_unique] at h
  by_cases e_exists : w = [101, 120, 105, 115, 116, 115]
  · rw [if_pos e_exists] at h
    obtain ⟨h1, rfl, h3⟩ := fin_some h
    subst e_exists
    show (sp [101, 120, 105, 115, 116, 115] (sp a b)) = _
    rw [joinW_cons, joinW_cons, joinW_one]
  rw [if_neg e_exists] at h
  by_cases e_most : w = [109, 111, 115, 116]
  · rw [if_pos e_most] at h
    obtain ⟨h1, rfl, h3⟩ := fin_some h
    subst e_most
    show (sp [109, 111, 115, 116] (sp a (itoa (numR b)))) = _
    rw [num_text h1, joinW_cons, joinW_cons, joinW_one]
  rw [if_neg e_most] at h
  by_cases e_index : w = [105, 110, 100, 101, 120]
  · rw [if_pos e_index] at h
    obtain ⟨h1, rfl, h3⟩ := fin_some h
    subst e_index
    show (sp [105, 110, 100, 101, 120] (sp a b)) = _
    rw [joinW_cons, joinW_cons, joinW_one]
  rw [if_neg e_index] at h
  by_cases e_noindex : w = [110, 111, 105, 110, 100, 101, 120]
  · rw [if_pos e_noindex] at h
    obtain ⟨h1, rfl, h3⟩ := fin_some h
    subst e_noindex
    show (sp [110, 111, 105, 110, 100, 101, 120] (sp a b)) = _
    rw [joinW_cons, joinW_cons, joinW_one]
  rw [if_neg e_noindex] at h
  cases h
theorem l_four (w : List UInt8) (a : List UInt8) (b : List UInt8) (c : List UInt8) {d : MD.T} (h : finR (fourS w a b c) = some d) : textR d = joinW [w, a, b, c] := by
  unfold fourS at h
  by_cases e_edge : w = [101, 100, 103, 101]
  · rw [if_pos e_edge] at h
    obtain ⟨h1, rfl, h3⟩ := fin_some h
    subst e_edge
    rw [Bool.and_eq_true] at h1
    show (sp [101, 100, 103, 101] (sp a (sp (itoa (numR b)) (itoa (numR c))))) = _
    rw [num_text h1.1, num_text h1.2, joinW_cons, joinW_cons, joinW_cons, joinW_one]
  rw [if_neg e_edge] at h
  by_cases e_set : w = [115, 101, 116]
  · rw [if_pos e_set] at h
    obtain ⟨h1, rfl, h3⟩ := fin_some h
    subst e_set
    rw [Bool.and_eq_true] at h1
    show (sp [115, 101, 116] (sp (itoa (numR a)) (sp b (wordV (valR c).1)))) = _
    rw [num_text h1.1, val_text h1.2, joinW_cons, joinW_cons, joinW_cons, joinW_one]
  rw [if_neg e_set] at h
  by_cases e_find : w = [102, 105, 110, 100]
  · rw [if_pos e_find] at h
    obtain ⟨h1, rfl, h3⟩ := fin_some h
    subst e_find
    show (sp [102, 105, 110, 100] (sp a (sp b (wordV (valR c).1)))) = _
    rw [val_text h1, joinW_cons, joinW_cons, joinW_cons, joinW_one]
  rw [if_neg e_find] at h
  by_cases e_ends : w = [101, 110, 100, 115]
  · rw [if_pos e_ends] at h
    obtain ⟨h1, rfl, h3⟩ := fin_some h
    subst e_ends
    show (sp [101, 110, 100, 115] (sp a (sp b c))) = _
    rw [joinW_cons, joinW_cons, joinW_cons, joinW_one]
  rw [if_neg e_ends] at h
  cases h
theorem l_five (w : List UInt8) (a : List UInt8) (b : List UInt8) (c : List UInt8) (d' : List UInt8) {d : MD.T} (h : finR (ofR [w, a, b, c, d']) = some d) : textR d = joinW [w, a, b, c, d'] := by
  have h : finR (if w = [114, 97, 110, 103, 101] then (mW (mVl (mNm (mT (m0 13) a) b) (valR c).1) (valR d').1, (valR c).2 && (valR d').2) else (MD.df, false)) = some d := h
  by_cases e_range : w = [114, 97, 110, 103, 101]
  · rw [if_pos e_range] at h
    obtain ⟨h1, rfl, h3⟩ := fin_some h
    subst e_range
    rw [Bool.and_eq_true] at h1
    show (sp [114, 97, 110, 103, 101] (sp a (sp b (sp (wordV (valR c).1) (wordV (valR d').1))))) = _
    rw [val_text h1.1, val_text h1.2, joinW_cons, joinW_cons, joinW_cons, joinW_cons, joinW_one]
  rw [if_neg e_range] at h
  cases h
/-- what is read is written as it stood -/
theorem text_of {ws : List (List UInt8)} {d : MD.T} (h : finR (ofR ws) = some d) : textR d = joinW ws := by
  match ws, h with
  | [], h => cases h
  | [w], h => exact l_one w h
  | [w, a], h => exact l_two w a h
  | [w, a, b], h => exact l_three w a b h
  | [w, a, b, c], h => exact l_four w a b c h
  | [w, a, b, c, d'], h => exact l_five w a b c d' h
  | _ :: _ :: _ :: _ :: _ :: _ :: _, h => cases h
theorem parse_text {line : List UInt8} {d : MD.T} (h : parseS line = some d) : textR d = line ∧ refgood d = true := by
  rw [parse_R] at h
  exact ⟨(text_of h).trans (join_words line), (fin_some h).2.2⟩
theorem same_iff {o : Option MD.T} {m : MD.T} : sameO o m = true ↔ o = some m := by
  unfold sameO
  cases o with
  | none => exact ⟨fun h => (by cases h), fun h => (by cases h)⟩
  | some d => exact ⟨fun h => congrArg some ((D.eqb_iff MD _ _).1 h), fun h => (D.eqb_iff MD _ _).2 (Option.some.inj h)⟩
theorem lF_some {m : MD.T} : ∀ {xs : List FD.T} {l : List UInt8}, lF xs m = some l → parseS l = some m
  | [], l, h => by cases h
  | x :: xs, l, h => by
    unfold lF at h
    split at h
    · split at h
      · rename_i g
        cases h
        exact same_iff.1 g
      · exact lF_some h
    · exact lF_some h
theorem lF_is {m : MD.T} : ∀ {xs : List FD.T} {x : FD.T}, x ∈ xs → x.2.1 = m.1 → parseS (lineX x m) = some m → lF xs m ≠ none
  | y :: ys, x, hx, h1, h2 => by
    unfold lF
    rcases List.mem_cons.1 hx with rfl | hx
    · rw [if_pos h1, if_pos (same_iff.2 h2)]; simp
    · have ih := lF_is hx h1 h2
      split
      · split
        · simp
        · exact ih
      · exact ih
/-- the program's line of a command is the reference's -/
theorem line_R {m : MD.T} (hm : SmC m) : lineS m = if refgood m = true then some (textR m) else none := by
  unfold lineS
  cases h : lF formsL m with
  | some l =>
    obtain ⟨h1, h2⟩ := parse_text (lF_some h)
    rw [if_pos h2, h1]
  | none =>
    split
    · rename_i g
      obtain ⟨h1, x, hx, h2, h3⟩ := good_line hm g
      exact absurd h (lF_is hx h2 (by rw [h3, parse_R, h1]))
    · rfl
/-- a line that was read is written as it was -/
theorem line_back {line : List UInt8} {d : MD.T} (hd : SmC d) (h : parseS line = some d) : lineS d = some line := by
  obtain ⟨h1, h2⟩ := parse_text h
  rw [line_R hd, if_pos h2, h1]
end Go.Proofs.YtdhfipjfgigamaaGreatDoor.Con
/- The walk of the law WireBack. Own work. -/
set_option linter.unusedVariables false
set_option maxRecDepth 100000
namespace Go.Proofs.YtdhfipjfgigamaaGreatDoor
open Go Go.RowKit OE

end Go.Proofs.YtdhfipjfgigamaaGreatDoor
/- What is small of a command that is not large, and of one that was read. Own work. -/
set_option linter.unusedVariables false
set_option maxRecDepth 100000
namespace Go.Proofs.YtdhfipjfgigamaaGreatDoor.Con
open Go Go.RowKit Go.Lib OE

structure ShM (m : MD.T) : Prop where
  w : Wf MD m
  ty : (mType m).length ≤ 20000
  nm : (mName m).length ≤ 20000
  v : (mV m).2.2.length ≤ 10000
  to : (mTo m).2.2.length ≤ 10000
  oty : (mOp m).2.2.1.length ≤ 20000
  onm : (mOp m).2.2.2.2.2.1.length ≤ 20000
  ov : (oV (mOp m)).2.2.length ≤ 10000
  rty : (mRule m).2.2.1.length ≤ 20000
  rnm : (mRule m).2.2.2.1.length ≤ 20000
  rfr : (mRule m).2.2.2.2.1.length ≤ 20000
  rto : (mRule m).2.2.2.2.2.1.length ≤ 20000
theorem ShM.wr {m : MD.T} (h : ShM m) : WrM m := ⟨h.w, Nat.le_trans h.v (by decide), Nat.le_trans h.to (by decide), Nat.le_trans h.ov (by decide)⟩
theorem ShM.sm {m : MD.T} (h : ShM m) : SmC m :=
  ⟨Nat.le_trans h.ty (by decide), Nat.le_trans h.nm (by decide), h.w.2.2.2.2.1, h.w.2.2.2.2.2.1, Nat.le_trans h.oty (by decide), Nat.le_trans h.onm (by decide), h.w.2.2.2.2.2.2.2.1.2.2.2.2.2.2.1⟩
theorem wordV_len2 {v : VD.T} (hv : Wf VD v) (hl : v.2.2.length ≤ 10000) : (wordV v).length ≤ 20001 := by
  unfold wordV
  split
  · decide
  · split
    · split <;> decide
    · split
      · have := itoa_len (wf_i64 hv.2.1).1 (wf_i64 hv.2.1).2; omega
      · rw [List.length_cons, hexS_len]; omega
theorem ite_len {c : Prop} [Decidable c] {a b : List UInt8} {B : Nat} (ha : a.length ≤ B) (hb : b.length ≤ B) : (if c then a else b).length ≤ B := by
  split <;> assumption
theorem writeM_len {m : MD.T} (h : ShM m) (f : Int) : (writeM m f).length ≤ 20001 := by
  have hw := h.w
  have ho := hw.2.2.2.2.2.2.2.1
  have hr := hw.2.2.2.2.2.2.2.2
  have it : ∀ {n : Int}, (Lit.int .i64 n).wf = true → (itoa n).length ≤ 20001 := fun g => by
    have := itoa_len (wf_i64 g).1 (wf_i64 g).2; omega
  have tx : ∀ {s : List UInt8}, s.length ≤ 20000 → s.length ≤ 20001 := fun g => by omega
  have hv : (writeV m f).length ≤ 20001 := by
    unfold writeV
    refine ite_len (ite_len (wordV_len2 ho.2.2.2.2.2.2.1 h.ov) (wordV_len2 hw.2.2.2.2.1 h.v)) ?_
    refine ite_len (wordV_len2 hw.2.2.2.2.2.1 h.to) ?_
    refine ite_len (ite_len (it ho.2.1) (it hw.2.1)) ?_
    refine ite_len (it ho.2.2.2.1) ?_
    refine ite_len (it ho.2.2.2.2.1) ?_
    exact ite_len (it hr.2.2.2.2.2.2.1) (it hw.2.2.2.2.2.2.1)
  unfold writeM
  refine ite_len ?_ (ite_len ?_ ?_)
  · exact ite_len (tx h.oty) (ite_len (tx h.onm) hv)
  · exact ite_len (tx h.rty) (ite_len (tx h.rnm) (ite_len (tx h.rfr) (ite_len (tx h.rto) hv)))
  · exact ite_len (tx h.ty) (ite_len (tx h.ty) (ite_len (tx h.nm) hv))
theorem outW_in {m : MD.T} (h : ShM m) : ∀ l : List UInt8, ∀ w ∈ outW m l, w.length ≤ 20001
  | [], w, hw => by cases hw
  | f :: l, w, hw => by
    unfold outW at hw
    split at hw
    · exact outW_in h l w hw
    · rcases List.mem_cons.1 hw with rfl | hw
      · exact writeM_len h _
      · exact outW_in h l w hw
theorem forms_nine : ∀ x ∈ formsL, x.1.length ≤ 9 := by decide
theorem lineX_len {m : MD.T} (h : ShM m) : ∀ x ∈ formsL, (lineX x m).length ≤ 100000 := by
  intro x hx
  have h1 := (forms_ok x hx).1
  have h2 := forms_nine x hx
  have h3 := outW_len m x.2.2.2
  have h4 := outW_in h x.2.2.2
  unfold lineX
  cases ho : outW m x.2.2.2 with
  | nil => rw [joinW_one]; omega
  | cons a r =>
    rw [joinW_cons]
    rw [ho] at h3 h4
    have h5 := join_len (a :: r) (B := 20001) h4
    have h6 : (a :: r).length * (20001 + 1) ≤ 4 * 20002 := Nat.mul_le_mul_right _ (by omega)
    show (x.1 ++ 32 :: join (a :: r) [32]).length ≤ 100000
    rw [List.length_append, List.length_cons]
    omega
/-! what was read -/
theorem wsT {m : MD.T} (h : Wf MD m) {t : List UInt8} (g : t.length ≤ 20000) : Wf MD (mT m t) := ⟨h.1, h.2.1, Nat.le_trans g (by decide), h.2.2.2⟩
theorem wsN {m : MD.T} (h : Wf MD m) {t : List UInt8} (g : t.length ≤ 20000) : Wf MD (mNm m t) := ⟨h.1, h.2.1, h.2.2.1, Nat.le_trans g (by decide), h.2.2.2.2⟩
theorem wsI {m : MD.T} (h : Wf MD m) {n : Int} (g : (Lit.int .i64 n).wf = true) : Wf MD (mI m n) := ⟨h.1, g, h.2.2⟩
theorem wsV {m : MD.T} (h : Wf MD m) {v : VD.T} (g : Wf VD v) : Wf MD (mVl m v) := ⟨h.1, h.2.1, h.2.2.1, h.2.2.2.1, g, h.2.2.2.2.2⟩
theorem wsW {m : MD.T} (h : Wf MD m) {v : VD.T} (g : Wf VD v) : Wf MD (mW m v) := ⟨h.1, h.2.1, h.2.2.1, h.2.2.2.1, h.2.2.2.2.1, g, h.2.2.2.2.2.2⟩
theorem wsM {m : MD.T} (h : Wf MD m) {n : Int} (g : (Lit.int .i64 n).wf = true) : Wf MD (mM m n) := ⟨h.1, h.2.1, h.2.2.1, h.2.2.2.1, h.2.2.2.2.1, h.2.2.2.2.2.1, g, h.2.2.2.2.2.2.2⟩
theorem wsO {m : MD.T} (h : Wf MD m) {o : OD.T} (g : Wf OD o) : Wf MD (sO m o) := ⟨h.1, h.2.1, h.2.2.1, h.2.2.2.1, h.2.2.2.2.1, h.2.2.2.2.2.1, h.2.2.2.2.2.2.1, g, h.2.2.2.2.2.2.2.2⟩
theorem wsR {m : MD.T} (h : Wf MD m) {r : RD.T} (g : Wf RD r) : Wf MD (mR m r) := ⟨h.1, h.2.1, h.2.2.1, h.2.2.2.1, h.2.2.2.2.1, h.2.2.2.2.2.1, h.2.2.2.2.2.2.1, h.2.2.2.2.2.2.2.1, g⟩
theorem woT {o : OD.T} (h : Wf OD o) {t : List UInt8} (g : t.length ≤ 20000) : Wf OD (oT o t) := ⟨h.1, h.2.1, Nat.le_trans g (by decide), h.2.2.2⟩
theorem woN {o : OD.T} (h : Wf OD o) {t : List UInt8} (g : t.length ≤ 20000) : Wf OD (oN o t) := ⟨h.1, h.2.1, h.2.2.1, h.2.2.2.1, h.2.2.2.2.1, Nat.le_trans g (by decide), h.2.2.2.2.2.2⟩
theorem woI {o : OD.T} (h : Wf OD o) {n : Int} (g : (Lit.int .i64 n).wf = true) : Wf OD (oI o n) := ⟨h.1, g, h.2.2⟩
theorem woF {o : OD.T} (h : Wf OD o) {n : Int} (g : (Lit.int .i64 n).wf = true) : Wf OD (oF o n) := ⟨h.1, h.2.1, h.2.2.1, g, h.2.2.2.2⟩
theorem woE {o : OD.T} (h : Wf OD o) {n : Int} (g : (Lit.int .i64 n).wf = true) : Wf OD (oE o n) := ⟨h.1, h.2.1, h.2.2.1, h.2.2.2.1, g, h.2.2.2.2.2⟩
theorem woV {o : OD.T} (h : Wf OD o) {v : VD.T} (g : Wf VD v) : Wf OD (oVl o v) := ⟨h.1, h.2.1, h.2.2.1, h.2.2.2.1, h.2.2.2.2.1, h.2.2.2.2.2.1, g, h.2.2.2.2.2.2.2⟩
theorem wrT {r : RD.T} (h : Wf RD r) {t : List UInt8} (g : t.length ≤ 20000) : Wf RD (rT r t) := ⟨h.1, h.2.1, Nat.le_trans g (by decide), h.2.2.2⟩
theorem wrN {r : RD.T} (h : Wf RD r) {t : List UInt8} (g : t.length ≤ 20000) : Wf RD (rN r t) := ⟨h.1, h.2.1, h.2.2.1, Nat.le_trans g (by decide), h.2.2.2.2⟩
theorem wrF {r : RD.T} (h : Wf RD r) {t : List UInt8} (g : t.length ≤ 20000) : Wf RD (rF r t) := ⟨h.1, h.2.1, h.2.2.1, h.2.2.2.1, Nat.le_trans g (by decide), h.2.2.2.2.2⟩
theorem wrG {r : RD.T} (h : Wf RD r) {t : List UInt8} (g : t.length ≤ 20000) : Wf RD (rG r t) := ⟨h.1, h.2.1, h.2.2.1, h.2.2.2.1, h.2.2.2.2.1, Nat.le_trans g (by decide), h.2.2.2.2.2.2⟩
theorem wrM {r : RD.T} (h : Wf RD r) {n : Int} (g : (Lit.int .i64 n).wf = true) : Wf RD (rM r n) := ⟨h.1, h.2.1, h.2.2.1, h.2.2.2.1, h.2.2.2.2.1, h.2.2.2.2.2.1, g, h.2.2.2.2.2.2.2⟩
theorem numP_wf (s : List UInt8) : (Lit.int .i64 (numP s).1).wf = true := by
  unfold numP
  split
  · split
    · exact lit64 (n := (valD s : Int)) (by omega) (by omega)
    · exact lit64 (by decide) (by decide)
  · exact lit64 (by decide) (by decide)
theorem valS_len {s : List UInt8} (hs : s.length ≤ 20000) : (valS s).1.2.2.length ≤ 10000 := by
  unfold valS
  repeat' split
  all_goals first
    | exact Nat.zero_le _
    | (show (unhex s.tail).length ≤ 10000; rw [unhex_len _ s.tail (Nat.le_refl _), List.length_tail]; omega)
def SQ (p : MD.T × Bool) : Prop := p.2 = true → ShM p.1
theorem ite_sh {c : Prop} [Decidable c] {a b : MD.T × Bool} (ha : SQ a) (hb : SQ b) : SQ (if c then a else b) := by
  split <;> assumption
theorem sh1 {m : MD.T} (h : ShM m) {s : List UInt8} (g : s.length ≤ 20000) : ShM (mT m s) := ⟨wsT h.w g, g, h.nm, h.v, h.to, h.oty, h.onm, h.ov, h.rty, h.rnm, h.rfr, h.rto⟩
theorem sh2 {m : MD.T} (h : ShM m) {s : List UInt8} (g : s.length ≤ 20000) : ShM (mNm m s) := ⟨wsN h.w g, h.ty, g, h.v, h.to, h.oty, h.onm, h.ov, h.rty, h.rnm, h.rfr, h.rto⟩
theorem sh3 {m : MD.T} (h : ShM m) {n : Int} (g : (Lit.int .i64 n).wf = true) : ShM (mI m n) := ⟨wsI h.w g, h.ty, h.nm, h.v, h.to, h.oty, h.onm, h.ov, h.rty, h.rnm, h.rfr, h.rto⟩
theorem sh4 {m : MD.T} (h : ShM m) {n : Int} (g : (Lit.int .i64 n).wf = true) : ShM (mM m n) := ⟨wsM h.w g, h.ty, h.nm, h.v, h.to, h.oty, h.onm, h.ov, h.rty, h.rnm, h.rfr, h.rto⟩
theorem sh5 {m : MD.T} (h : ShM m) {v : VD.T} (g : Wf VD v) (l : v.2.2.length ≤ 10000) : ShM (mVl m v) := ⟨wsV h.w g, h.ty, h.nm, l, h.to, h.oty, h.onm, h.ov, h.rty, h.rnm, h.rfr, h.rto⟩
theorem sh6 {m : MD.T} (h : ShM m) {v : VD.T} (g : Wf VD v) (l : v.2.2.length ≤ 10000) : ShM (mW m v) := ⟨wsW h.w g, h.ty, h.nm, h.v, l, h.oty, h.onm, h.ov, h.rty, h.rnm, h.rfr, h.rto⟩
theorem sh7 {m : MD.T} (h : ShM m) {s : List UInt8} (g : s.length ≤ 20000) : ShM (sO m (oT (mOp m) s)) := ⟨wsO h.w (woT h.w.2.2.2.2.2.2.2.1 g), h.ty, h.nm, h.v, h.to, g, h.onm, h.ov, h.rty, h.rnm, h.rfr, h.rto⟩
theorem sh8 {m : MD.T} (h : ShM m) {s : List UInt8} (g : s.length ≤ 20000) : ShM (sO m (oN (mOp m) s)) := ⟨wsO h.w (woN h.w.2.2.2.2.2.2.2.1 g), h.ty, h.nm, h.v, h.to, h.oty, g, h.ov, h.rty, h.rnm, h.rfr, h.rto⟩
theorem sh9 {m : MD.T} (h : ShM m) {n : Int} (g : (Lit.int .i64 n).wf = true) : ShM (sO m (oI (mOp m) n)) := ⟨wsO h.w (woI h.w.2.2.2.2.2.2.2.1 g), h.ty, h.nm, h.v, h.to, h.oty, h.onm, h.ov, h.rty, h.rnm, h.rfr, h.rto⟩
theorem sh10 {m : MD.T} (h : ShM m) {n : Int} (g : (Lit.int .i64 n).wf = true) : ShM (sO m (oF (mOp m) n)) := ⟨wsO h.w (woF h.w.2.2.2.2.2.2.2.1 g), h.ty, h.nm, h.v, h.to, h.oty, h.onm, h.ov, h.rty, h.rnm, h.rfr, h.rto⟩
theorem sh11 {m : MD.T} (h : ShM m) {n : Int} (g : (Lit.int .i64 n).wf = true) : ShM (sO m (oE (mOp m) n)) := ⟨wsO h.w (woE h.w.2.2.2.2.2.2.2.1 g), h.ty, h.nm, h.v, h.to, h.oty, h.onm, h.ov, h.rty, h.rnm, h.rfr, h.rto⟩
theorem sh12 {m : MD.T} (h : ShM m) {v : VD.T} (g : Wf VD v) (l : v.2.2.length ≤ 10000) : ShM (sO m (oVl (mOp m) v)) := ⟨wsO h.w (woV h.w.2.2.2.2.2.2.2.1 g), h.ty, h.nm, h.v, h.to, h.oty, h.onm, l, h.rty, h.rnm, h.rfr, h.rto⟩
theorem sh13 {m : MD.T} (h : ShM m) {s : List UInt8} (g : s.length ≤ 20000) : ShM (mR m (rT (mRule m) s)) := ⟨wsR h.w (wrT h.w.2.2.2.2.2.2.2.2 g), h.ty, h.nm, h.v, h.to, h.oty, h.onm, h.ov, g, h.rnm, h.rfr, h.rto⟩
theorem sh14 {m : MD.T} (h : ShM m) {s : List UInt8} (g : s.length ≤ 20000) : ShM (mR m (rN (mRule m) s)) := ⟨wsR h.w (wrN h.w.2.2.2.2.2.2.2.2 g), h.ty, h.nm, h.v, h.to, h.oty, h.onm, h.ov, h.rty, g, h.rfr, h.rto⟩
theorem sh15 {m : MD.T} (h : ShM m) {s : List UInt8} (g : s.length ≤ 20000) : ShM (mR m (rF (mRule m) s)) := ⟨wsR h.w (wrF h.w.2.2.2.2.2.2.2.2 g), h.ty, h.nm, h.v, h.to, h.oty, h.onm, h.ov, h.rty, h.rnm, g, h.rto⟩
theorem sh16 {m : MD.T} (h : ShM m) {s : List UInt8} (g : s.length ≤ 20000) : ShM (mR m (rG (mRule m) s)) := ⟨wsR h.w (wrG h.w.2.2.2.2.2.2.2.2 g), h.ty, h.nm, h.v, h.to, h.oty, h.onm, h.ov, h.rty, h.rnm, h.rfr, g⟩
theorem sh17 {m : MD.T} (h : ShM m) {n : Int} (g : (Lit.int .i64 n).wf = true) : ShM (mR m (rM (mRule m) n)) := ⟨wsR h.w (wrM h.w.2.2.2.2.2.2.2.2 g), h.ty, h.nm, h.v, h.to, h.oty, h.onm, h.ov, h.rty, h.rnm, h.rfr, h.rto⟩
theorem readV_sh {m : MD.T} {f : Int} {s : List UInt8} (h : ShM m) (hs : s.length ≤ 20000) : SQ (readV m f s) := by
  have hn := numP_wf s
  have hl := valS_len hs
  have hv : (valS s).2 = true → Wf VD (valS s).1 := fun g => val_wf g (Nat.le_trans hs (by decide))
  unfold readV
  refine ite_sh (ite_sh (fun g => sh12 h (hv g) hl) (fun g => sh5 h (hv g) hl)) ?_
  refine ite_sh (fun g => sh6 h (hv g) hl) ?_
  refine ite_sh (ite_sh (fun _ => sh9 h hn) (fun _ => sh3 h hn)) ?_
  refine ite_sh (fun _ => sh10 h hn) ?_
  refine ite_sh (fun _ => sh11 h hn) ?_
  exact ite_sh (fun _ => sh17 h hn) (fun _ => sh4 h hn)
theorem readM_sh {m : MD.T} {f : Int} {s : List UInt8} (h : ShM m) (hs : s.length ≤ 20000) : SQ (readM m f s) := by
  have hv := readV_sh (f := f) h hs
  unfold readM
  refine ite_sh ?_ (ite_sh ?_ ?_)
  · exact ite_sh (fun _ => sh7 h hs) (ite_sh (fun _ => sh8 h hs) hv)
  · exact ite_sh (fun _ => sh13 h hs) (ite_sh (fun _ => sh14 h hs) (ite_sh (fun _ => sh15 h hs) (ite_sh (fun _ => sh16 h hs) hv)))
  · exact ite_sh (fun _ => sh1 h hs) (ite_sh (fun _ => sh1 h hs) (ite_sh (fun _ => sh2 h hs) hv))
theorem readAll_sh : ∀ (fs : List UInt8) (ws : List (List UInt8)) {m : MD.T}, ShM m → (∀ w ∈ ws, w.length ≤ 20000) → SQ (readAll m fs ws)
  | fs, [], m, h, _ => by rw [readAll_nil]; exact fun _ => h
  | [], w :: ws, m, h, _ => fun g => by cases g
  | f :: fs, w :: ws, m, h, hw => by
    show SQ (if (readM m f.toNat w).2 = true then readAll (readM m f.toNat w).1 fs ws else ((readM m f.toNat w).1, false))
    split
    · rename_i g
      exact readAll_sh fs ws (readM_sh h (hw w (List.mem_cons_self ..)) g) fun v hv => hw v (List.mem_cons_of_mem _ hv)
    · exact fun g => by cases g
theorem forms_sh : ∀ x ∈ formsL, ShM (freshM x) := by
  have key : ∀ x ∈ formsL, Wf MD (freshM x) := by decide +kernel
  intro x hx
  have hw := key x hx
  unfold freshM at hw ⊢
  split
  · rw [if_pos (by assumption)] at hw
    exact ⟨hw, Nat.zero_le _, Nat.zero_le _, Nat.zero_le _, Nat.zero_le _, Nat.zero_le _, Nat.zero_le _, Nat.zero_le _, Nat.zero_le _, Nat.zero_le _, Nat.zero_le _, Nat.zero_le _⟩
  · rw [if_neg (by assumption)] at hw
    split
    · rw [if_pos (by assumption)] at hw
      exact ⟨hw, Nat.zero_le _, Nat.zero_le _, Nat.zero_le _, Nat.zero_le _, Nat.zero_le _, Nat.zero_le _, Nat.zero_le _, Nat.zero_le _, Nat.zero_le _, Nat.zero_le _, Nat.zero_le _⟩
    · rw [if_neg (by assumption)] at hw
      exact ⟨hw, Nat.zero_le _, Nat.zero_le _, Nat.zero_le _, Nat.zero_le _, Nat.zero_le _, Nat.zero_le _, Nat.zero_le _, Nat.zero_le _, Nat.zero_le _, Nat.zero_le _, Nat.zero_le _⟩
theorem pF_some {ws : List (List UInt8)} {d : MD.T} : ∀ {xs : List FD.T}, pF xs ws = some d → ∃ x ∈ xs, tryF x ws = some d
  | [], h => by cases h
  | x :: xs, h => by
    have h : (if x.1 = ws.headD [] then (match tryF x ws with | some m => some m | none => pF xs ws) else pF xs ws) = some d := h
    have rr : pF xs ws = some d → ∃ y ∈ x :: xs, tryF y ws = some d := fun g => by
      obtain ⟨y, hy, e⟩ := pF_some g
      exact ⟨y, List.mem_cons_of_mem _ hy, e⟩
    split at h
    · cases ht : tryF x ws with
      | some m => rw [ht] at h; exact ⟨x, List.mem_cons_self .., by rw [ht]; exact h⟩
      | none => rw [ht] at h; exact rr h
    · exact rr h
theorem parse_sh {line : List UInt8} {d : MD.T} (hl : line.length ≤ 20000) (h : parseS line = some d) : ShM d := by
  obtain ⟨x, hx, ht⟩ := pF_some h
  obtain ⟨_, w2⟩ := words_len line
  unfold tryF at ht
  split at ht
  · split at ht
    · rename_i g
      split at ht
      · cases ht
        exact readAll_sh _ _ (forms_sh x hx) (fun w hw => Nat.le_trans (w2 w (List.mem_of_mem_tail hw)) hl) g
      · cases ht
    · cases ht
  · cases ht
end Go.Proofs.YtdhfipjfgigamaaGreatDoor.Con
/- The empty catalog; a result that is a catalog, or one whose lists are nil. Own work. -/
set_option linter.unusedVariables false
set_option maxRecDepth 100000
namespace Go.Proofs.YtdhfipjfgigamaaGreatDoor
open Go Go.RowKit OE

def C0 : CD.T := CD.df
/-- the catalog's cells where all its lists are nil -/
abbrev cn : List C := [.val (.slice none 0 0), .val (.slice none 0 0), .val (.slice none 0 0), .val (.slice none 0 0), .int .i64 0]
theorem nilC {w : World} {ok : Nat → Prop} {d : D} {v : Value} (h : RC (DX w ok) (.val (.slice none 0 0)) v) : RC (DX w ok) (.dat d []) v := nilA v h
end Go.Proofs.YtdhfipjfgigamaaGreatDoor
/- The walk of the laws' wakes (console). Own work. -/
set_option linter.unusedVariables false
set_option maxRecDepth 100000
namespace Go.Proofs.YtdhfipjfgigamaaGreatDoor.Con
open Go Go.RowKit Go.Lib OE

theorem console_Parse' (line : List UInt8) (hl : line.length ≤ 100000) {d : MD.T} {e : Int} (h : (resM (parseS line), resE (parseS line)) = (d, e)) : FnD Tryz.prog 9 [.c (.str line)] (· = .tup [(true, mc d), (false, [.int .i64 e])]) := by
  have := console_Parse line hl
  cases h
  exact this
theorem console_Line' (m : MD.T) (h : ShM m) {l : List UInt8} {e : Int} (hl : (linL m, linE m) = (l, e)) : FnD Tryz.prog 13 [.agg (mc m)] (· = .tup [(false, [.str l]), (false, [.int .i64 e])]) := by
  have := console_Line m h.wr (lineX_len h)
  cases hl
  exact this
theorem parse_ok {line : List UInt8} {d : MD.T} (h : parseS line = some d) : (resM (parseS line), resE (parseS line)) = (d, 0) := by rw [h]; rfl
theorem parse_no {line : List UInt8} (h : parseS line = none) : (resM (parseS line), resE (parseS line)) = (MD.df, 320) := by rw [h]; rfl
theorem line_ok {m : MD.T} {l : List UInt8} (h : lineS m = some l) : (linL m, linE m) = (l, 0) := by unfold linL linE; rw [h]; rfl
def wC : MD.T := (6, 0, [], [], (0, 0, []), (0, 0, []), 0, (5, 5, [], 0, 0, [110, 97, 109, 101], (3, 0, [97, 98]), false), RD.df)
abbrev w1 : List UInt8 := [115, 101, 116, 32, 53, 32, 110, 97, 109, 101, 32, 34, 54, 49, 54, 50]
abbrev w2 : List UInt8 := [115, 101, 116, 32, 48, 53, 32, 110, 97, 109, 101, 32, 110, 111, 110, 101]
theorem wk1 : parseS w1 = some wC := by rw [parse_R]; kernel_rfl
theorem wk2 : parseS w2 = none := by rw [parse_R]; kernel_rfl
def wA : Ans.AD.T := (60, 7, 0, [], [], [], [], [], [], [], 0)
theorem itoa_60 : itoa 60 = [54, 48] := by
  rw [itoa_pos (by decide)]
  exact dec_canon (s := [54, 48]) (by decide)
theorem itoa_7 : itoa 7 = [55] := by
  rw [itoa_pos (by decide)]
  exact dec_canon (s := [55]) (by decide)
theorem wk3 : tellS wA = [[54, 48], [105, 100, 32, 55]] := by
  show [itoa 60] ++ [[105, 100, 32] ++ itoa 7] ++ [] ++ [] ++ [] ++ [] = _
  rw [itoa_60, itoa_7]
  rfl
theorem wA_ok : OkA wA := ⟨by decide, ⟨by decide, fun n h => by cases h⟩, ⟨by decide, fun n h => by cases h⟩, by decide⟩
theorem tell_nil : FnD Tryz.prog 18 [.agg [.int .i64 60, .int .i64 7, .int .i64 0, .val (.slice none 0 0), .val (.slice none 0 0), .val (.slice none 0 0), .val (.slice none 0 0), .val (.slice none 0 0), .val (.slice none 0 0), .val (.slice none 0 0), .int .i64 0]] (· = .c (.dat .str [[54, 48], [105, 100, 32, 55]])) := by
  have h := console_Tell wA wA_ok
  rw [wk3] at h
  exact h.args fun w ok => ⟨fun v h => by
    obtain ⟨us, e2, hl2⟩ := h
    refine ⟨us, e2, ?_⟩
    generalize us.toList = n at hl2
    match n, hl2 with
    | [a1, a2, a3, a4, a5, a6, a7, a8, a9, a10, a11], ⟨h1, h2, h3, h4, h5, h6, h7, h8, h9, h10, h11, _⟩ => exact ⟨h1, h2, h3, nilC h4, nilC h5, nilC h6, nilC h7, nilC h8, nilC h9, nilC h10, h11, trivial⟩, trivial⟩
theorem console_wakes : FnD Tryz.prog 8 [] (· = .c (.bool (.sym true))) := by
  have hd := parse_sh (by decide) wk1
  refine fn0 Tryz.func8 rfl rfl rfl ?_
  conv => whnf
  refine call1 (console_Parse' w1 (by decide) (parse_ok wk1)) rfl ?_
  conv => whnf
  refine call1 (console_Line' wC hd (line_ok (line_back hd.sm wk1))) rfl ?_
  conv => whnf
  refine call1 (console_Parse' w2 (by decide) (parse_no wk2)) rfl ?_
  conv => whnf
  refine call1 (tell_nil) rfl ?_
  conv => whnf
  refine tk rfl ?_
  conv => whnf
  refine fzc 2 rfl ?_
  conv => whnf
  refine call1 (keep_Texts [[54, 48], [105, 100, 32, 55]] [[54, 48], [105, 100, 32, 55]]) rfl ?_
  conv => whnf
  rfl
end Go.Proofs.YtdhfipjfgigamaaGreatDoor.Con
/- The walks of the reference's Dec, number, digit, hex, words. Own work. -/
set_option linter.unusedVariables false
set_option maxRecDepth 100000
namespace Go.Proofs.YtdhfipjfgigamaaGreatDoor.Con
open Go Go.RowKit Go.Lib OE

theorem dig1 (n : Int) (h0 : 0 ≤ n) (h1 : n < 10) : List.drop n.toNat (List.take (n + 1).toNat [48, 49, 50, 51, 52, 53, 54, 55, 56, 57]) = decDigits n.toNat := by
  obtain ⟨k, rfl⟩ : ∃ k : Nat, n = (k : Int) := ⟨n.toNat, by omega⟩
  have hk : k < 10 := by omega
  rw [decDigits, dif_pos (by omega)]
  have : ∀ k : Fin 10, List.drop ((k.val : Int)).toNat (List.take ((k.val : Int) + 1).toNat [48, 49, 50, 51, 52, 53, 54, 55, 56, 57]) = [UInt8.ofNat (48 + ((k.val : Int)).toNat)] := by decide
  exact this ⟨k, hk⟩
theorem ref_Dec_pos : ∀ (m : Nat) (n : Int), 0 ≤ n → n ≤ 9223372036854775807 → n.toNat ≤ m → FnD Tryz.prog 80 [.c (.int .i64 n)] (· = .c (.str (itoa n))) := by
  intro m
  induction m using Nat.strongRecOn with
  | _ m ih =>
    intro n h0 h1 hm
    rw [itoa_pos h0]
    refine fn0 Tryz.func80 rfl rfl rfl ?_
    conv => whnf
    refine fk (decide_eq_false (by omega)) ?_
    conv => whnf
    refine fk (decide_eq_false (by omega)) ?_
    conv => whnf
    refine ⟨fun a => ?_, fun a => ?_⟩
    · have a : n < 10 := of_decide_eq_true a
      have hw : IntKind.wrap .i64 (n + 1) = n + 1 := wr64 _ (by omega) (by omega)
      conv => whnf
      rw [hw]
      refine ⟨⟨⟨by omega, by show n + 1 ≤ 10; omega⟩, by omega, by omega⟩, ?_⟩
      conv => whnf
      exact congrArg (fun l => SV.c (C.str l)) (dig1 n h0 a)
    · have a : ¬ n < 10 := of_decide_eq_false a
      have hq : n.tdiv 10 = ((n.toNat / 10 : Nat) : Int) := by
        obtain ⟨k, rfl⟩ : ∃ k : Nat, n = (k : Int) := ⟨n.toNat, by omega⟩
        rfl
      have hr : n.tmod 10 = ((n.toNat % 10 : Nat) : Int) := by
        obtain ⟨k, rfl⟩ : ∃ k : Nat, n = (k : Int) := ⟨n.toNat, by omega⟩
        rfl
      have hwq : IntKind.wrap .i64 (n.tdiv 10) = ((n.toNat / 10 : Nat) : Int) := by rw [hq]; exact wr64 _ (by omega) (by omega)
      have hwr : IntKind.wrap .i64 (((n.toNat % 10 : Nat) : Int) + 1) = ((n.toNat % 10 : Nat) : Int) + 1 := wr64 _ (by omega) (by omega)
      have hI : itoa ((n.toNat / 10 : Nat) : Int) = decDigits (n.toNat / 10) := by rw [itoa_pos (by omega), Int.toNat_natCast]
      have hl := dec_len (u := n.toNat / 10) (by omega)
      conv => whnf
      refine any0 ?_
      conv => whnf
      refine ⟨by decide, ?_⟩
      rw [hwq]
      conv => whnf
      refine callr0 (ih (n.toNat / 10) (by omega) ((n.toNat / 10 : Nat) : Int) (by omega) (by omega) (by omega)) rfl ?_
      conv => whnf
      refine ⟨by decide, ?_⟩
      rw [hr]
      conv => whnf
      refine ⟨by decide, ?_⟩
      rw [hr]
      conv => whnf
      rw [hwr]
      refine ⟨⟨⟨by omega, by show ((n.toNat % 10 : Nat) : Int) + 1 ≤ 10; omega⟩, by omega, by omega⟩, ?_⟩
      conv => whnf
      rw [hI]
      have hd := dig1 ((n.toNat % 10 : Nat) : Int) (by omega) (by omega)
      rw [Int.toNat_natCast] at hd
      have hs : List.drop (((n.toNat % 10 : Nat) : Int)).toNat (List.take (((n.toNat % 10 : Nat) : Int) + 1).toNat [48, 49, 50, 51, 52, 53, 54, 55, 56, 57]) = decDigits (n.toNat % 10) := hd
      have h1l : (decDigits (n.toNat % 10)).length ≤ 19 := dec_len (by omega)
      have hdd : decDigits n.toNat = decDigits (n.toNat / 10) ++ decDigits (n.toNat % 10) := by
        conv => lhs; rw [decDigits]
        rw [dif_neg (by omega)]
        conv => rhs; rw [show decDigits (n.toNat % 10) = [UInt8.ofNat (48 + n.toNat % 10)] by rw [decDigits, dif_pos (by omega)]]
      rw [hdd]
      refine ⟨by
        show (decDigits (n.toNat / 10)).length + (List.drop (((n.toNat % 10 : Nat) : Int)).toNat (List.take (((n.toNat % 10 : Nat) : Int) + 1).toNat [48, 49, 50, 51, 52, 53, 54, 55, 56, 57])).length ≤ _
        rw [hs]; omega, ?_⟩
      conv => whnf
      refine ⟨.inl (by kernel_rfl), after0 ?_⟩
      conv => whnf
      exact congrArg (fun l => SV.c (C.str (decDigits (n.toNat / 10) ++ l))) hs
theorem ref_Dec (n : Int) (h0 : -9223372036854775808 ≤ n) (h1 : n ≤ 9223372036854775807) : FnD Tryz.prog 80 [.c (.int .i64 n)] (· = .c (.str (itoa n))) := by
  by_cases hn : 0 ≤ n
  · exact ref_Dec_pos n.toNat n hn h1 (Nat.le_refl _)
  by_cases hm : n = -9223372036854775808
  · subst hm
    have e : itoa (-9223372036854775808) = tLeast := by
      have hp : numPre [57, 50, 50, 51, 51, 55, 50, 48, 51, 54, 56, 53, 52, 55, 55, 53, 56, 48, 56] = true := by decide
      have hv : valD [57, 50, 50, 51, 51, 55, 50, 48, 51, 54, 56, 53, 52, 55, 55, 53, 56, 48, 56] = 9223372036854775808 := by decide
      rw [itoa_neg' (by decide)]
      have := dec_canon hp
      rw [hv] at this
      show 45 :: decDigits 9223372036854775808 = _
      rw [this]
    rw [e]
    refine fn0 Tryz.func80 rfl rfl rfl ?_
    conv => whnf
    refine tk rfl ?_
    conv => whnf
  have hw : IntKind.wrap .i64 (0 - n) = -n := (wr64 _ (by omega) (by omega)).trans (by omega)
  have hi : itoa (-n) = decDigits n.natAbs := by rw [itoa_pos (by omega)]; congr 1; omega
  have hl := dec_len (u := n.natAbs) (by omega)
  rw [itoa_neg' (by omega)]
  refine fn0 Tryz.func80 rfl rfl rfl ?_
  conv => whnf
  refine fk (decide_eq_false hm) ?_
  conv => whnf
  refine tk (decide_eq_true (by omega)) ?_
  conv => whnf
  rw [hw]
  refine call1 (ref_Dec_pos (-n).toNat (-n) (by omega) (by omega) (Nat.le_refl _)) rfl ?_
  conv => whnf
  rw [hi]
  refine ⟨by show 1 + _ ≤ _; omega, ?_⟩
  conv => whnf
  rfl
theorem ref_dec (n : Int) (h0 : -9223372036854775808 ≤ n) (h1 : n ≤ 9223372036854775807) : FnD Tryz.prog 47 [.c (.int .i64 n)] (· = .c (.str (itoa n))) := by
  refine fn0 Tryz.func47 rfl rfl rfl ?_
  conv => whnf
  refine call1 (ref_Dec n h0 h1) rfl ?_
  conv => whnf
/-! a digit of sixteen -/
/-! the number of a text -/
/-! a text of digits of sixteen -/
theorem hex_row (s : List UInt8) : byl ((hexS s).map fun b => (b.toNat : Int)) = hexS s := by
  unfold byl
  rw [List.map_map]
  conv => rhs; rw [← List.map_id (hexS s)]
  exact List.map_congr_left fun b _ => by simp
theorem hexS_app' : ∀ a b : List UInt8, hexS (a ++ b) = hexS a ++ hexS b
  | [], b => rfl
  | c :: a, b => by
    show hexC _ :: hexC _ :: hexS (a ++ b) = _
    rw [hexS_app' a b]; rfl
theorem dig_bt (n : Nat) (h : n < 16) : bt ({ data := #[48, 49, 50, 51, 52, 53, 54, 55, 56, 57, 97, 98, 99, 100, 101, 102] } : ByteArray).data.toList (n : Int) = ((hexC n).toNat : Int) := rfl
theorem and15 (n : Nat) (h : n < 256) : bits BinOp.and .u8 (n : Int) 15 = ((n % 16 : Nat) : Int) := by
  have : ∀ n : Fin 256, bits BinOp.and .u8 (n.val : Int) 15 = ((n.val % 16 : Nat) : Int) := by decide +kernel
  exact this ⟨n, h⟩
theorem ref_hex (s : List UInt8) (hs : s.length ≤ 100000) : FnD Tryz.prog 100 [.c (.str s)] (· = .c (.str (hexS s))) := by
  refine fn0 Tryz.func100 rfl rfl rfl ?_
  conv => whnf
  refine nilsl0 3 5 (.int .u8) rfl ?_
  conv => whnf
  refine loop0 (α := Nat) (fun i => i ≤ s.length) (fun i => ⟨[(0, .c (.str s)), (3, .c (.row 0)), (4, .c (.int .i64 i))], [(0, .row 5 (.int .u8) ((hexS (s.take i)).map fun b => (b.toNat : Int)))], 1⟩) (fun i => s.length - i) ⟨0, Nat.zero_le _, ?_⟩ ?_
  · (conv => whnf); refine ⟨rfl, ?_, ?_, ?_⟩ <;> (repeat' apply And.intro) <;> first | exact trivial | rfl | exact wr_succ _ (by omega) | assumption | exact decide_eq_false (by assumption) | exact decide_eq_true (by assumption)
  intro i hi
  conv => whnf
  refine ⟨fun b => ?_, fun b => ?_⟩
  · have b : i < s.length := by have := of_decide_eq_true b; omega
    have hbt : bt s (i : Int) = ((s[i]).toNat : Int) := bt_nat s i b
    have hc := (s[i]).toNat_lt
    conv => whnf
    refine any0 ?_
    conv => whnf
    refine ⟨by omega, ?_⟩
    rw [hbt]
    conv => whnf
    refine ⟨by decide, ?_⟩
    conv => whnf
    have e1 : ((s[i]).toNat : Int) / 2 ^ min (Int.toNat 4) IntKind.u8.bits = (((s[i]).toNat / 16 : Nat) : Int) := by
      rw [show (2 : Int) ^ min (Int.toNat 4) IntKind.u8.bits = 16 by decide]; omega
    have e2 := and15 (s[i]).toNat hc
    rw [e1]
    refine ⟨⟨by omega, by show (((s[i]).toNat / 16 : Nat) : Int) < 16; omega⟩, ?_⟩
    rw [dig_bt _ (by omega)]
    conv => whnf
    refine ⟨by omega, ?_⟩
    rw [hbt]
    conv => whnf
    rw [e2]
    refine ⟨⟨by omega, by show (((s[i]).toNat % 16 : Nat) : Int) < 16; omega⟩, ?_⟩
    rw [dig_bt _ (by omega)]
    conv => whnf
    have hst : (hexS (s.take (i + 1))).map (fun b => (b.toNat : Int)) = (hexS (s.take i)).map (fun b => (b.toNat : Int)) ++ [((hexC ((s[i]).toNat / 16)).toNat : Int), ((hexC ((s[i]).toNat % 16)).toNat : Int)] := by
      rw [List.take_add_one, List.getElem?_eq_getElem b, hexS_app', List.map_append]; rfl
    refine ⟨by show (((hexS (s.take i)).map fun b => (b.toNat : Int)).length + 2) * 1 ≤ 140737488355328; rw [List.length_map, hexS_len, List.length_take]; omega, ?_⟩
    conv => whnf
    refine ⟨.inl (by kernel_rfl), after0 ?_⟩
    conv => whnf
    refine ⟨i + 1, ⟨by omega, by omega⟩, ?_⟩
    rw [hst]
    (conv => whnf); refine ⟨rfl, ?_, ?_, ?_⟩ <;> (repeat' apply And.intro) <;> first | exact trivial | rfl | exact wr_succ _ (by omega) | assumption | exact decide_eq_false (by assumption) | exact decide_eq_true (by assumption)
  · have b : i = s.length := by have := of_decide_eq_false b; omega
    subst b
    rw [List.take_of_length_le (Nat.le_refl _)]
    conv => whnf
    rw [hex_row]
/-! words -/
end Go.Proofs.YtdhfipjfgigamaaGreatDoor.Con
/- The walks of the reference's Val, Value. Own work. -/
set_option linter.unusedVariables false
set_option maxRecDepth 100000
namespace Go.Proofs.YtdhfipjfgigamaaGreatDoor.Con
open Go Go.RowKit Go.Lib OE

def refV (v : VD.T) : List UInt8 :=
  if (v.1 : Int) = 1 then (if (v.2.1 : Int) = 1 then tTrue else tFalse)
  else if (v.1 : Int) = 2 then itoa v.2.1
  else if (v.1 : Int) = 3 then 34 :: hexS v.2.2
  else tNone
theorem refV_eq {v : VD.T} (h : (v.1 : Int) = 0 ∨ (v.1 : Int) = 1 ∨ (v.1 : Int) = 2 ∨ (v.1 : Int) = 3) : refV v = wordV v := by
  unfold refV wordV
  rcases h with h | h | h | h <;> rw [h] <;> rfl
theorem ref_Val (v : VD.T) (h0 : -9223372036854775808 ≤ (v.2.1 : Int)) (h1 : (v.2.1 : Int) ≤ 9223372036854775807) (hs : v.2.2.length ≤ 100000) : FnD Tryz.prog 72 [.agg (vc v)] (· = .c (.str (refV v))) := by
  unfold refV
  refine fn0 Tryz.func72 rfl rfl rfl ?_
  conv => whnf
  refine ⟨fun a => ?_, fun a => ?_⟩
  · have a : (v.1 : Int) = 1 := of_decide_eq_true a
    rw [if_pos a]
    conv => whnf
    refine ⟨fun b => ?_, fun b => ?_⟩
    · have b : (v.2.1 : Int) = 1 := of_decide_eq_true b
      rw [if_pos b]
      conv => whnf
    · have b : ¬ (v.2.1 : Int) = 1 := of_decide_eq_false b
      rw [if_neg b]
      conv => whnf
  have a1 : ¬ (v.1 : Int) = 1 := of_decide_eq_false a
  rw [if_neg a1]
  conv => whnf
  refine ⟨fun b => ?_, fun b => ?_⟩
  · have b : (v.1 : Int) = 2 := of_decide_eq_true b
    rw [if_pos b]
    conv => whnf
    refine call1 (ref_Dec v.2.1 h0 h1) rfl ?_
    conv => whnf
  have a2 : ¬ (v.1 : Int) = 2 := of_decide_eq_false b
  rw [if_neg a2]
  conv => whnf
  refine ⟨fun c => ?_, fun c => ?_⟩
  · have c : (v.1 : Int) = 3 := of_decide_eq_true c
    rw [if_pos c]
    conv => whnf
    refine call1 (ref_hex v.2.2 hs) rfl ?_
    conv => whnf
    refine ⟨by show 1 + _ ≤ _; rw [hexS_len]; omega, ?_⟩
    conv => whnf
    rfl
  have a3 : ¬ (v.1 : Int) = 3 := of_decide_eq_false c
  rw [if_neg a3]
  conv => whnf
end Go.Proofs.YtdhfipjfgigamaaGreatDoor.Con
/- The walks of the reference's text, Line. Printed by a program of the session (gencontext.py). Own work. -/
set_option linter.unusedVariables false
set_option maxRecDepth 100000
namespace Go.Proofs.YtdhfipjfgigamaaGreatDoor.Con
open Go Go.RowKit Go.Lib OE

def okK (v : VD.T) : Prop := (v.1 : Int) = 0 ∨ (v.1 : Int) = 1 ∨ (v.1 : Int) = 2 ∨ (v.1 : Int) = 3
theorem ok_kind {v : VD.T} (h : okVal v = true) : okK v := by
  obtain ⟨k, n, s⟩ := v
  unfold okVal at h
  rw [Bool.or_eq_true] at h
  rcases h with h | h
  · unfold goodV at h
    split at h
    · rename_i g; exact .inr (.inl g)
    · split at h
      · rename_i g; exact .inr (.inr (.inl g))
      · split at h
        · rename_i g; exact .inr (.inr (.inr g))
        · cases h
  · unfold blankV at h
    simp only [Bool.and_eq_true, decide_eq_true_eq] at h
    exact .inl h.1.1
theorem ref_Val' (v : VD.T) (hk : okK v) (hw : Wf VD v) (hs : v.2.2.length ≤ 10000) : FnD Tryz.prog 72 [.agg (vc v)] (· = .c (.str (wordV v))) := by
  have := ref_Val v (wf_i64 hw.2.1).1 (wf_i64 hw.2.1).2 (by omega)
  rw [refV_eq hk] at this
  exact this
end Go.Proofs.YtdhfipjfgigamaaGreatDoor.Con
