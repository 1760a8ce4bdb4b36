/- The walk of the law SessCuts. Own work. -/
import Derived.Test.YtmdjonckcapkeaaDoorPart7
/- The walk of the laws' wakes (wire). Own work. -/
set_option linter.unusedVariables false
set_option maxRecDepth 100000
namespace Go.Proofs.YtmdjonckcapkeaaDoor
open Go Go.RowKit OE

theorem keep_Op (v w : OD.T) : FnD Tryd.prog 24 [.agg (oc v), .agg (oc w)] (· = .c (.bool (.sym (OD.eqb v w)))) := by
  refine fn0 Tryd.func24 rfl rfl rfl ?_
  conv => whnf
  refine callg0 (fun _ => keep_Value (oV v) (oV w)) rfl ?_
  conv => whnf
  simp [D.eqb, oV, Bool.and_assoc, Bool.beq_eq_decide_eq]
  rfl
theorem keep_Cmd (v w : MD.T) : FnD Tryd.prog 15 [.agg (mc v), .agg (mc w)] (· = .c (.bool (.sym (MD.eqb v w)))) := by
  refine fn0 Tryd.func15 rfl rfl rfl ?_
  conv => whnf
  refine callg0 (fun _ => keep_Value (mV v) (mV w)) rfl ?_
  conv => whnf
  refine callg0 (fun _ => keep_Value (mTo v) (mTo w)) rfl ?_
  conv => whnf
  refine callg0 (fun _ => keep_Op (mOp v) (mOp w)) rfl ?_
  conv => whnf
  refine callg0 (fun _ => keep_Rule (mRule v) (mRule w)) rfl ?_
  conv => whnf
  simp [D.eqb, mV, mTo, mOp, mRule, Bool.and_assoc]
  rfl
def wW : MD.T := (6, 0, [], [], (0, 0, []), (0, 0, []), 0, (5, 300, [], 0, 0, [97], (1, 1, []), false), RD.df)
def wB : MD.T := (1, MD.df.2)
theorem putN_300 : Num.putN 300 = [172, 2] := by rw [Num.putN_ge (by decide), Num.putN_lt (by decide)]; rfl
theorem putN_1 : Num.putN 1 = [1] := by rw [Num.putN_lt (by decide)]; rfl
theorem wW_bytes : bytM wW = ([6, 5, 172, 2, 1, 97, 1, 1], true) := by
  have h : bytM wW = (byl [6] ++ (byl [5] ++ (Num.putN 300 ++ ((Num.putN 1 ++ [97]) ++ ([1, 1] ++ []))) ++ []), true) := rfl
  rw [h, putN_300, putN_1]
  rfl
theorem wW_read : readS [6, 5, 172, 2, 1, 97, 1, 1] = (wW, true) := by rfl
theorem wW_good : goodM wW = true := by unfold goodM; rw [wW_bytes, wW_read]; rfl
theorem wB_bytes : bytM wB = ([1], true) := rfl
theorem wB_good : goodM wB = true := rfl
theorem wW_sm : SmC wW := ⟨by decide, by decide, wf0, wf0, by decide, by decide, ⟨by decide, by decide, Nat.zero_le _⟩⟩
end Go.Proofs.YtmdjonckcapkeaaDoor
set_option linter.unusedVariables false
set_option maxRecDepth 100000
namespace Go.Proofs.YtmdjonckcapkeaaDoor
open Go Go.RowKit OE

theorem keep_Mod (k n : Int) (h0 : 0 < n) (h1 : n ≤ 1000000) : FnD Tryd.prog 10 [.c (.int .i64 k), .c (.int .i64 n)] (· = .c (.int .i64 (k % n))) := by
  have e1 : -n < k.tmod n ∧ k.tmod n < n := ⟨Int.lt_tmod_of_pos k h0, Int.tmod_lt_of_pos k h0⟩
  have e2 : IntKind.wrap .i64 (k.tmod n + n) = k.tmod n + n := wr64 _ (by omega) (by omega)
  have e3 : (k.tmod n + n).tmod n = k % n := by
    rw [Int.tmod_eq_emod_of_nonneg (by omega)]
    have : k.tmod n = k - n * k.tdiv n := by have := Int.tmod_add_mul_tdiv k n; omega
    rw [this, Int.add_emod_right]
    rw [show k - n * k.tdiv n = k + n * (-k.tdiv n) by rw [Int.mul_neg]; omega, Int.add_mul_emod_self_left]
  refine fn0 Tryd.func10 rfl rfl rfl ?_
  conv => whnf
  refine fk (decide_eq_false (by omega)) ?_
  conv => whnf
  refine ⟨by omega, ?_⟩
  conv => whnf
  refine ⟨by omega, ?_⟩
  conv => whnf
  rw [e2, e3]

/-! the bytes of a command are no more than a message holds -/

theorem eqm_same (m : MD.T) : MD.eqb m m = true := (D.eqb_iff MD m m).2 rfl
theorem ans_some {a : Ss} {r : Ans.AD.T} (h : 0 < a.q.length) (g : Ans.goodA r = true) : (ansS a r).2 = 0 ∧ (ansS a r).1.inp = a.inp ∧ (ansS a r).1.q = a.q.tail ∧ (ansS a r).1.cl = a.cl ∧ (ansS a r).1.out = a.out ++ Num.putT (Ans.encA r) := by
  obtain ⟨e1, e2⟩ := ans_ab a r
  have hn : ¬ a.ab.L = [] := fun e => by
    have : a.q = [] := e
    rw [this] at h
    exact absurd h (by decide)
  unfold ansR at e1 e2
  rw [if_neg hn, if_pos g] at e1 e2
  exact ⟨e2, congrArg Rs.inp e1, congrArg Rs.L e1, congrArg Rs.cl e1, congrArg Rs.out e1⟩
theorem lenN (n i : Int) : (Num.putT (Ans.encA (rN n i))).length ≤ 100 := by
  have h : Ans.encA (rN n i) = Num.putN (Ans.u64 n) ++ Num.putN (Ans.u64 i) ++ Num.putN 0 ++ Num.putN 0 ++ [] ++ Num.putN 0 ++ [] ++ Num.putN 0 ++ [] ++ (Num.putN 0 ++ []) := by rfl
  have h1 := Num.putN_ten (Ans.wrap_u64 n).2
  have h2 := Num.putN_ten (Ans.wrap_u64 i).2
  have h0 := Num.putN_ten (n := 0) (by decide)
  have hl : (Ans.encA (rN n i)).length ≤ 80 := by
    rw [h]
    simp only [List.length_append, List.length_nil]
    omega
  have := Num.putN_ten (n := (Ans.encA (rN n i)).length) (by omega)
  unfold Num.putT
  rw [List.length_append]
  omega
/-- what a session is that was fed so many bytes -/
def P0 (s : List UInt8) : Rs := run ⟨s, [], [], false⟩
theorem P0_app (s t : List UInt8) : P0 (s ++ t) = feedR (P0 s) t := run_app s.length ⟨s, [], [], false⟩ t (Nat.le_refl _) rfl
theorem P0_len (s : List UInt8) : (P0 s).L.length ≤ 64 ∧ (P0 s).inp.length ≤ s.length ∧ (P0 s).out = [] := run_len s.length ⟨s, [], [], false⟩ (Nat.le_refl _) (Nat.zero_le _)
theorem feed_P0 (d : List UInt8) : (feedS S0 d).ab = P0 d := feed_ab S0 d
abbrev hpT (a b : Ss) : List (Nat × Ob) := [(0, .cells sT (scs a)), (1, .chan 64 MD a.xs a.s a.r), (2, .cells sT (.str b.inp :: .chn 3 :: (mc b.hd ++ [.bool (.sym b.there), .str b.out, .bool (.sym b.cl)]))), (3, .chan 64 MD b.xs b.s b.r)]
theorem row_SessCuts (d : List UInt8) (hd : d.length ≤ 140737488351232) (cuts : List Ans.LD.T) (hc : Wf (.list Ans.LD) cuts) :
    FnD Tryd.prog 3 [.c (.str d), .c (.dat Ans.LD cuts)] (· = .c (.bool (.sym true))) := by
  refine fn0 Tryd.func3 rfl rfl rfl ?_
  conv => whnf
  intro _
  refine ⟨fun z => ?_, fun z => ?_⟩
  · conv => whnf
    refine call1 (sess_wakes) rfl ?_
    conv => whnf
  rw [Bool.or_eq_false_iff, decide_eq_false_iff_not, decide_eq_false_iff_not] at z
  have hd2 : d.length ≤ 20000 := by omega
  have hc2 : cuts.length ≤ 100 := by have := z.2; omega
  conv => whnf
  refine callp0 [] rfl rfl (sess_New) rfl rfl rfl rfl rfl ?_
  conv => whnf
  refine callp0 [] rfl rfl (sess_New) rfl rfl rfl rfl rfl ?_
  conv => whnf
  refine callp0 [0, 1] rfl rfl (sess_Feed S0 d (by show 0 + d.length ≤ _; omega) (by decide)) rfl rfl rfl rfl rfl ?_
  conv => whnf
  have hA := feed_P0 d
  generalize feedS S0 d = a at hA
  have hAq : a.q.length ≤ 64 := by rw [show a.q = (P0 d).L from congrArg Rs.L hA]; exact (P0_len d).1
  refine loop0 (α := Nat × List UInt8 × Ss) (fun p => p.1 ≤ cuts.length ∧ p.2.1.length ≤ 20000 ∧ ∃ pre, d = pre ++ p.2.1 ∧ p.2.2.ab = P0 pre) (fun p => ⟨[(0, .c (.str d)), (1, .c (.dat Ans.LD cuts)), (5, .c (.ptr 0 0)), (6, .c (.ptr 2 0)), (7, .c (.str p.2.1)), (8, .c (.int .i64 p.1))], hpT a p.2.2, 4⟩) (fun p => cuts.length - p.1) ⟨(0, d, S0), ⟨Nat.zero_le _, hd2, [], rfl, rfl⟩, ?_⟩ ?_
  · (conv => whnf); refine ⟨rfl, ?_, ?_, ?_⟩ <;> (repeat' apply And.intro) <;> first | exact trivial | rfl | exact wr_succ _ (by omega) | assumption | exact decide_eq_false (by assumption) | exact decide_eq_true (by assumption)
  rintro ⟨i, rest, b⟩ ⟨hi, hr, pre, hp, hB⟩
  dsimp only at hi hr hp hB ⊢
  have hpl : pre.length ≤ 20000 := by have := congrArg List.length hp; rw [List.length_append] at this; omega
  obtain ⟨l1, l2, l3⟩ := P0_len pre
  have hBq : b.q.length ≤ 64 := by rw [show b.q = (P0 pre).L from congrArg Rs.L hB]; exact l1
  have hBi : b.inp.length ≤ 20000 := by rw [show b.inp = (P0 pre).inp from congrArg Rs.inp hB]; omega
  conv => whnf
  intro _
  conv => whnf
  refine ⟨fun z2 => ?_, fun z2 => ?_⟩
  · have z2 : i < cuts.length := by rw [decide_eq_true_eq] at z2; omega
    conv => whnf
    try (intro _; conv => whnf)
    refine ⟨by omega, ?_⟩
    rw [gt_nat (d := Ans.LD) cuts i z2]
    conv => whnf
    rw [wr64 ((rest.length : Int) + 1) (by omega) (by omega)]
    obtain ⟨c, hcc⟩ : ∃ c : Int, cuts[i] = c := ⟨_, rfl⟩
    rw [hcc]
    refine call1 (keep_Mod c ((rest.length : Int) + 1) (by omega) (by omega)) rfl ?_
    conv => whnf
    have m0 := Int.emod_nonneg c (show ((rest.length : Int) + 1) ≠ 0 by omega)
    have m1 := Int.emod_lt_of_pos c (show 0 < ((rest.length : Int) + 1) by omega)
    obtain ⟨k, hk⟩ := Int.eq_ofNat_of_zero_le m0
    rw [hk] at m1 ⊢
    have hkl : k ≤ rest.length := by omega
    refine ⟨by omega, ?_⟩
    conv => whnf
    refine callp0 [2, 3] rfl rfl (sess_Feed b (rest.take k) (by rw [List.length_take]; omega) hBq) rfl rfl rfl rfl rfl ?_
    conv => whnf
    refine ⟨by omega, ?_⟩
    conv => whnf
    have hcut : rest.drop k = List.drop ((k : Int)).toNat (List.take rest.length rest) := by rw [List.take_length, Int.toNat_natCast]
    refine ⟨(i + 1, rest.drop k, feedS b (rest.take k)), ⟨⟨by dsimp only; omega, by dsimp only; rw [List.length_drop]; omega, pre ++ rest.take k, by dsimp only; rw [List.append_assoc, List.take_append_drop]; exact hp, by dsimp only; rw [feed_ab, hB, P0_app]⟩, by dsimp only; omega⟩, ?_⟩
    (conv => whnf); refine ⟨rfl, ?_, ?_, ?_⟩ <;> (repeat' apply And.intro) <;> first | exact trivial | rfl | exact wr_succ _ (by omega) | assumption | exact decide_eq_false (by assumption) | exact decide_eq_true (by assumption)
  clear z2 hi
  conv => whnf
  refine callp0 [2, 3] rfl rfl (sess_Feed b rest (by omega) hBq) rfl rfl rfl rfl rfl ?_
  conv => whnf
  have hB : (feedS b rest).ab = a.ab := by rw [feed_ab, hB, ← P0_app, ← hp, hA]
  generalize feedS b rest = b at hB
  have q1 : b.q = a.q := congrArg Rs.L hB
  have q2 : b.inp = a.inp := congrArg Rs.inp hB
  have q3 : b.cl = a.cl := congrArg Rs.cl hB
  have ax : a.xs.length ≤ 64 := by rw [q_len] at hAq; omega
  have bx : b.xs.length ≤ 64 := by have h : b.q.length ≤ 64 := by rw [q1]; exact hAq
                                   rw [q_len] at h; omega
  refine callp0 [0, 1] rfl rfl (sess_Waiting a ax) rfl rfl rfl rfl rfl ?_
  conv => whnf
  refine callp0 [2, 3] rfl rfl (sess_Waiting b bx) rfl rfl rfl rfl rfl ?_
  conv => whnf
  refine ⟨fun c1 => ?_, fun c1 => ?_⟩
  · rw [q1] at c1
    simp at c1
  conv => whnf
  refine callp0 [0, 1] rfl rfl (sess_Closed a) rfl rfl rfl rfl rfl ?_
  conv => whnf
  refine callp0 [2, 3] rfl rfl (sess_Closed b) rfl rfl rfl rfl rfl ?_
  conv => whnf
  refine ⟨fun c2 => ?_, fun c2 => ?_⟩
  · have c2 : (!(a.cl == b.cl)) = true := c2
    rw [q3] at c2
    simp at c2
  conv => whnf
  refine callp0 [0, 1] rfl rfl (sess_Held a) rfl rfl rfl rfl rfl ?_
  conv => whnf
  refine callp0 [2, 3] rfl rfl (sess_Held b) rfl rfl rfl rfl rfl ?_
  conv => whnf
  refine ⟨fun c3 => ?_, fun c3 => ?_⟩
  · rw [q2] at c3
    simp at c3
  conv => whnf
  have ho : a.out = [] := by rw [show a.out = (P0 d).out from congrArg Rs.out hA]; exact (P0_len d).2.2
  refine loop0 (α := Nat × Ss × Ss) (fun p => p.1 ≤ 70 ∧ p.2.2.ab = p.2.1.ab ∧ p.2.1.q.length ≤ 64 - p.1 ∧ p.2.1.out.length ≤ 100 * p.1) (fun p => ⟨[(0, .c (.str d)), (1, .c (.dat Ans.LD cuts)), (5, .c (.ptr 0 0)), (6, .c (.ptr 2 0)), (10, .c (.int .i64 p.1))], hpT p.2.1 p.2.2, 4⟩) (fun p => 70 - p.1) ⟨(0, a, b), ⟨Nat.zero_le _, hB, hAq, by dsimp only; rw [ho]; exact Nat.le_refl _⟩, ?_⟩ ?_
  · (conv => whnf); refine ⟨rfl, ?_, ?_, ?_⟩ <;> (repeat' apply And.intro) <;> first | exact trivial | rfl | exact wr_succ _ (by omega) | assumption | exact decide_eq_false (by assumption) | exact decide_eq_true (by assumption)
  clear hA hAq hB q1 q2 q3 ax bx c1 c2 c3 ho
  rintro ⟨j, a, b⟩ ⟨hj, hB, hq, ho⟩
  dsimp only at hj hB hq ho ⊢
  have q1 : b.q = a.q := congrArg Rs.L hB
  have q4 : b.out = a.out := congrArg Rs.out hB
  have tt : (headS b).there = (headS a).there := by rw [head_thereL, head_thereL, hB]
  have hh : (headS b).ab = (headS a).ab := by rw [head_ab, head_ab, hB]
  conv => whnf
  refine ⟨fun z3 => ?_, fun z3 => ?_⟩
  · have z3 : j < 70 := by rw [decide_eq_true_eq] at z3; omega
    conv => whnf
    refine callp0 [0, 1] rfl rfl (sess_Head a) rfl rfl rfl rfl rfl ?_
    conv => whnf
    refine callp0 [2, 3] rfl rfl (sess_Head b) rfl rfl rfl rfl rfl ?_
    conv => whnf
    rw [head_hd a, head_hd b, q1]
    conv => whnf
    refine callg0 (fun _ => keep_Cmd (a.q.headD MD.df) (a.q.headD MD.df)) rfl ?_
    conv => whnf
    rw [eqm_same]
    refine ⟨fun c4 => ?_, fun c4 => ?_⟩
    · have c4 : (!((headS a).there == (headS b).there) || !true) = true := c4
      rw [tt] at c4
      simp at c4
    have eT := head_thereL a
    have hA := head_ab a
    generalize headS a = a' at tt hh eT hA
    generalize headS b = b' at tt hh
    have x1 : a'.q = a.q := congrArg Rs.L hA
    have x2 : a'.out = a.out := congrArg Rs.out hA
    have x3 : b'.q = a'.q := congrArg Rs.L hh
    have x4 : b'.out = a'.out := congrArg Rs.out hh
    conv => whnf
    refine ⟨fun c5 => ?_, fun c5 => ?_⟩
    · have c5 : a'.there = true := c5
      have hne : ¬ a.q = [] := by
        intro e
        rw [c5, show a.ab.L = a.q from rfl, e] at eT
        cases eT
      have hpos : 0 < a.q.length := List.length_pos_iff.2 hne
      have gd : Ans.goodA (rN j 0) = true := rN_good j 0 (by omega) (by omega) (by decide) (by decide)
      have hw := rN_wf j 0 (lit_ok j (by omega) (by omega)) (by decide)
      obtain ⟨g1, g2, g3, g4, g5⟩ := ans_some (a := a') (r := rN j 0) (by rw [x1]; exact hpos) gd
      obtain ⟨k1, k2, k3, k4, k5⟩ := ans_some (a := b') (r := rN j 0) (by rw [x3, x1]; exact hpos) gd
      have hab : (ansS b' (rN j 0)).1.ab = (ansS a' (rN j 0)).1.ab := by rw [(ans_ab b' _).1, (ans_ab a' _).1, hh]
      have hlen := lenN (j : Int) 0
      conv => whnf
      refine callp0 [0, 1] rfl rfl (sess_AnswerN a' j 0 hw (by rw [x2]; omega)) rfl rfl rfl rfl rfl ?_
      conv => whnf
      rw [g1]
      refine fk rfl ?_
      conv => whnf
      refine callp0 [2, 3] rfl rfl (sess_AnswerN b' j 0 hw (by rw [x4, x2]; omega)) rfl rfl rfl rfl rfl ?_
      conv => whnf
      rw [k1]
      refine fk rfl ?_
      conv => whnf
      refine ⟨(j + 1, (ansS a' (rN j 0)).1, (ansS b' (rN j 0)).1), ⟨⟨by dsimp only; omega, hab, by dsimp only; rw [g3, x1, List.length_tail]; omega, by dsimp only; rw [g5, x2, List.length_append]; omega⟩, by dsimp only; omega⟩, ?_⟩
      (conv => whnf); refine ⟨rfl, ?_, ?_, ?_⟩ <;> (repeat' apply And.intro) <;> first | exact trivial | rfl | exact wr_succ _ (by omega) | assumption | exact decide_eq_false (by assumption) | exact decide_eq_true (by assumption)
    · have c5 : a'.there = false := c5
      have hnil : a.q = [] := by
        rw [c5, show a.ab.L = a.q from rfl] at eT
        simpa using eT.symm
      conv => whnf
      refine ⟨(j + 1, a', b'), ⟨⟨by dsimp only; omega, hh, by dsimp only; rw [x1, hnil]; exact Nat.zero_le _, by dsimp only; rw [x2]; omega⟩, by dsimp only; omega⟩, ?_⟩
      (conv => whnf); refine ⟨rfl, ?_, ?_, ?_⟩ <;> (repeat' apply And.intro) <;> first | exact trivial | rfl | exact wr_succ _ (by omega) | assumption | exact decide_eq_false (by assumption) | exact decide_eq_true (by assumption)
  have z3 : j = 70 := by rw [decide_eq_false_iff_not] at z3; omega
  subst z3
  have hnil : a.q.length = 0 := by omega
  conv => whnf
  refine callp0 [0, 1] rfl rfl (sess_Take a) rfl rfl rfl rfl rfl ?_
  conv => whnf
  refine callp0 [2, 3] rfl rfl (sess_Take b) rfl rfl rfl rfl rfl ?_
  conv => whnf
  refine ⟨fun e1 => ?_, fun e1 => ?_⟩
  · have hx : ({ a with out := [] } : Ss).xs.length ≤ 64 := by
      have : a.xs.length = 0 := by rw [q_len] at hnil; omega
      show a.xs.length ≤ 64
      omega
    conv => whnf
    refine callp0 [0, 1] rfl rfl (sess_Waiting { a with out := [] } hx) rfl rfl rfl rfl rfl ?_
    conv => whnf
    refine callg0 (fun _ => sess_wakes) rfl ?_
    conv => whnf
    rw [show ({ a with out := [] } : Ss).q = a.q from rfl, hnil]
    rfl
  · rw [q4] at e1
    simp at e1
end Go.Proofs.YtmdjonckcapkeaaDoor
