/- The walk of the law SessMany. Own work. -/
import Derived.Test.YtmdjonckcapkeaaDoorPart7
set_option linter.unusedVariables false
set_option maxRecDepth 100000
namespace Go.Proofs.YtmdjonckcapkeaaDoor
open Go Go.RowKit OE

theorem feed13 (L : List MD.T) (o : List UInt8) : feedR ⟨[], L, o, false⟩ [1, 3] = if L.length = 64 then ⟨[], L, o, true⟩ else ⟨[], L ++ [decM [3]], o, false⟩ := by
  have h1 : nextM [1, 3] = ([3], 2, 0) := by rfl
  have e1 : nx1 [1, 3] = [3] := by rfl
  have e2 : nx2 [1, 3] = 2 := by rfl
  have e3 : nx3 [1, 3] = 0 := by rfl
  show run ⟨[1, 3], L, o, false⟩ = _
  rw [run_eq]
  by_cases h : L.length = 64
  · rw [if_pos h, if_pos]
    unfold badR
    rw [e2, e3, decide_eq_true h]
    rfl
  · rw [if_neg h, if_neg]
    · rw [if_neg (by show ¬ nx2 [1, 3] = 0; rw [e2]; decide)]
      have e : takeR ⟨[1, 3], L, o, false⟩ = ⟨[], L ++ [decM [3]], o, false⟩ := by
        unfold takeR
        dsimp only
        rw [e1, e2]
        rfl
      rw [e, run_eq, if_neg, if_pos]
      · rfl
      · unfold badR
        rw [show nx3 ([] : List UInt8) = 0 from rfl, show nx2 ([] : List UInt8) = 0 from rfl]
        simp
    · unfold badR
      rw [e2, e3, decide_eq_false h]
      simp
theorem many_step {a : Ss} {i : Nat} (h1 : a.inp = []) (h2 : a.q.length = min i 64) (h3 : a.cl = decide (64 < i)) (h4 : a.out = []) :
    (feedS a [1, 3]).inp = [] ∧ (feedS a [1, 3]).q.length = min (i + 1) 64 ∧ (feedS a [1, 3]).cl = decide (64 < i + 1) ∧ (feedS a [1, 3]).out = [] := by
  have e := feed_ab a [1, 3]
  have ea : a.ab = ⟨[], a.q, [], a.cl⟩ := by unfold Ss.ab; rw [h1, h4]
  have key : ∃ L c, feedR a.ab [1, 3] = ⟨[], L, [], c⟩ ∧ L.length = min (i + 1) 64 ∧ c = decide (64 < i + 1) := by
    rw [ea]
    by_cases hc : 64 < i
    · rw [h3, decide_eq_true hc]
      exact ⟨a.q, true, rfl, by omega, by rw [decide_eq_true (by omega)]⟩
    · rw [h3, decide_eq_false hc, feed13]
      by_cases hq : a.q.length = 64
      · rw [if_pos hq]
        exact ⟨a.q, true, rfl, by omega, by rw [decide_eq_true (by omega)]⟩
      · rw [if_neg hq]
        exact ⟨_, false, rfl, by rw [List.length_append]; show a.q.length + 1 = _; omega, by rw [decide_eq_false (by omega)]⟩
  obtain ⟨L, c, k1, k2, k3⟩ := key
  rw [k1] at e
  have g1 : (feedS a [1, 3]).inp = [] := congrArg Rs.inp e
  have g2 : (feedS a [1, 3]).q = L := congrArg Rs.L e
  have g3 : (feedS a [1, 3]).cl = c := congrArg Rs.cl e
  have g4 : (feedS a [1, 3]).out = [] := congrArg Rs.out e
  exact ⟨g1, by rw [g2]; exact k2, by rw [g3]; exact k3, g4⟩
theorem ans_some {a : Ss} {r : Ans.AD.T} (h : 0 < a.q.length) (g : Ans.goodA r = true) : (ansS a r).2 = 0 ∧ (ansS a r).1.inp = a.inp ∧ (ansS a r).1.q = a.q.tail ∧ (ansS a r).1.cl = a.cl ∧ (ansS a r).1.out = a.out ++ Num.putT (Ans.encA r) := by
  obtain ⟨e1, e2⟩ := ans_ab a r
  have hn : ¬ a.ab.L = [] := fun e => by
    have : a.q = [] := e
    rw [this] at h
    exact absurd h (by decide)
  unfold ansR at e1 e2
  rw [if_neg hn, if_pos g] at e1 e2
  exact ⟨e2, congrArg Rs.inp e1, congrArg Rs.L e1, congrArg Rs.cl e1, congrArg Rs.out e1⟩
theorem many_end {a : Ss} {i : Nat} (h1 : a.inp = []) (h2 : a.q = []) (h3 : a.cl = decide (64 < i)) :
    (feedS a [1, 3]).q.length = (if 64 < i then 0 else 1) ∧ (feedS a [1, 3]).cl = decide (64 < i) ∧ (feedS a [1, 3]).out = a.out := by
  have e := feed_ab a [1, 3]
  have ea : a.ab = ⟨[], [], a.out, a.cl⟩ := by unfold Ss.ab; rw [h1, h2]
  rw [ea] at e
  by_cases hc : 64 < i
  · rw [h3, decide_eq_true hc] at e
    have e : (feedS a [1, 3]).ab = ⟨[], [], a.out, true⟩ := e
    refine ⟨?_, ?_, congrArg Rs.out e⟩
    · have : (feedS a [1, 3]).q = [] := congrArg Rs.L e
      rw [this, if_pos hc]; rfl
    · rw [decide_eq_true hc]; exact congrArg Rs.cl e
  · rw [h3, decide_eq_false hc, feed13, if_neg (by decide)] at e
    refine ⟨?_, ?_, congrArg Rs.out e⟩
    · have : (feedS a [1, 3]).q = [] ++ [decM [3]] := congrArg Rs.L e
      rw [this, if_neg hc]; rfl
    · rw [decide_eq_false hc]; exact congrArg Rs.cl e
theorem len161 : (Num.putT (Ans.encA (rN 161 0))).length ≤ 100 := by
  have h : Ans.encA (rN 161 0) = Num.putN 161 ++ Num.putN 0 ++ Num.putN 0 ++ Num.putN 0 ++ [] ++ Num.putN 0 ++ [] ++ Num.putN 0 ++ [] ++ (Num.putN 0 ++ []) := by rfl
  have h1 := Num.putN_ten (n := 161) (by decide)
  have h0 := Num.putN_ten (n := 0) (by decide)
  have hl : (Ans.encA (rN 161 0)).length ≤ 70 := by
    rw [h]
    simp only [List.length_append, List.length_nil]
    omega
  have := Num.putN_ten (n := (Ans.encA (rN 161 0)).length) (by omega)
  unfold Num.putT
  rw [List.length_append]
  omega
theorem row_SessMany (n : Int) (hn : (Lit.int .u8 n).wf = true) :
    FnD Tryd.prog 4 [.c (.int .u8 n)] (· = .c (.bool (.sym true))) := by
  have hn2 : 0 ≤ n ∧ n ≤ 255 := by simpa [Lit.wf, IntKind.min, IntKind.max, IntKind.bits, IntKind.signed] using hn
  obtain ⟨N, rfl⟩ := Int.eq_ofNat_of_zero_le hn2.1
  have eK : (IntKind.wrap .i64 ((N : Nat) : Int)).tmod 70 = ((N % 70 : Nat) : Int) := by
    rw [wr64 _ (by omega) (by omega)]
    rfl
  have hK : N % 70 < 70 := Nat.mod_lt _ (by decide)
  refine fn0 Tryd.func4 rfl rfl rfl ?_
  conv => whnf
  refine callp0 [] rfl rfl (sess_New) rfl rfl rfl rfl rfl ?_
  conv => whnf
  refine ⟨by decide, ?_⟩
  conv => whnf
  rw [eK]
  generalize N % 70 = K at hK
  refine loop0 (α := Nat × Ss) (fun p => p.1 ≤ K ∧ p.2.inp = [] ∧ p.2.q.length = min p.1 64 ∧ p.2.cl = decide (64 < p.1) ∧ p.2.out = []) (fun p => ⟨[(3, .c (.ptr 0 0)), (4, .c (.int .i64 K)), (5, .c (.int .i64 p.1))], hpS p.2, 2⟩) (fun p => K - p.1) ⟨(0, S0), ⟨Nat.zero_le _, rfl, rfl, rfl, rfl⟩, ?_⟩ ?_
  · (conv => whnf); refine ⟨rfl, ?_, ?_, ?_⟩ <;> (repeat' apply And.intro) <;> first | exact trivial | rfl | exact wr_succ _ (by omega) | assumption | exact decide_eq_false (by assumption) | exact decide_eq_true (by assumption)
  rintro ⟨i, a⟩ ⟨hi, h1, h2, h3, h4⟩
  dsimp only at hi h1 h2 h3 h4 ⊢
  conv => whnf
  refine ⟨fun z => ?_, fun z => ?_⟩
  · have z : i < K := by rw [decide_eq_true_eq] at z; omega
    conv => whnf
    refine callp0 [0, 1] rfl rfl (sess_Feed a [1, 3] (by rw [h1]; decide) (by omega)) rfl rfl rfl rfl rfl ?_
    conv => whnf
    obtain ⟨g1, g2, g3, g4⟩ := many_step h1 h2 h3 h4
    refine ⟨(i + 1, feedS a [1, 3]), ⟨⟨by dsimp only; omega, g1, g2, g3, g4⟩, by dsimp only; omega⟩, ?_⟩
    (conv => whnf); refine ⟨rfl, ?_, ?_, ?_⟩ <;> (repeat' apply And.intro) <;> first | exact trivial | rfl | exact wr_succ _ (by omega) | assumption | exact decide_eq_false (by assumption) | exact decide_eq_true (by assumption)
  have z : i = K := by rw [decide_eq_false_iff_not] at z; omega
  subst z
  conv => whnf
  have hcl : a.cl = decide ((64 : Int) < (i : Int)) := by
    rw [h3, Bool.eq_iff_iff, decide_eq_true_eq, decide_eq_true_eq]
    omega
  refine callp0 [0, 1] rfl rfl (sess_Closed a) rfl rfl rfl rfl rfl ?_
  conv => whnf
  refine ⟨fun c1 => ?_, fun c1 => ?_⟩
  · have c1 : (!(a.cl == decide ((64 : Int) < (i : Int)))) = true := c1
    rw [← hcl] at c1
    simp at c1
  conv => whnf
  have hxs : a.xs.length ≤ 64 := by rw [q_len] at h2; omega
  refine callp0 [0, 1] rfl rfl (sess_Waiting a hxs) rfl rfl rfl rfl rfl ?_
  conv => whnf
  refine ⟨fun c2 => ?_, fun c2 => ?_⟩
  · have c2 : (!decide ((a.q.length : Int) = if (64 : Int) < (i : Int) then 64 else (i : Int))) = true := c2
    have : (a.q.length : Int) = if (64 : Int) < (i : Int) then 64 else (i : Int) := by split <;> omega
    rw [decide_eq_true this] at c2
    cases c2
  conv => whnf
  generalize hM : min i 64 = M at h2
  have hmin : (if (64 : Int) < (i : Int) then 64 else (i : Int)) = (M : Int) := by split <;> omega
  refine loop0 (α := Nat × Ss) (fun p => p.1 ≤ M ∧ p.2.inp = [] ∧ p.2.q.length + p.1 = M ∧ p.2.cl = decide (64 < i) ∧ p.2.out.length ≤ 100 * p.1) (fun p => ⟨[(3, .c (.ptr 0 0)), (4, .c (.int .i64 i)), (6, .c (.int .i64 p.1))], hpS p.2, 2⟩) (fun p => M - p.1) ⟨(0, a), ⟨Nat.zero_le _, h1, h2, h3, by dsimp only; rw [h4]; exact Nat.le_refl _⟩, ?_⟩ ?_
  · (conv => whnf); refine ⟨rfl, ?_, ?_, ?_⟩ <;> (repeat' apply And.intro) <;> first | exact trivial | rfl | exact wr_succ _ (by omega) | assumption | exact decide_eq_false (by assumption) | exact decide_eq_true (by assumption)
  clear h1 h2 h3 h4 hcl c1 c2 hxs hi
  rintro ⟨j, a⟩ ⟨hj, h1, h2, h3, h4⟩
  dsimp only at hj h1 h2 h3 h4 ⊢
  have gd : Ans.goodA (rN 161 0) = true := rN_good 161 0 (by decide) (by decide) (by decide) (by decide)
  conv => whnf
  rw [hmin]
  refine ⟨fun z => ?_, fun z => ?_⟩
  · have z : j < M := by rw [decide_eq_true_eq] at z; omega
    obtain ⟨g1, g2, g3, g4, g5⟩ := ans_some (a := a) (by omega) gd
    conv => whnf
    refine callp0 [0, 1] rfl rfl (sess_AnswerN a 161 0 (rN_wf 161 0 (by decide) (by decide)) (by omega)) rfl rfl rfl rfl rfl ?_
    conv => whnf
    rw [g1]
    refine fk rfl ?_
    conv => whnf
    refine ⟨(j + 1, (ansS a (rN 161 0)).1), ⟨⟨by dsimp only; omega, by rw [g2]; exact h1, by dsimp only; rw [g3, List.length_tail]; omega, by rw [g4]; exact h3, by dsimp only; rw [g5, List.length_append]; have := len161; omega⟩, by dsimp only; omega⟩, ?_⟩
    (conv => whnf); refine ⟨rfl, ?_, ?_, ?_⟩ <;> (repeat' apply And.intro) <;> first | exact trivial | rfl | exact wr_succ _ (by omega) | assumption | exact decide_eq_false (by assumption) | exact decide_eq_true (by assumption)
  have z : j = M := by rw [decide_eq_false_iff_not] at z; omega
  subst z
  have hq0 : a.q = [] := List.eq_nil_of_length_eq_zero (by omega)
  obtain ⟨f1, f2, f3⟩ := many_end h1 hq0 h3
  conv => whnf
  refine callp0 [0, 1] rfl rfl (sess_Feed a [1, 3] (by rw [h1]; decide) (by omega)) rfl rfl rfl rfl rfl ?_
  conv => whnf
  generalize feedS a [1, 3] = b at f1 f2 f3
  refine callp0 [0, 1] rfl rfl (sess_Head b) rfl rfl rfl rfl rfl ?_
  conv => whnf
  have e1 := head_thereL b
  have e2 : (headS b).cl = b.cl := congrArg Rs.cl (head_ab b)
  have e3 : (headS b).out = b.out := congrArg Rs.out (head_ab b)
  have e4 : (headS b).there = decide ((i : Int) ≤ 64) := by
    rw [e1, show b.ab.L = b.q from rfl, Bool.eq_iff_iff, decide_eq_true_eq, Bool.not_eq_true', decide_eq_false_iff_not]
    constructor
    · intro h
      rcases Nat.lt_or_ge 64 i with h6 | h6
      · rw [if_pos h6] at f1
        exact absurd (List.eq_nil_of_length_eq_zero f1) h
      · omega
    · intro h e
      rw [if_neg (by omega), e] at f1
      cases f1
  generalize headS b = c at e1 e2 e3 e4
  refine callp0 [0, 1] rfl rfl (sess_AnswerN c (-1) 0 (rN_wf (-1) 0 (by decide) (by decide)) (by rw [e3, f3]; omega)) rfl rfl rfl rfl rfl ?_
  conv => whnf
  have e5 : ¬ (ansS c (rN (-1) 0)).2 = 0 := by
    unfold ansS
    rw [rN_bad]
    split
    · exact fun h => by cases h
    · exact fun h => by cases h
  have e6 : (ansS c (rN (-1) 0)).1.cl = decide ((64 : Int) < (i : Int)) := by
    have h := congrArg Rs.cl (ans_ab c (rN (-1) 0)).1
    have h2 : (ansR c.ab (rN (-1) 0)).1.cl = c.cl := by
      unfold ansR
      rw [rN_bad]
      split
      · rfl
      · rfl
    have h : (ansS c (rN (-1) 0)).1.cl = (ansR c.ab (rN (-1) 0)).1.cl := h
    rw [h, h2, e2, f2, Bool.eq_iff_iff, decide_eq_true_eq, decide_eq_true_eq]
    omega
  refine ⟨fun w => ?_, fun w => ?_⟩
  · conv => whnf
    refine callp0 [0, 1] rfl rfl (sess_Closed (ansS c (rN (-1) 0)).1) rfl rfl rfl rfl rfl ?_
    conv => whnf
    refine callg0 (fun _ => sess_wakes) rfl ?_
    conv => whnf
    rw [e6]
    simp
  · have w : ((!decide ((ansS c (rN (-1) 0)).2 = 0)) && (c.there == decide ((i : Int) ≤ 64))) = false := w
    rw [e4, decide_eq_false e5] at w
    simp at w
end Go.Proofs.YtmdjonckcapkeaaDoor
