/- Several texts of the proof, one behind the other; put together by a program of the session (mrg.py). Own work. -/
import Derived.Test.YtdhfipjfgigamaaGreatDoorRows
import Derived.WalkKit
import Derived.ProofKit
import Derived.OpenShut
import Derived.ShutString
import Derived.ChangeOld
import Derived.Below
import Derived.SizedLaws
import Derived.ChangeArms
import Derived.ChangeSame
import Derived.ChangeVars
import Derived.JoinedOf
import Derived.LaidLaws
import Derived.LaidHandle
import Derived.LaidSub
import Derived.Handed
import Derived.KernelRfl
import Derived.Test.YtdhfipjfgigamaaGreatDoorPart8
/- The walks of the reference's props, Tell. Own work. -/
set_option linter.unusedVariables false
set_option maxRecDepth 100000
namespace Go.Proofs.YtdhfipjfgigamaaGreatDoor.Con
open Go Go.RowKit Go.Lib OE

def flW (l : List (List UInt8)) : List UInt8 := l.flatMap fun w => 32 :: w
theorem join_flW : ∀ (a : List UInt8) (l : List (List UInt8)), join (a :: l) [32] = a ++ flW l
  | a, [] => by simp [join, List.intercalate, flW]
  | a, b :: r => by
    have ih := join_flW b r
    have e : join (a :: b :: r) [32] = a ++ 32 :: join (b :: r) [32] := by
      unfold join
      rw [List.intercalate_cons_cons]; simp
    rw [e, ih]
    unfold flW
    rw [List.flatMap_cons]
    simp
theorem flW_app (a b : List (List UInt8)) : flW (a ++ b) = flW a ++ flW b := List.flatMap_append
theorem flW_len : ∀ (l : List (List UInt8)) {B : Nat}, (∀ w ∈ l, w.length ≤ B) → (flW l).length ≤ l.length * (B + 1)
  | [], B, _ => Nat.zero_le _
  | a :: l, B, h => by
    have h1 := h a (List.mem_cons_self ..)
    have h2 := flW_len l (B := B) fun w hw => h w (List.mem_cons_of_mem _ hw)
    unfold flW at h2 ⊢
    rw [List.flatMap_cons, List.length_append, List.length_cons, List.length_cons, Nat.add_mul]
    omega
/-- properties whose values are values -/
def okPv (l : List PD.T) : Prop := okPs l ∧ ∀ p ∈ l, okK p.2
theorem propsW_take (l : List PD.T) (i : Nat) : propsW (l.take i) = (propsW l).take (2 * i) := by
  induction l generalizing i with
  | nil => simp [propsW]
  | cons p l ih =>
    cases i with
    | zero => rfl
    | succ i =>
      show p.1 :: wordV p.2 :: propsW (l.take i) = (p.1 :: wordV p.2 :: propsW l).take (2 * i + 2)
      rw [ih i]; rfl
theorem ref_props (s : List UInt8) (hs : s.length ≤ 1000000) (l : List PD.T) (hl : okPv l) : FnD Tryz.prog 48 [.c (.str s), .c (.dat PD l)] (· = .c (.str (s ++ flW (propsW l)))) := by
  obtain ⟨ho, hk⟩ := hl
  have hin := props_in ho
  obtain ⟨hn, hp⟩ := ho
  refine fn0 Tryz.func48 rfl rfl rfl ?_
  conv => whnf
  refine loop0 (α := Nat) (fun i => i ≤ l.length) (fun i => ⟨[(0, .c (.str (s ++ flW (propsW (l.take i))))), (1, .c (.dat PD l)), (5, .c (.int .i64 i))], [], 0⟩) (fun i => l.length - i) ⟨0, Nat.zero_le _, ?_⟩ ?_
  · have h0 : s ++ flW (propsW (l.take 0)) = s := List.append_nil _
    (conv => whnf); refine ⟨rfl, ?_, ?_, ?_⟩ <;> (repeat' apply And.intro) <;> first | exact trivial | rfl | exact wr_succ _ (by omega) | assumption | exact decide_eq_false (by assumption) | exact decide_eq_true (by assumption)
  intro i hi
  have hfl : (flW (propsW (l.take i))).length ≤ 120 * 10002 := by
    refine Nat.le_trans (flW_len _ (B := 10001) fun w hw => ?_) ?_
    · rw [propsW_take] at hw
      exact hin w (List.mem_of_mem_take hw)
    · rw [propsW_len, List.length_take]
      exact Nat.mul_le_mul_right _ (by omega)
  conv => whnf
  intro _
  conv => whnf
  refine ⟨fun b => ?_, fun b => ?_⟩
  · have b : i < l.length := by have := of_decide_eq_true b; omega
    obtain ⟨p1, p2, p3⟩ := hp _ (List.getElem_mem b)
    have p4 := hk _ (List.getElem_mem b)
    have p5 := wordV_len p2 p3
    have hg : gt (d := PD) l (i : Int) = l[i] := gt_nat (d := PD) l i b
    conv => whnf
    refine any0 ?_
    conv => whnf
    refine ⟨⟨by omega, by omega⟩, ?_⟩
    rw [hg]
    conv => whnf
    have hsp := propsW_app (l.take i) l[i]
    rw [show l.take i ++ [l[i]] = l.take (i + 1) by rw [List.take_add_one, List.getElem?_eq_getElem b]; rfl] at hsp
    have hst : s ++ flW (propsW (l.take (i + 1))) = (s ++ flW (propsW (l.take i))) ++ (([32] ++ l[i].1 ++ [32]) ++ wordV l[i].2) := by
      rw [hsp, flW_app, List.append_assoc]
      congr 1
      simp [flW]
    refine ⟨by simp; omega, ?_⟩
    conv => whnf
    refine ⟨by simp; omega, ?_⟩
    conv => whnf
    refine ⟨⟨by omega, by omega⟩, ?_⟩
    rw [hg]
    conv => whnf
    refine callr0 (ref_Val' l[i].2 p4 p2 (by omega)) rfl ?_
    conv => whnf
    refine ⟨by simp; omega, ?_⟩
    conv => whnf
    refine ⟨by simp; omega, ?_⟩
    conv => whnf
    refine ⟨.inl (by kernel_rfl), after0 ?_⟩
    conv => whnf
    refine ⟨i + 1, ⟨by omega, by omega⟩, ?_⟩
    rw [hst]
    (conv => whnf); refine ⟨rfl, ?_, ?_, ?_⟩ <;> (repeat' apply And.intro) <;> first | exact trivial | rfl | exact wr_succ _ (by omega) | assumption | exact decide_eq_false (by assumption) | exact decide_eq_true (by assumption)
  · have b : i = l.length := by have := of_decide_eq_false b; omega
    subst b
    rw [List.take_of_length_le (Nat.le_refl _)]
    conv => whnf
theorem ref_Tell (r : Ans.AD.T) (h : OkA r) (kn : ∀ n ∈ (r.2.2.2.1 : List ND.T), ∀ p ∈ (n.2.2 : List PD.T), okK p.2) (ke : ∀ e ∈ (r.2.2.2.2.1 : List ED.T), ∀ p ∈ (e.2.2.2.2 : List PD.T), okK p.2) : FnD Tryz.prog 19 [.agg (Ans.ac r)] (· = .c (.dat .str (tellS r))) := by
  obtain ⟨hw, hn, he, hi⟩ := h
  have w1 := wf_i64 hw.1
  have w2 := wf_i64 hw.2.1
  have w3 := wf_i64 hw.2.2.1
  have l2 := tell2_len r
  have l3 : (tell3 r).length ≤ 303 := by unfold tell3; rw [List.length_append, List.length_map]; omega
  have l4 : (tell4 r).length ≤ 603 := by unfold tell4; rw [List.length_append, List.length_map]; omega
  have i2 := itoa_len w2.1 w2.2
  have i3 := itoa_len w3.1 w3.2
  replace hn : (r.2.2.2.1 : List ND.T).length ≤ 300 ∧ ∀ n ∈ (r.2.2.2.1 : List ND.T), n.2.1.length ≤ 1000 ∧ okPs n.2.2 := hn
  refine fn0 Tryz.func19 rfl rfl rfl ?_
  conv => whnf
  refine call1 (ref_dec r.1 w1.1 w1.2) rfl ?_
  conv => whnf
  refine ⟨fun a => ?_, fun a => ?_⟩
  · have a : ¬ (r.2.1 : Int) = 0 := by simpa using a
    have t1 : tell1 r = [itoa r.1] ++ [[105, 100, 32] ++ itoa r.2.1] := by unfold tell1; rw [if_neg a]
    conv => whnf
    refine call1 (ref_dec r.2.1 w2.1 w2.2) rfl ?_
    conv => whnf
    refine ⟨by show 3 + _ ≤ _; omega, ?_⟩
    conv => whnf
    refine ⟨by show (1 + 1) * 16 ≤ 140737488355328; omega, ?_⟩
    conv => whnf
    refine ⟨fun b => ?_, fun b => ?_⟩
    · have b : ¬ (r.2.2.1 : Int) = 0 := by simpa using b
      have t2 : tell2 r ++ ((r.2.2.2.1 : List ND.T).take 0).map tellN = [itoa r.1] ++ [[105, 100, 32] ++ itoa r.2.1] ++ [[114, 117, 108, 101, 32] ++ itoa r.2.2.1] := by unfold tell2; rw [if_neg b, t1]; rfl
      conv => whnf
      refine call1 (ref_dec r.2.2.1 w3.1 w3.2) rfl ?_
      conv => whnf
      refine ⟨by show 5 + _ ≤ _; omega, ?_⟩
      conv => whnf
      refine ⟨by show (2 + 1) * 16 ≤ 140737488355328; omega, ?_⟩
      conv => whnf
      refine loop0 (α := Nat) (fun i => i ≤ (r.2.2.2.1 : List ND.T).length) (fun i => ⟨[(1, .c (.ptr 0 0)), (3, .c (.row 1)), (4, .c (.int .i64 i))], [(0, .cells 52 (Ans.ac r)), (1, .row 9 .str (tell2 r ++ ((r.2.2.2.1 : List ND.T).take i).map tellN))], 2⟩) (fun i => (r.2.2.2.1 : List ND.T).length - i) ⟨0, Nat.zero_le _, ?_⟩ ?_
      · (conv => whnf); refine ⟨rfl, ?_, ?_, ?_⟩ <;> (repeat' apply And.intro) <;> first | exact trivial | rfl | exact wr_succ _ (by omega) | assumption | exact decide_eq_false (by assumption) | exact decide_eq_true (by assumption)
      intro i hj
      conv => whnf
      intro _
      conv => whnf
      refine ⟨fun c => ?_, fun c => ?_⟩
      · have c : i < (r.2.2.2.1 : List ND.T).length := by have := of_decide_eq_true c; omega
        obtain ⟨hn1, hn2⟩ := hn.2 _ (List.getElem_mem c)
        have hnw : Wf ND (r.2.2.2.1 : List ND.T)[i] := hw.2.2.2.1.2 _ (List.getElem_mem c)
        have hg : gt (d := ND) r.2.2.2.1 (i : Int) = (r.2.2.2.1 : List ND.T)[i] := gt_nat (d := ND) r.2.2.2.1 i c
        have hkv := kn _ (List.getElem_mem c)
        generalize hnd : (r.2.2.2.1 : List ND.T)[i] = nd at hn1 hn2 hnw hg hkv
        have hli := itoa_len (wf_i64 hnw.1).1 (wf_i64 hnw.1).2
        have hX : tellN nd = ((([110, 32] ++ itoa nd.1) ++ [32]) ++ nd.2.1) ++ flW (propsW nd.2.2) := by
          unfold tellN
          rw [join_flW]
          simp [flW]
        conv => whnf
        refine any0 ?_
        conv => whnf
        refine ⟨⟨by omega, by omega⟩, ?_⟩
        rw [hg]
        conv => whnf
        refine callr0 (ref_dec nd.1 (wf_i64 hnw.1).1 (wf_i64 hnw.1).2) rfl ?_
        conv => whnf
        refine ⟨by simp; omega, ?_⟩
        conv => whnf
        refine ⟨by simp; omega, ?_⟩
        conv => whnf
        refine ⟨⟨by omega, by omega⟩, ?_⟩
        rw [hg]
        conv => whnf
        refine ⟨by simp; omega, ?_⟩
        conv => whnf
        refine ⟨⟨by omega, by omega⟩, ?_⟩
        rw [hg]
        conv => whnf
        refine callr0 (ref_props ((([110, 32] ++ itoa nd.1) ++ [32]) ++ nd.2.1) (by simp; omega) nd.2.2 ⟨hn2, hkv⟩) rfl ?_
        conv => whnf
        refine ⟨by show ((tell2 r ++ ((r.2.2.2.1 : List ND.T).take i).map tellN).length + 1) * 16 ≤ 140737488355328; rw [List.length_append, List.length_map, List.length_take]; omega, ?_⟩
        conv => whnf
        refine ⟨.inl (by kernel_rfl), after0 ?_⟩
        conv => whnf
        refine ⟨i + 1, ⟨by omega, by omega⟩, ?_⟩
        have hst : tell2 r ++ ((r.2.2.2.1 : List ND.T).take (i + 1)).map tellN = (tell2 r ++ ((r.2.2.2.1 : List ND.T).take i).map tellN) ++ [tellN nd] := by rw [List.take_add_one, List.getElem?_eq_getElem c, hnd]; simp
        rw [hst, hX]
        (conv => whnf); refine ⟨rfl, ?_, ?_, ?_⟩ <;> (repeat' apply And.intro) <;> first | exact trivial | rfl | exact wr_succ _ (by omega) | assumption | exact decide_eq_false (by assumption) | exact decide_eq_true (by assumption)
      have c : i = (r.2.2.2.1 : List ND.T).length := by have := of_decide_eq_false c; omega
      subst c
      have t3 : tell3 r ++ ((r.2.2.2.2.1 : List ED.T).take 0).map tellE = tell2 r ++ ((r.2.2.2.1 : List ND.T).take (r.2.2.2.1 : List ND.T).length).map tellN := by
        rw [List.take_of_length_le (Nat.le_refl _)]; exact List.append_nil _
      conv => whnf
      refine loop0 (α := Nat) (fun i => i ≤ (r.2.2.2.2.1 : List ED.T).length) (fun i => ⟨[(1, .c (.ptr 0 0)), (3, .c (.row 1)), (5, .c (.int .i64 i))], [(0, .cells 52 (Ans.ac r)), (1, .row 9 .str (tell3 r ++ ((r.2.2.2.2.1 : List ED.T).take i).map tellE))], 2⟩) (fun i => (r.2.2.2.2.1 : List ED.T).length - i) ⟨0, Nat.zero_le _, ?_⟩ ?_
      · (conv => whnf); refine ⟨rfl, ?_, ?_, ?_⟩ <;> (repeat' apply And.intro) <;> first | exact trivial | rfl | exact wr_succ _ (by omega) | assumption | exact decide_eq_false (by assumption) | exact decide_eq_true (by assumption)
      intro i hj
      conv => whnf
      intro _
      conv => whnf
      refine ⟨fun c => ?_, fun c => ?_⟩
      · have c : i < (r.2.2.2.2.1 : List ED.T).length := by have := of_decide_eq_true c; omega
        obtain ⟨hn1, hn2⟩ := he.2 _ (List.getElem_mem c)
        have hnw : Wf ED (r.2.2.2.2.1 : List ED.T)[i] := hw.2.2.2.2.1.2 _ (List.getElem_mem c)
        have hg : gt (d := ED) r.2.2.2.2.1 (i : Int) = (r.2.2.2.2.1 : List ED.T)[i] := gt_nat (d := ED) r.2.2.2.2.1 i c
        have hkv := ke _ (List.getElem_mem c)
        generalize hnd : (r.2.2.2.2.1 : List ED.T)[i] = nd at hn1 hn2 hnw hg hkv
        have hl1 := itoa_len (wf_i64 hnw.1).1 (wf_i64 hnw.1).2
        have hl2 := itoa_len (wf_i64 hnw.2.2.1).1 (wf_i64 hnw.2.2.1).2
        have hl3 := itoa_len (wf_i64 hnw.2.2.2.1).1 (wf_i64 hnw.2.2.2.1).2
        have hX : tellE nd = ((((((([101, 32] ++ itoa nd.1) ++ [32]) ++ nd.2.1) ++ [32]) ++ itoa nd.2.2.1) ++ [32]) ++ itoa nd.2.2.2.1) ++ flW (propsW nd.2.2.2.2) := by
          unfold tellE
          rw [join_flW]
          simp [flW]
        conv => whnf
        intro _
        conv => whnf
        refine ⟨⟨by omega, by omega⟩, ?_⟩
        rw [hg]
        conv => whnf
        refine any0 ?_
        conv => whnf
        refine callr0 (ref_dec nd.1 (wf_i64 hnw.1).1 (wf_i64 hnw.1).2) rfl ?_
        conv => whnf
        refine ⟨by simp; omega, ?_⟩
        conv => whnf
        refine ⟨by simp; omega, ?_⟩
        conv => whnf
        refine ⟨by simp; omega, ?_⟩
        conv => whnf
        refine ⟨by simp; omega, ?_⟩
        conv => whnf
        refine callr0 (ref_dec nd.2.2.1 (wf_i64 hnw.2.2.1).1 (wf_i64 hnw.2.2.1).2) rfl ?_
        conv => whnf
        refine ⟨by simp; omega, ?_⟩
        conv => whnf
        refine ⟨by simp; omega, ?_⟩
        conv => whnf
        refine callr0 (ref_dec nd.2.2.2.1 (wf_i64 hnw.2.2.2.1).1 (wf_i64 hnw.2.2.2.1).2) rfl ?_
        conv => whnf
        refine ⟨by simp; omega, ?_⟩
        conv => whnf
        refine callr0 (ref_props ((((((([101, 32] ++ itoa nd.1) ++ [32]) ++ nd.2.1) ++ [32]) ++ itoa nd.2.2.1) ++ [32]) ++ itoa nd.2.2.2.1) (by simp; omega) nd.2.2.2.2 ⟨hn2, hkv⟩) rfl ?_
        conv => whnf
        refine ⟨by show ((tell3 r ++ ((r.2.2.2.2.1 : List ED.T).take i).map tellE).length + 1) * 16 ≤ 140737488355328; rw [List.length_append, List.length_map, List.length_take]; omega, ?_⟩
        conv => whnf
        refine ⟨.inl (by kernel_rfl), after0 ?_⟩
        conv => whnf
        refine ⟨i + 1, ⟨by omega, by omega⟩, ?_⟩
        have hst : tell3 r ++ ((r.2.2.2.2.1 : List ED.T).take (i + 1)).map tellE = (tell3 r ++ ((r.2.2.2.2.1 : List ED.T).take i).map tellE) ++ [tellE nd] := by rw [List.take_add_one, List.getElem?_eq_getElem c, hnd]; simp
        rw [hst, hX]
        (conv => whnf); refine ⟨rfl, ?_, ?_, ?_⟩ <;> (repeat' apply And.intro) <;> first | exact trivial | rfl | exact wr_succ _ (by omega) | assumption | exact decide_eq_false (by assumption) | exact decide_eq_true (by assumption)
      have c : i = (r.2.2.2.2.1 : List ED.T).length := by have := of_decide_eq_false c; omega
      subst c
      rw [show tell3 r ++ ((r.2.2.2.2.1 : List ED.T).take (r.2.2.2.2.1 : List ED.T).length).map tellE = tell4 r by rw [List.take_of_length_le (Nat.le_refl _)]; rfl]
      conv => whnf
      intro _
      conv => whnf
      refine ⟨fun d => ?_, fun d => ?_⟩
      · have d : ¬ (r.2.2.2.2.2.1 : List Int) = [] := by
          intro h
          have := of_decide_eq_true d
          rw [h] at this
          exact absurd this (by decide)
        conv => whnf
        refine loop0 (α := Nat) (fun i => i ≤ (r.2.2.2.2.2.1 : List Int).length) (fun i => ⟨[(1, .c (.ptr 0 0)), (3, .c (.row 1)), (7, .c (.str ([105, 100, 115] ++ flW (((r.2.2.2.2.2.1 : List Int).take i).map itoa)))), (8, .c (.int .i64 i))], [(0, .cells 52 (Ans.ac r)), (1, .row 9 .str (tell4 r))], 2⟩) (fun i => (r.2.2.2.2.2.1 : List Int).length - i) ⟨0, Nat.zero_le _, ?_⟩ ?_
        · (conv => whnf); refine ⟨rfl, ?_, ?_, ?_⟩ <;> (repeat' apply And.intro) <;> first | exact trivial | rfl | exact wr_succ _ (by omega) | assumption | exact decide_eq_false (by assumption) | exact decide_eq_true (by assumption)
        intro i hj2
        have hfl : (flW (((r.2.2.2.2.2.1 : List Int).take i).map itoa)).length ≤ 3000 * 21 := by
          refine Nat.le_trans (flW_len _ (B := 20) fun w hw' => ?_) ?_
          · obtain ⟨n, hn', rfl⟩ := List.mem_map.1 hw'
            have hnw := wf_i64 (hw.2.2.2.2.2.1.2 n (List.mem_of_mem_take hn'))
            exact itoa_len hnw.1 hnw.2
          · rw [List.length_map, List.length_take]
            exact Nat.mul_le_mul_right _ (by omega)
        conv => whnf
        intro _
        conv => whnf
        refine ⟨fun c => ?_, fun c => ?_⟩
        · have c : i < (r.2.2.2.2.2.1 : List Int).length := by have := of_decide_eq_true c; omega
          have hnw := wf_i64 (hw.2.2.2.2.2.1.2 _ (List.getElem_mem c))
          have hg : gt (d := .int .i64) r.2.2.2.2.2.1 (i : Int) = (r.2.2.2.2.2.1 : List Int)[i] := gt_nat (d := .int .i64) r.2.2.2.2.2.1 i c
          generalize hnd : (r.2.2.2.2.2.1 : List Int)[i] = nd at hnw hg
          have hl1 := itoa_len hnw.1 hnw.2
          conv => whnf
          intro _
          conv => whnf
          refine ⟨⟨by omega, by omega⟩, ?_⟩
          rw [hg]
          conv => whnf
          refine call1 (ref_dec nd hnw.1 hnw.2) rfl ?_
          conv => whnf
          refine ⟨by simp [-List.map_take]; omega, ?_⟩
          conv => whnf
          refine ⟨by simp [-List.map_take]; omega, ?_⟩
          conv => whnf
          refine ⟨i + 1, ⟨by omega, by omega⟩, ?_⟩
          have hst : [105, 100, 115] ++ flW (((r.2.2.2.2.2.1 : List Int).take (i + 1)).map itoa) = ([105, 100, 115] ++ flW (((r.2.2.2.2.2.1 : List Int).take i).map itoa)) ++ ([32] ++ itoa nd) := by
            rw [List.take_add_one, List.getElem?_eq_getElem c, hnd, List.map_append, flW_app]; simp [flW]
          rw [hst]
          (conv => whnf); refine ⟨rfl, ?_, ?_, ?_⟩ <;> (repeat' apply And.intro) <;> first | exact trivial | rfl | exact wr_succ _ (by omega) | assumption | exact decide_eq_false (by assumption) | exact decide_eq_true (by assumption)
        have c : i = (r.2.2.2.2.2.1 : List Int).length := by have := of_decide_eq_false c; omega
        subst c
        rw [List.take_of_length_le (Nat.le_refl _)]
        conv => whnf
        refine ⟨by show ((tell4 r).length + 1) * 16 ≤ 140737488355328; omega, ?_⟩
        conv => whnf
        rw [show tellS r = tell4 r ++ [[105, 100, 115] ++ flW ((r.2.2.2.2.2.1 : List Int).map itoa)] by unfold tellS tellI; rw [if_neg d, join_flW]]
      · have d : (r.2.2.2.2.2.1 : List Int) = [] := by
          have := of_decide_eq_false d
          exact List.eq_nil_of_length_eq_zero (by omega)
        conv => whnf
        rw [show tellS r = tell4 r by unfold tellS; rw [if_pos d]; exact List.append_nil _]
    · have b : (r.2.2.1 : Int) = 0 := by simpa using b
      have t2 : tell2 r ++ ((r.2.2.2.1 : List ND.T).take 0).map tellN = [itoa r.1] ++ [[105, 100, 32] ++ itoa r.2.1] := by unfold tell2; rw [if_pos b, t1]; rfl
      conv => whnf
      refine loop0 (α := Nat) (fun i => i ≤ (r.2.2.2.1 : List ND.T).length) (fun i => ⟨[(1, .c (.ptr 0 0)), (3, .c (.row 1)), (4, .c (.int .i64 i))], [(0, .cells 52 (Ans.ac r)), (1, .row 9 .str (tell2 r ++ ((r.2.2.2.1 : List ND.T).take i).map tellN))], 2⟩) (fun i => (r.2.2.2.1 : List ND.T).length - i) ⟨0, Nat.zero_le _, ?_⟩ ?_
      · (conv => whnf); refine ⟨rfl, ?_, ?_, ?_⟩ <;> (repeat' apply And.intro) <;> first | exact trivial | rfl | exact wr_succ _ (by omega) | assumption | exact decide_eq_false (by assumption) | exact decide_eq_true (by assumption)
      intro i hj
      conv => whnf
      intro _
      conv => whnf
      refine ⟨fun c => ?_, fun c => ?_⟩
      · have c : i < (r.2.2.2.1 : List ND.T).length := by have := of_decide_eq_true c; omega
        obtain ⟨hn1, hn2⟩ := hn.2 _ (List.getElem_mem c)
        have hnw : Wf ND (r.2.2.2.1 : List ND.T)[i] := hw.2.2.2.1.2 _ (List.getElem_mem c)
        have hg : gt (d := ND) r.2.2.2.1 (i : Int) = (r.2.2.2.1 : List ND.T)[i] := gt_nat (d := ND) r.2.2.2.1 i c
        have hkv := kn _ (List.getElem_mem c)
        generalize hnd : (r.2.2.2.1 : List ND.T)[i] = nd at hn1 hn2 hnw hg hkv
        have hli := itoa_len (wf_i64 hnw.1).1 (wf_i64 hnw.1).2
        have hX : tellN nd = ((([110, 32] ++ itoa nd.1) ++ [32]) ++ nd.2.1) ++ flW (propsW nd.2.2) := by
          unfold tellN
          rw [join_flW]
          simp [flW]
        conv => whnf
        refine any0 ?_
        conv => whnf
        refine ⟨⟨by omega, by omega⟩, ?_⟩
        rw [hg]
        conv => whnf
        refine callr0 (ref_dec nd.1 (wf_i64 hnw.1).1 (wf_i64 hnw.1).2) rfl ?_
        conv => whnf
        refine ⟨by simp; omega, ?_⟩
        conv => whnf
        refine ⟨by simp; omega, ?_⟩
        conv => whnf
        refine ⟨⟨by omega, by omega⟩, ?_⟩
        rw [hg]
        conv => whnf
        refine ⟨by simp; omega, ?_⟩
        conv => whnf
        refine ⟨⟨by omega, by omega⟩, ?_⟩
        rw [hg]
        conv => whnf
        refine callr0 (ref_props ((([110, 32] ++ itoa nd.1) ++ [32]) ++ nd.2.1) (by simp; omega) nd.2.2 ⟨hn2, hkv⟩) rfl ?_
        conv => whnf
        refine ⟨by show ((tell2 r ++ ((r.2.2.2.1 : List ND.T).take i).map tellN).length + 1) * 16 ≤ 140737488355328; rw [List.length_append, List.length_map, List.length_take]; omega, ?_⟩
        conv => whnf
        refine ⟨.inl (by kernel_rfl), after0 ?_⟩
        conv => whnf
        refine ⟨i + 1, ⟨by omega, by omega⟩, ?_⟩
        have hst : tell2 r ++ ((r.2.2.2.1 : List ND.T).take (i + 1)).map tellN = (tell2 r ++ ((r.2.2.2.1 : List ND.T).take i).map tellN) ++ [tellN nd] := by rw [List.take_add_one, List.getElem?_eq_getElem c, hnd]; simp
        rw [hst, hX]
        (conv => whnf); refine ⟨rfl, ?_, ?_, ?_⟩ <;> (repeat' apply And.intro) <;> first | exact trivial | rfl | exact wr_succ _ (by omega) | assumption | exact decide_eq_false (by assumption) | exact decide_eq_true (by assumption)
      have c : i = (r.2.2.2.1 : List ND.T).length := by have := of_decide_eq_false c; omega
      subst c
      have t3 : tell3 r ++ ((r.2.2.2.2.1 : List ED.T).take 0).map tellE = tell2 r ++ ((r.2.2.2.1 : List ND.T).take (r.2.2.2.1 : List ND.T).length).map tellN := by
        rw [List.take_of_length_le (Nat.le_refl _)]; exact List.append_nil _
      conv => whnf
      refine loop0 (α := Nat) (fun i => i ≤ (r.2.2.2.2.1 : List ED.T).length) (fun i => ⟨[(1, .c (.ptr 0 0)), (3, .c (.row 1)), (5, .c (.int .i64 i))], [(0, .cells 52 (Ans.ac r)), (1, .row 9 .str (tell3 r ++ ((r.2.2.2.2.1 : List ED.T).take i).map tellE))], 2⟩) (fun i => (r.2.2.2.2.1 : List ED.T).length - i) ⟨0, Nat.zero_le _, ?_⟩ ?_
      · (conv => whnf); refine ⟨rfl, ?_, ?_, ?_⟩ <;> (repeat' apply And.intro) <;> first | exact trivial | rfl | exact wr_succ _ (by omega) | assumption | exact decide_eq_false (by assumption) | exact decide_eq_true (by assumption)
      intro i hj
      conv => whnf
      intro _
      conv => whnf
      refine ⟨fun c => ?_, fun c => ?_⟩
      · have c : i < (r.2.2.2.2.1 : List ED.T).length := by have := of_decide_eq_true c; omega
        obtain ⟨hn1, hn2⟩ := he.2 _ (List.getElem_mem c)
        have hnw : Wf ED (r.2.2.2.2.1 : List ED.T)[i] := hw.2.2.2.2.1.2 _ (List.getElem_mem c)
        have hg : gt (d := ED) r.2.2.2.2.1 (i : Int) = (r.2.2.2.2.1 : List ED.T)[i] := gt_nat (d := ED) r.2.2.2.2.1 i c
        have hkv := ke _ (List.getElem_mem c)
        generalize hnd : (r.2.2.2.2.1 : List ED.T)[i] = nd at hn1 hn2 hnw hg hkv
        have hl1 := itoa_len (wf_i64 hnw.1).1 (wf_i64 hnw.1).2
        have hl2 := itoa_len (wf_i64 hnw.2.2.1).1 (wf_i64 hnw.2.2.1).2
        have hl3 := itoa_len (wf_i64 hnw.2.2.2.1).1 (wf_i64 hnw.2.2.2.1).2
        have hX : tellE nd = ((((((([101, 32] ++ itoa nd.1) ++ [32]) ++ nd.2.1) ++ [32]) ++ itoa nd.2.2.1) ++ [32]) ++ itoa nd.2.2.2.1) ++ flW (propsW nd.2.2.2.2) := by
          unfold tellE
          rw [join_flW]
          simp [flW]
        conv => whnf
        intro _
        conv => whnf
        refine ⟨⟨by omega, by omega⟩, ?_⟩
        rw [hg]
        conv => whnf
        refine any0 ?_
        conv => whnf
        refine callr0 (ref_dec nd.1 (wf_i64 hnw.1).1 (wf_i64 hnw.1).2) rfl ?_
        conv => whnf
        refine ⟨by simp; omega, ?_⟩
        conv => whnf
        refine ⟨by simp; omega, ?_⟩
        conv => whnf
        refine ⟨by simp; omega, ?_⟩
        conv => whnf
        refine ⟨by simp; omega, ?_⟩
        conv => whnf
        refine callr0 (ref_dec nd.2.2.1 (wf_i64 hnw.2.2.1).1 (wf_i64 hnw.2.2.1).2) rfl ?_
        conv => whnf
        refine ⟨by simp; omega, ?_⟩
        conv => whnf
        refine ⟨by simp; omega, ?_⟩
        conv => whnf
        refine callr0 (ref_dec nd.2.2.2.1 (wf_i64 hnw.2.2.2.1).1 (wf_i64 hnw.2.2.2.1).2) rfl ?_
        conv => whnf
        refine ⟨by simp; omega, ?_⟩
        conv => whnf
        refine callr0 (ref_props ((((((([101, 32] ++ itoa nd.1) ++ [32]) ++ nd.2.1) ++ [32]) ++ itoa nd.2.2.1) ++ [32]) ++ itoa nd.2.2.2.1) (by simp; omega) nd.2.2.2.2 ⟨hn2, hkv⟩) rfl ?_
        conv => whnf
        refine ⟨by show ((tell3 r ++ ((r.2.2.2.2.1 : List ED.T).take i).map tellE).length + 1) * 16 ≤ 140737488355328; rw [List.length_append, List.length_map, List.length_take]; omega, ?_⟩
        conv => whnf
        refine ⟨.inl (by kernel_rfl), after0 ?_⟩
        conv => whnf
        refine ⟨i + 1, ⟨by omega, by omega⟩, ?_⟩
        have hst : tell3 r ++ ((r.2.2.2.2.1 : List ED.T).take (i + 1)).map tellE = (tell3 r ++ ((r.2.2.2.2.1 : List ED.T).take i).map tellE) ++ [tellE nd] := by rw [List.take_add_one, List.getElem?_eq_getElem c, hnd]; simp
        rw [hst, hX]
        (conv => whnf); refine ⟨rfl, ?_, ?_, ?_⟩ <;> (repeat' apply And.intro) <;> first | exact trivial | rfl | exact wr_succ _ (by omega) | assumption | exact decide_eq_false (by assumption) | exact decide_eq_true (by assumption)
      have c : i = (r.2.2.2.2.1 : List ED.T).length := by have := of_decide_eq_false c; omega
      subst c
      rw [show tell3 r ++ ((r.2.2.2.2.1 : List ED.T).take (r.2.2.2.2.1 : List ED.T).length).map tellE = tell4 r by rw [List.take_of_length_le (Nat.le_refl _)]; rfl]
      conv => whnf
      intro _
      conv => whnf
      refine ⟨fun d => ?_, fun d => ?_⟩
      · have d : ¬ (r.2.2.2.2.2.1 : List Int) = [] := by
          intro h
          have := of_decide_eq_true d
          rw [h] at this
          exact absurd this (by decide)
        conv => whnf
        refine loop0 (α := Nat) (fun i => i ≤ (r.2.2.2.2.2.1 : List Int).length) (fun i => ⟨[(1, .c (.ptr 0 0)), (3, .c (.row 1)), (7, .c (.str ([105, 100, 115] ++ flW (((r.2.2.2.2.2.1 : List Int).take i).map itoa)))), (8, .c (.int .i64 i))], [(0, .cells 52 (Ans.ac r)), (1, .row 9 .str (tell4 r))], 2⟩) (fun i => (r.2.2.2.2.2.1 : List Int).length - i) ⟨0, Nat.zero_le _, ?_⟩ ?_
        · (conv => whnf); refine ⟨rfl, ?_, ?_, ?_⟩ <;> (repeat' apply And.intro) <;> first | exact trivial | rfl | exact wr_succ _ (by omega) | assumption | exact decide_eq_false (by assumption) | exact decide_eq_true (by assumption)
        intro i hj2
        have hfl : (flW (((r.2.2.2.2.2.1 : List Int).take i).map itoa)).length ≤ 3000 * 21 := by
          refine Nat.le_trans (flW_len _ (B := 20) fun w hw' => ?_) ?_
          · obtain ⟨n, hn', rfl⟩ := List.mem_map.1 hw'
            have hnw := wf_i64 (hw.2.2.2.2.2.1.2 n (List.mem_of_mem_take hn'))
            exact itoa_len hnw.1 hnw.2
          · rw [List.length_map, List.length_take]
            exact Nat.mul_le_mul_right _ (by omega)
        conv => whnf
        intro _
        conv => whnf
        refine ⟨fun c => ?_, fun c => ?_⟩
        · have c : i < (r.2.2.2.2.2.1 : List Int).length := by have := of_decide_eq_true c; omega
          have hnw := wf_i64 (hw.2.2.2.2.2.1.2 _ (List.getElem_mem c))
          have hg : gt (d := .int .i64) r.2.2.2.2.2.1 (i : Int) = (r.2.2.2.2.2.1 : List Int)[i] := gt_nat (d := .int .i64) r.2.2.2.2.2.1 i c
          generalize hnd : (r.2.2.2.2.2.1 : List Int)[i] = nd at hnw hg
          have hl1 := itoa_len hnw.1 hnw.2
          conv => whnf
          intro _
          conv => whnf
          refine ⟨⟨by omega, by omega⟩, ?_⟩
          rw [hg]
          conv => whnf
          refine call1 (ref_dec nd hnw.1 hnw.2) rfl ?_
          conv => whnf
          refine ⟨by simp [-List.map_take]; omega, ?_⟩
          conv => whnf
          refine ⟨by simp [-List.map_take]; omega, ?_⟩
          conv => whnf
          refine ⟨i + 1, ⟨by omega, by omega⟩, ?_⟩
          have hst : [105, 100, 115] ++ flW (((r.2.2.2.2.2.1 : List Int).take (i + 1)).map itoa) = ([105, 100, 115] ++ flW (((r.2.2.2.2.2.1 : List Int).take i).map itoa)) ++ ([32] ++ itoa nd) := by
            rw [List.take_add_one, List.getElem?_eq_getElem c, hnd, List.map_append, flW_app]; simp [flW]
          rw [hst]
          (conv => whnf); refine ⟨rfl, ?_, ?_, ?_⟩ <;> (repeat' apply And.intro) <;> first | exact trivial | rfl | exact wr_succ _ (by omega) | assumption | exact decide_eq_false (by assumption) | exact decide_eq_true (by assumption)
        have c : i = (r.2.2.2.2.2.1 : List Int).length := by have := of_decide_eq_false c; omega
        subst c
        rw [List.take_of_length_le (Nat.le_refl _)]
        conv => whnf
        refine ⟨by show ((tell4 r).length + 1) * 16 ≤ 140737488355328; omega, ?_⟩
        conv => whnf
        rw [show tellS r = tell4 r ++ [[105, 100, 115] ++ flW ((r.2.2.2.2.2.1 : List Int).map itoa)] by unfold tellS tellI; rw [if_neg d, join_flW]]
      · have d : (r.2.2.2.2.2.1 : List Int) = [] := by
          have := of_decide_eq_false d
          exact List.eq_nil_of_length_eq_zero (by omega)
        conv => whnf
        rw [show tellS r = tell4 r by unfold tellS; rw [if_pos d]; exact List.append_nil _]
  · have a : (r.2.1 : Int) = 0 := by simpa using a
    have t1 : tell1 r = [itoa r.1] := by unfold tell1; rw [if_pos a]; rfl
    conv => whnf
    refine ⟨fun b => ?_, fun b => ?_⟩
    · have b : ¬ (r.2.2.1 : Int) = 0 := by simpa using b
      have t2 : tell2 r ++ ((r.2.2.2.1 : List ND.T).take 0).map tellN = [itoa r.1] ++ [[114, 117, 108, 101, 32] ++ itoa r.2.2.1] := by unfold tell2; rw [if_neg b, t1]; rfl
      conv => whnf
      refine call1 (ref_dec r.2.2.1 w3.1 w3.2) rfl ?_
      conv => whnf
      refine ⟨by show 5 + _ ≤ _; omega, ?_⟩
      conv => whnf
      refine ⟨by show (1 + 1) * 16 ≤ 140737488355328; omega, ?_⟩
      conv => whnf
      refine loop0 (α := Nat) (fun i => i ≤ (r.2.2.2.1 : List ND.T).length) (fun i => ⟨[(1, .c (.ptr 0 0)), (3, .c (.row 1)), (4, .c (.int .i64 i))], [(0, .cells 52 (Ans.ac r)), (1, .row 9 .str (tell2 r ++ ((r.2.2.2.1 : List ND.T).take i).map tellN))], 2⟩) (fun i => (r.2.2.2.1 : List ND.T).length - i) ⟨0, Nat.zero_le _, ?_⟩ ?_
      · (conv => whnf); refine ⟨rfl, ?_, ?_, ?_⟩ <;> (repeat' apply And.intro) <;> first | exact trivial | rfl | exact wr_succ _ (by omega) | assumption | exact decide_eq_false (by assumption) | exact decide_eq_true (by assumption)
      intro i hj
      conv => whnf
      intro _
      conv => whnf
      refine ⟨fun c => ?_, fun c => ?_⟩
      · have c : i < (r.2.2.2.1 : List ND.T).length := by have := of_decide_eq_true c; omega
        obtain ⟨hn1, hn2⟩ := hn.2 _ (List.getElem_mem c)
        have hnw : Wf ND (r.2.2.2.1 : List ND.T)[i] := hw.2.2.2.1.2 _ (List.getElem_mem c)
        have hg : gt (d := ND) r.2.2.2.1 (i : Int) = (r.2.2.2.1 : List ND.T)[i] := gt_nat (d := ND) r.2.2.2.1 i c
        have hkv := kn _ (List.getElem_mem c)
        generalize hnd : (r.2.2.2.1 : List ND.T)[i] = nd at hn1 hn2 hnw hg hkv
        have hli := itoa_len (wf_i64 hnw.1).1 (wf_i64 hnw.1).2
        have hX : tellN nd = ((([110, 32] ++ itoa nd.1) ++ [32]) ++ nd.2.1) ++ flW (propsW nd.2.2) := by
          unfold tellN
          rw [join_flW]
          simp [flW]
        conv => whnf
        refine any0 ?_
        conv => whnf
        refine ⟨⟨by omega, by omega⟩, ?_⟩
        rw [hg]
        conv => whnf
        refine callr0 (ref_dec nd.1 (wf_i64 hnw.1).1 (wf_i64 hnw.1).2) rfl ?_
        conv => whnf
        refine ⟨by simp; omega, ?_⟩
        conv => whnf
        refine ⟨by simp; omega, ?_⟩
        conv => whnf
        refine ⟨⟨by omega, by omega⟩, ?_⟩
        rw [hg]
        conv => whnf
        refine ⟨by simp; omega, ?_⟩
        conv => whnf
        refine ⟨⟨by omega, by omega⟩, ?_⟩
        rw [hg]
        conv => whnf
        refine callr0 (ref_props ((([110, 32] ++ itoa nd.1) ++ [32]) ++ nd.2.1) (by simp; omega) nd.2.2 ⟨hn2, hkv⟩) rfl ?_
        conv => whnf
        refine ⟨by show ((tell2 r ++ ((r.2.2.2.1 : List ND.T).take i).map tellN).length + 1) * 16 ≤ 140737488355328; rw [List.length_append, List.length_map, List.length_take]; omega, ?_⟩
        conv => whnf
        refine ⟨.inl (by kernel_rfl), after0 ?_⟩
        conv => whnf
        refine ⟨i + 1, ⟨by omega, by omega⟩, ?_⟩
        have hst : tell2 r ++ ((r.2.2.2.1 : List ND.T).take (i + 1)).map tellN = (tell2 r ++ ((r.2.2.2.1 : List ND.T).take i).map tellN) ++ [tellN nd] := by rw [List.take_add_one, List.getElem?_eq_getElem c, hnd]; simp
        rw [hst, hX]
        (conv => whnf); refine ⟨rfl, ?_, ?_, ?_⟩ <;> (repeat' apply And.intro) <;> first | exact trivial | rfl | exact wr_succ _ (by omega) | assumption | exact decide_eq_false (by assumption) | exact decide_eq_true (by assumption)
      have c : i = (r.2.2.2.1 : List ND.T).length := by have := of_decide_eq_false c; omega
      subst c
      have t3 : tell3 r ++ ((r.2.2.2.2.1 : List ED.T).take 0).map tellE = tell2 r ++ ((r.2.2.2.1 : List ND.T).take (r.2.2.2.1 : List ND.T).length).map tellN := by
        rw [List.take_of_length_le (Nat.le_refl _)]; exact List.append_nil _
      conv => whnf
      refine loop0 (α := Nat) (fun i => i ≤ (r.2.2.2.2.1 : List ED.T).length) (fun i => ⟨[(1, .c (.ptr 0 0)), (3, .c (.row 1)), (5, .c (.int .i64 i))], [(0, .cells 52 (Ans.ac r)), (1, .row 9 .str (tell3 r ++ ((r.2.2.2.2.1 : List ED.T).take i).map tellE))], 2⟩) (fun i => (r.2.2.2.2.1 : List ED.T).length - i) ⟨0, Nat.zero_le _, ?_⟩ ?_
      · (conv => whnf); refine ⟨rfl, ?_, ?_, ?_⟩ <;> (repeat' apply And.intro) <;> first | exact trivial | rfl | exact wr_succ _ (by omega) | assumption | exact decide_eq_false (by assumption) | exact decide_eq_true (by assumption)
      intro i hj
      conv => whnf
      intro _
      conv => whnf
      refine ⟨fun c => ?_, fun c => ?_⟩
      · have c : i < (r.2.2.2.2.1 : List ED.T).length := by have := of_decide_eq_true c; omega
        obtain ⟨hn1, hn2⟩ := he.2 _ (List.getElem_mem c)
        have hnw : Wf ED (r.2.2.2.2.1 : List ED.T)[i] := hw.2.2.2.2.1.2 _ (List.getElem_mem c)
        have hg : gt (d := ED) r.2.2.2.2.1 (i : Int) = (r.2.2.2.2.1 : List ED.T)[i] := gt_nat (d := ED) r.2.2.2.2.1 i c
        have hkv := ke _ (List.getElem_mem c)
        generalize hnd : (r.2.2.2.2.1 : List ED.T)[i] = nd at hn1 hn2 hnw hg hkv
        have hl1 := itoa_len (wf_i64 hnw.1).1 (wf_i64 hnw.1).2
        have hl2 := itoa_len (wf_i64 hnw.2.2.1).1 (wf_i64 hnw.2.2.1).2
        have hl3 := itoa_len (wf_i64 hnw.2.2.2.1).1 (wf_i64 hnw.2.2.2.1).2
        have hX : tellE nd = ((((((([101, 32] ++ itoa nd.1) ++ [32]) ++ nd.2.1) ++ [32]) ++ itoa nd.2.2.1) ++ [32]) ++ itoa nd.2.2.2.1) ++ flW (propsW nd.2.2.2.2) := by
          unfold tellE
          rw [join_flW]
          simp [flW]
        conv => whnf
        intro _
        conv => whnf
        refine ⟨⟨by omega, by omega⟩, ?_⟩
        rw [hg]
        conv => whnf
        refine any0 ?_
        conv => whnf
        refine callr0 (ref_dec nd.1 (wf_i64 hnw.1).1 (wf_i64 hnw.1).2) rfl ?_
        conv => whnf
        refine ⟨by simp; omega, ?_⟩
        conv => whnf
        refine ⟨by simp; omega, ?_⟩
        conv => whnf
        refine ⟨by simp; omega, ?_⟩
        conv => whnf
        refine ⟨by simp; omega, ?_⟩
        conv => whnf
        refine callr0 (ref_dec nd.2.2.1 (wf_i64 hnw.2.2.1).1 (wf_i64 hnw.2.2.1).2) rfl ?_
        conv => whnf
        refine ⟨by simp; omega, ?_⟩
        conv => whnf
        refine ⟨by simp; omega, ?_⟩
        conv => whnf
        refine callr0 (ref_dec nd.2.2.2.1 (wf_i64 hnw.2.2.2.1).1 (wf_i64 hnw.2.2.2.1).2) rfl ?_
        conv => whnf
        refine ⟨by simp; omega, ?_⟩
        conv => whnf
        refine callr0 (ref_props ((((((([101, 32] ++ itoa nd.1) ++ [32]) ++ nd.2.1) ++ [32]) ++ itoa nd.2.2.1) ++ [32]) ++ itoa nd.2.2.2.1) (by simp; omega) nd.2.2.2.2 ⟨hn2, hkv⟩) rfl ?_
        conv => whnf
        refine ⟨by show ((tell3 r ++ ((r.2.2.2.2.1 : List ED.T).take i).map tellE).length + 1) * 16 ≤ 140737488355328; rw [List.length_append, List.length_map, List.length_take]; omega, ?_⟩
        conv => whnf
        refine ⟨.inl (by kernel_rfl), after0 ?_⟩
        conv => whnf
        refine ⟨i + 1, ⟨by omega, by omega⟩, ?_⟩
        have hst : tell3 r ++ ((r.2.2.2.2.1 : List ED.T).take (i + 1)).map tellE = (tell3 r ++ ((r.2.2.2.2.1 : List ED.T).take i).map tellE) ++ [tellE nd] := by rw [List.take_add_one, List.getElem?_eq_getElem c, hnd]; simp
        rw [hst, hX]
        (conv => whnf); refine ⟨rfl, ?_, ?_, ?_⟩ <;> (repeat' apply And.intro) <;> first | exact trivial | rfl | exact wr_succ _ (by omega) | assumption | exact decide_eq_false (by assumption) | exact decide_eq_true (by assumption)
      have c : i = (r.2.2.2.2.1 : List ED.T).length := by have := of_decide_eq_false c; omega
      subst c
      rw [show tell3 r ++ ((r.2.2.2.2.1 : List ED.T).take (r.2.2.2.2.1 : List ED.T).length).map tellE = tell4 r by rw [List.take_of_length_le (Nat.le_refl _)]; rfl]
      conv => whnf
      intro _
      conv => whnf
      refine ⟨fun d => ?_, fun d => ?_⟩
      · have d : ¬ (r.2.2.2.2.2.1 : List Int) = [] := by
          intro h
          have := of_decide_eq_true d
          rw [h] at this
          exact absurd this (by decide)
        conv => whnf
        refine loop0 (α := Nat) (fun i => i ≤ (r.2.2.2.2.2.1 : List Int).length) (fun i => ⟨[(1, .c (.ptr 0 0)), (3, .c (.row 1)), (7, .c (.str ([105, 100, 115] ++ flW (((r.2.2.2.2.2.1 : List Int).take i).map itoa)))), (8, .c (.int .i64 i))], [(0, .cells 52 (Ans.ac r)), (1, .row 9 .str (tell4 r))], 2⟩) (fun i => (r.2.2.2.2.2.1 : List Int).length - i) ⟨0, Nat.zero_le _, ?_⟩ ?_
        · (conv => whnf); refine ⟨rfl, ?_, ?_, ?_⟩ <;> (repeat' apply And.intro) <;> first | exact trivial | rfl | exact wr_succ _ (by omega) | assumption | exact decide_eq_false (by assumption) | exact decide_eq_true (by assumption)
        intro i hj2
        have hfl : (flW (((r.2.2.2.2.2.1 : List Int).take i).map itoa)).length ≤ 3000 * 21 := by
          refine Nat.le_trans (flW_len _ (B := 20) fun w hw' => ?_) ?_
          · obtain ⟨n, hn', rfl⟩ := List.mem_map.1 hw'
            have hnw := wf_i64 (hw.2.2.2.2.2.1.2 n (List.mem_of_mem_take hn'))
            exact itoa_len hnw.1 hnw.2
          · rw [List.length_map, List.length_take]
            exact Nat.mul_le_mul_right _ (by omega)
        conv => whnf
        intro _
        conv => whnf
        refine ⟨fun c => ?_, fun c => ?_⟩
        · have c : i < (r.2.2.2.2.2.1 : List Int).length := by have := of_decide_eq_true c; omega
          have hnw := wf_i64 (hw.2.2.2.2.2.1.2 _ (List.getElem_mem c))
          have hg : gt (d := .int .i64) r.2.2.2.2.2.1 (i : Int) = (r.2.2.2.2.2.1 : List Int)[i] := gt_nat (d := .int .i64) r.2.2.2.2.2.1 i c
          generalize hnd : (r.2.2.2.2.2.1 : List Int)[i] = nd at hnw hg
          have hl1 := itoa_len hnw.1 hnw.2
          conv => whnf
          intro _
          conv => whnf
          refine ⟨⟨by omega, by omega⟩, ?_⟩
          rw [hg]
          conv => whnf
          refine call1 (ref_dec nd hnw.1 hnw.2) rfl ?_
          conv => whnf
          refine ⟨by simp [-List.map_take]; omega, ?_⟩
          conv => whnf
          refine ⟨by simp [-List.map_take]; omega, ?_⟩
          conv => whnf
          refine ⟨i + 1, ⟨by omega, by omega⟩, ?_⟩
          have hst : [105, 100, 115] ++ flW (((r.2.2.2.2.2.1 : List Int).take (i + 1)).map itoa) = ([105, 100, 115] ++ flW (((r.2.2.2.2.2.1 : List Int).take i).map itoa)) ++ ([32] ++ itoa nd) := by
            rw [List.take_add_one, List.getElem?_eq_getElem c, hnd, List.map_append, flW_app]; simp [flW]
          rw [hst]
          (conv => whnf); refine ⟨rfl, ?_, ?_, ?_⟩ <;> (repeat' apply And.intro) <;> first | exact trivial | rfl | exact wr_succ _ (by omega) | assumption | exact decide_eq_false (by assumption) | exact decide_eq_true (by assumption)
        have c : i = (r.2.2.2.2.2.1 : List Int).length := by have := of_decide_eq_false c; omega
        subst c
        rw [List.take_of_length_le (Nat.le_refl _)]
        conv => whnf
        refine ⟨by show ((tell4 r).length + 1) * 16 ≤ 140737488355328; omega, ?_⟩
        conv => whnf
        rw [show tellS r = tell4 r ++ [[105, 100, 115] ++ flW ((r.2.2.2.2.2.1 : List Int).map itoa)] by unfold tellS tellI; rw [if_neg d, join_flW]]
      · have d : (r.2.2.2.2.2.1 : List Int) = [] := by
          have := of_decide_eq_false d
          exact List.eq_nil_of_length_eq_zero (by omega)
        conv => whnf
        rw [show tellS r = tell4 r by unfold tellS; rw [if_pos d]; exact List.append_nil _]
    · have b : (r.2.2.1 : Int) = 0 := by simpa using b
      have t2 : tell2 r ++ ((r.2.2.2.1 : List ND.T).take 0).map tellN = [itoa r.1] := by unfold tell2; rw [if_pos b, t1]; rfl
      conv => whnf
      refine loop0 (α := Nat) (fun i => i ≤ (r.2.2.2.1 : List ND.T).length) (fun i => ⟨[(1, .c (.ptr 0 0)), (3, .c (.row 1)), (4, .c (.int .i64 i))], [(0, .cells 52 (Ans.ac r)), (1, .row 9 .str (tell2 r ++ ((r.2.2.2.1 : List ND.T).take i).map tellN))], 2⟩) (fun i => (r.2.2.2.1 : List ND.T).length - i) ⟨0, Nat.zero_le _, ?_⟩ ?_
      · (conv => whnf); refine ⟨rfl, ?_, ?_, ?_⟩ <;> (repeat' apply And.intro) <;> first | exact trivial | rfl | exact wr_succ _ (by omega) | assumption | exact decide_eq_false (by assumption) | exact decide_eq_true (by assumption)
      intro i hj
      conv => whnf
      intro _
      conv => whnf
      refine ⟨fun c => ?_, fun c => ?_⟩
      · have c : i < (r.2.2.2.1 : List ND.T).length := by have := of_decide_eq_true c; omega
        obtain ⟨hn1, hn2⟩ := hn.2 _ (List.getElem_mem c)
        have hnw : Wf ND (r.2.2.2.1 : List ND.T)[i] := hw.2.2.2.1.2 _ (List.getElem_mem c)
        have hg : gt (d := ND) r.2.2.2.1 (i : Int) = (r.2.2.2.1 : List ND.T)[i] := gt_nat (d := ND) r.2.2.2.1 i c
        have hkv := kn _ (List.getElem_mem c)
        generalize hnd : (r.2.2.2.1 : List ND.T)[i] = nd at hn1 hn2 hnw hg hkv
        have hli := itoa_len (wf_i64 hnw.1).1 (wf_i64 hnw.1).2
        have hX : tellN nd = ((([110, 32] ++ itoa nd.1) ++ [32]) ++ nd.2.1) ++ flW (propsW nd.2.2) := by
          unfold tellN
          rw [join_flW]
          simp [flW]
        conv => whnf
        refine any0 ?_
        conv => whnf
        refine ⟨⟨by omega, by omega⟩, ?_⟩
        rw [hg]
        conv => whnf
        refine callr0 (ref_dec nd.1 (wf_i64 hnw.1).1 (wf_i64 hnw.1).2) rfl ?_
        conv => whnf
        refine ⟨by simp; omega, ?_⟩
        conv => whnf
        refine ⟨by simp; omega, ?_⟩
        conv => whnf
        refine ⟨⟨by omega, by omega⟩, ?_⟩
        rw [hg]
        conv => whnf
        refine ⟨by simp; omega, ?_⟩
        conv => whnf
        refine ⟨⟨by omega, by omega⟩, ?_⟩
        rw [hg]
        conv => whnf
        refine callr0 (ref_props ((([110, 32] ++ itoa nd.1) ++ [32]) ++ nd.2.1) (by simp; omega) nd.2.2 ⟨hn2, hkv⟩) rfl ?_
        conv => whnf
        refine ⟨by show ((tell2 r ++ ((r.2.2.2.1 : List ND.T).take i).map tellN).length + 1) * 16 ≤ 140737488355328; rw [List.length_append, List.length_map, List.length_take]; omega, ?_⟩
        conv => whnf
        refine ⟨.inl (by kernel_rfl), after0 ?_⟩
        conv => whnf
        refine ⟨i + 1, ⟨by omega, by omega⟩, ?_⟩
        have hst : tell2 r ++ ((r.2.2.2.1 : List ND.T).take (i + 1)).map tellN = (tell2 r ++ ((r.2.2.2.1 : List ND.T).take i).map tellN) ++ [tellN nd] := by rw [List.take_add_one, List.getElem?_eq_getElem c, hnd]; simp
        rw [hst, hX]
        (conv => whnf); refine ⟨rfl, ?_, ?_, ?_⟩ <;> (repeat' apply And.intro) <;> first | exact trivial | rfl | exact wr_succ _ (by omega) | assumption | exact decide_eq_false (by assumption) | exact decide_eq_true (by assumption)
      have c : i = (r.2.2.2.1 : List ND.T).length := by have := of_decide_eq_false c; omega
      subst c
      have t3 : tell3 r ++ ((r.2.2.2.2.1 : List ED.T).take 0).map tellE = tell2 r ++ ((r.2.2.2.1 : List ND.T).take (r.2.2.2.1 : List ND.T).length).map tellN := by
        rw [List.take_of_length_le (Nat.le_refl _)]; exact List.append_nil _
      conv => whnf
      refine loop0 (α := Nat) (fun i => i ≤ (r.2.2.2.2.1 : List ED.T).length) (fun i => ⟨[(1, .c (.ptr 0 0)), (3, .c (.row 1)), (5, .c (.int .i64 i))], [(0, .cells 52 (Ans.ac r)), (1, .row 9 .str (tell3 r ++ ((r.2.2.2.2.1 : List ED.T).take i).map tellE))], 2⟩) (fun i => (r.2.2.2.2.1 : List ED.T).length - i) ⟨0, Nat.zero_le _, ?_⟩ ?_
      · (conv => whnf); refine ⟨rfl, ?_, ?_, ?_⟩ <;> (repeat' apply And.intro) <;> first | exact trivial | rfl | exact wr_succ _ (by omega) | assumption | exact decide_eq_false (by assumption) | exact decide_eq_true (by assumption)
      intro i hj
      conv => whnf
      intro _
      conv => whnf
      refine ⟨fun c => ?_, fun c => ?_⟩
      · have c : i < (r.2.2.2.2.1 : List ED.T).length := by have := of_decide_eq_true c; omega
        obtain ⟨hn1, hn2⟩ := he.2 _ (List.getElem_mem c)
        have hnw : Wf ED (r.2.2.2.2.1 : List ED.T)[i] := hw.2.2.2.2.1.2 _ (List.getElem_mem c)
        have hg : gt (d := ED) r.2.2.2.2.1 (i : Int) = (r.2.2.2.2.1 : List ED.T)[i] := gt_nat (d := ED) r.2.2.2.2.1 i c
        have hkv := ke _ (List.getElem_mem c)
        generalize hnd : (r.2.2.2.2.1 : List ED.T)[i] = nd at hn1 hn2 hnw hg hkv
        have hl1 := itoa_len (wf_i64 hnw.1).1 (wf_i64 hnw.1).2
        have hl2 := itoa_len (wf_i64 hnw.2.2.1).1 (wf_i64 hnw.2.2.1).2
        have hl3 := itoa_len (wf_i64 hnw.2.2.2.1).1 (wf_i64 hnw.2.2.2.1).2
        have hX : tellE nd = ((((((([101, 32] ++ itoa nd.1) ++ [32]) ++ nd.2.1) ++ [32]) ++ itoa nd.2.2.1) ++ [32]) ++ itoa nd.2.2.2.1) ++ flW (propsW nd.2.2.2.2) := by
          unfold tellE
          rw [join_flW]
          simp [flW]
        conv => whnf
        intro _
        conv => whnf
        refine ⟨⟨by omega, by omega⟩, ?_⟩
        rw [hg]
        conv => whnf
        refine any0 ?_
        conv => whnf
        refine callr0 (ref_dec nd.1 (wf_i64 hnw.1).1 (wf_i64 hnw.1).2) rfl ?_
        conv => whnf
        refine ⟨by simp; omega, ?_⟩
        conv => whnf
        refine ⟨by simp; omega, ?_⟩
        conv => whnf
        refine ⟨by simp; omega, ?_⟩
        conv => whnf
        refine ⟨by simp; omega, ?_⟩
        conv => whnf
        refine callr0 (ref_dec nd.2.2.1 (wf_i64 hnw.2.2.1).1 (wf_i64 hnw.2.2.1).2) rfl ?_
        conv => whnf
        refine ⟨by simp; omega, ?_⟩
        conv => whnf
        refine ⟨by simp; omega, ?_⟩
        conv => whnf
        refine callr0 (ref_dec nd.2.2.2.1 (wf_i64 hnw.2.2.2.1).1 (wf_i64 hnw.2.2.2.1).2) rfl ?_
        conv => whnf
        refine ⟨by simp; omega, ?_⟩
        conv => whnf
        refine callr0 (ref_props ((((((([101, 32] ++ itoa nd.1) ++ [32]) ++ nd.2.1) ++ [32]) ++ itoa nd.2.2.1) ++ [32]) ++ itoa nd.2.2.2.1) (by simp; omega) nd.2.2.2.2 ⟨hn2, hkv⟩) rfl ?_
        conv => whnf
        refine ⟨by show ((tell3 r ++ ((r.2.2.2.2.1 : List ED.T).take i).map tellE).length + 1) * 16 ≤ 140737488355328; rw [List.length_append, List.length_map, List.length_take]; omega, ?_⟩
        conv => whnf
        refine ⟨.inl (by kernel_rfl), after0 ?_⟩
        conv => whnf
        refine ⟨i + 1, ⟨by omega, by omega⟩, ?_⟩
        have hst : tell3 r ++ ((r.2.2.2.2.1 : List ED.T).take (i + 1)).map tellE = (tell3 r ++ ((r.2.2.2.2.1 : List ED.T).take i).map tellE) ++ [tellE nd] := by rw [List.take_add_one, List.getElem?_eq_getElem c, hnd]; simp
        rw [hst, hX]
        (conv => whnf); refine ⟨rfl, ?_, ?_, ?_⟩ <;> (repeat' apply And.intro) <;> first | exact trivial | rfl | exact wr_succ _ (by omega) | assumption | exact decide_eq_false (by assumption) | exact decide_eq_true (by assumption)
      have c : i = (r.2.2.2.2.1 : List ED.T).length := by have := of_decide_eq_false c; omega
      subst c
      rw [show tell3 r ++ ((r.2.2.2.2.1 : List ED.T).take (r.2.2.2.2.1 : List ED.T).length).map tellE = tell4 r by rw [List.take_of_length_le (Nat.le_refl _)]; rfl]
      conv => whnf
      intro _
      conv => whnf
      refine ⟨fun d => ?_, fun d => ?_⟩
      · have d : ¬ (r.2.2.2.2.2.1 : List Int) = [] := by
          intro h
          have := of_decide_eq_true d
          rw [h] at this
          exact absurd this (by decide)
        conv => whnf
        refine loop0 (α := Nat) (fun i => i ≤ (r.2.2.2.2.2.1 : List Int).length) (fun i => ⟨[(1, .c (.ptr 0 0)), (3, .c (.row 1)), (7, .c (.str ([105, 100, 115] ++ flW (((r.2.2.2.2.2.1 : List Int).take i).map itoa)))), (8, .c (.int .i64 i))], [(0, .cells 52 (Ans.ac r)), (1, .row 9 .str (tell4 r))], 2⟩) (fun i => (r.2.2.2.2.2.1 : List Int).length - i) ⟨0, Nat.zero_le _, ?_⟩ ?_
        · (conv => whnf); refine ⟨rfl, ?_, ?_, ?_⟩ <;> (repeat' apply And.intro) <;> first | exact trivial | rfl | exact wr_succ _ (by omega) | assumption | exact decide_eq_false (by assumption) | exact decide_eq_true (by assumption)
        intro i hj2
        have hfl : (flW (((r.2.2.2.2.2.1 : List Int).take i).map itoa)).length ≤ 3000 * 21 := by
          refine Nat.le_trans (flW_len _ (B := 20) fun w hw' => ?_) ?_
          · obtain ⟨n, hn', rfl⟩ := List.mem_map.1 hw'
            have hnw := wf_i64 (hw.2.2.2.2.2.1.2 n (List.mem_of_mem_take hn'))
            exact itoa_len hnw.1 hnw.2
          · rw [List.length_map, List.length_take]
            exact Nat.mul_le_mul_right _ (by omega)
        conv => whnf
        intro _
        conv => whnf
        refine ⟨fun c => ?_, fun c => ?_⟩
        · have c : i < (r.2.2.2.2.2.1 : List Int).length := by have := of_decide_eq_true c; omega
          have hnw := wf_i64 (hw.2.2.2.2.2.1.2 _ (List.getElem_mem c))
          have hg : gt (d := .int .i64) r.2.2.2.2.2.1 (i : Int) = (r.2.2.2.2.2.1 : List Int)[i] := gt_nat (d := .int .i64) r.2.2.2.2.2.1 i c
          generalize hnd : (r.2.2.2.2.2.1 : List Int)[i] = nd at hnw hg
          have hl1 := itoa_len hnw.1 hnw.2
          conv => whnf
          intro _
          conv => whnf
          refine ⟨⟨by omega, by omega⟩, ?_⟩
          rw [hg]
          conv => whnf
          refine call1 (ref_dec nd hnw.1 hnw.2) rfl ?_
          conv => whnf
          refine ⟨by simp [-List.map_take]; omega, ?_⟩
          conv => whnf
          refine ⟨by simp [-List.map_take]; omega, ?_⟩
          conv => whnf
          refine ⟨i + 1, ⟨by omega, by omega⟩, ?_⟩
          have hst : [105, 100, 115] ++ flW (((r.2.2.2.2.2.1 : List Int).take (i + 1)).map itoa) = ([105, 100, 115] ++ flW (((r.2.2.2.2.2.1 : List Int).take i).map itoa)) ++ ([32] ++ itoa nd) := by
            rw [List.take_add_one, List.getElem?_eq_getElem c, hnd, List.map_append, flW_app]; simp [flW]
          rw [hst]
          (conv => whnf); refine ⟨rfl, ?_, ?_, ?_⟩ <;> (repeat' apply And.intro) <;> first | exact trivial | rfl | exact wr_succ _ (by omega) | assumption | exact decide_eq_false (by assumption) | exact decide_eq_true (by assumption)
        have c : i = (r.2.2.2.2.2.1 : List Int).length := by have := of_decide_eq_false c; omega
        subst c
        rw [List.take_of_length_le (Nat.le_refl _)]
        conv => whnf
        refine ⟨by show ((tell4 r).length + 1) * 16 ≤ 140737488355328; omega, ?_⟩
        conv => whnf
        rw [show tellS r = tell4 r ++ [[105, 100, 115] ++ flW ((r.2.2.2.2.2.1 : List Int).map itoa)] by unfold tellS tellI; rw [if_neg d, join_flW]]
      · have d : (r.2.2.2.2.2.1 : List Int) = [] := by
          have := of_decide_eq_false d
          exact List.eq_nil_of_length_eq_zero (by omega)
        conv => whnf
        rw [show tellS r = tell4 r by unfold tellS; rw [if_pos d]; exact List.append_nil _]
end Go.Proofs.YtdhfipjfgigamaaGreatDoor.Con
/- The walks of hedgerowkeep.Longs, Reply, of the law's Large and copied. Own work. -/
set_option linter.unusedVariables false
set_option maxRecDepth 100000
namespace Go.Proofs.YtdhfipjfgigamaaGreatDoor.Ans
open Go Go.RowKit OE

def largeA (r : AD.T) : Bool := largeGraph r.2.2.2.1 r.2.2.2.2.1 || decide ((3000 : Int) < r.2.2.2.2.2.1.length) || largeCat (aC r)
theorem law_Large (r : AD.T) : FnD Tryz.prog 15 [.agg (ac r)] (· = .c (.bool (.sym (largeA r)))) := by
  refine fn0 Tryz.func15 rfl rfl rfl ?_
  conv => whnf
  refine call1 (keep_LargeGraph r.2.2.2.1 r.2.2.2.2.1) rfl ?_
  conv => whnf
  intro _
  conv => whnf
  refine callg0 (fun _ => keep_LargeCat (aC r)) rfl ?_
  conv => whnf
  rfl
/-- what of a reply is small -/
structure SmallA (r : AD.T) : Prop where
  n : r.2.2.2.1.length ≤ 300
  e : r.2.2.2.2.1.length ≤ 300
  i : r.2.2.2.2.2.1.length ≤ 3000
  c1 : (aC r).1.length ≤ 1000
  c2 : (aC r).2.1.length ≤ 1000
  c3 : (aC r).2.2.1.length ≤ 1000
  c4 : (aC r).2.2.2.1.length ≤ 1000
  pn : ∀ x ∈ r.2.2.2.1, x.2.2.length ≤ 60
  pe : ∀ x ∈ r.2.2.2.2.1, x.2.2.2.2.length ≤ 60
end Go.Proofs.YtdhfipjfgigamaaGreatDoor.Ans
/- The walk of the reference's Good of replies. Own work. -/
set_option linter.unusedVariables false
set_option maxRecDepth 100000
namespace Go.Proofs.YtdhfipjfgigamaaGreatDoor.Ans
open Go Go.RowKit OE

theorem ref25_id (n : Int) : FnD Tryz.prog 39 [.c (.int .i64 n)] (· = .c (.bool (.sym (okId n)))) := by
  refine fn0 Tryz.func39 rfl rfl rfl ?_
  conv => whnf
  rfl
theorem empty_eq (c : CD.T) : CD.eqb c C0 = emptyC c := by
  rw [Bool.eq_iff_iff, D.eqb_iff]
  unfold emptyC
  obtain ⟨a, b, c, d, e⟩ := c
  simp only [Bool.and_eq_true, decide_eq_true_eq]
  constructor
  · intro h
    cases h
    exact ⟨rfl, rfl⟩
  · rintro ⟨h1, h2⟩
    have ha : a = [] := List.eq_nil_of_length_eq_zero (by omega)
    have hb : b = [] := List.eq_nil_of_length_eq_zero (by omega)
    have hc : c = [] := List.eq_nil_of_length_eq_zero (by omega)
    have hd : d = [] := List.eq_nil_of_length_eq_zero (by omega)
    have he : e = 0 := h1
    subst ha hb hc hd he
    rfl
theorem keep_CatsN (c : CD.T) : FnD Tryz.prog 42 [.agg (cc c), .agg cn] (· = .c (.bool (.sym (CD.eqb c C0)))) :=
  (keep_Cats c C0).args fun w ok => ⟨fun _ h => h, fun v h => by
    obtain ⟨us, e2, hl2⟩ := h
    refine ⟨us, e2, ?_⟩
    generalize us.toList = n at hl2
    match n, hl2 with
    | [a, b, c, d, e], ⟨h1, h2, h3, h4, h5, _⟩ => exact ⟨nilC h1, nilC h2, nilC h3, nilC h4, h5, trivial⟩, trivial⟩
theorem ref25_Good (r : AD.T) : FnD Tryz.prog 16 [.agg (ac r)] (· = .c (.bool (.sym (goodA r)))) := by
  refine fn0 Tryz.func16 rfl rfl rfl ?_
  conv => whnf
  refine callg0 (fun _ => ref25_id r.2.1) rfl ?_
  conv => whnf
  intro _
  conv => whnf
  intro _
  conv => whnf
  intro _
  conv => whnf
  refine ⟨fun g => ?_, fun g => ?_⟩
  · have : headA r = false := by
      unfold headA bndA
      revert g
      cases okId r.2.1
      · simp
      · intro g
        rw [show (decide ((r.1 : Int) < 0) || decide (1000 < (r.1 : Int)) || decide ((r.2.2.1 : Int) < 0) || decide (1000000 < (r.2.2.1 : Int)) || decide ((1024 : Int) < r.2.2.2.1.length) || decide ((1024 : Int) < r.2.2.2.2.1.length) || decide ((1024 : Int) < r.2.2.2.2.2.1.length)) = true from by simpa using g]
        rfl
    rw [show goodA r = false by unfold goodA; rw [this]; rfl]
    conv => whnf
  have gb : bndA r = false ∧ okId r.2.1 = true := by
    unfold bndA
    revert g
    cases okId r.2.1
    · simp
    · intro g
      exact ⟨by simpa using g, rfl⟩
  have hG : goodA r = (r.2.2.2.1.all goodN && (r.2.2.2.2.1.all goodE && (idsS r.2.2.2.2.2.1 && (emptyC (aC r) || goodC (aC r))))) := by
    unfold goodA headA
    rw [gb.1, gb.2]
    cases idsS r.2.2.2.2.2.1 <;> cases r.2.2.2.1.all goodN <;> cases r.2.2.2.2.1.all goodE <;> rfl
  rw [hG]
  conv => whnf
  refine loop0 (α := Nat) (fun i => i ≤ r.2.2.2.1.length ∧ (r.2.2.2.1.take i).all goodN = true) (fun i => ⟨[(1, .c (.ptr 0 0)), (3, .c (.int .i64 i))], [(0, .cells 52 (ac r))], 1⟩) (fun i => r.2.2.2.1.length - i) ⟨0, ⟨by omega, by simp⟩, ?_⟩ ?_
  · (conv => whnf); refine ⟨rfl, ?_, ?_, ?_⟩ <;> (repeat' apply And.intro) <;> first | exact trivial | rfl | exact wr_succ _ (by omega) | assumption | exact decide_eq_false (by assumption) | exact decide_eq_true (by assumption)
  rintro i ⟨hi, hI⟩
  conv => whnf
  intro hlen
  conv => whnf
  refine ⟨fun h2 => ?_, fun h2 => ?_⟩
  · have h2 : i < r.2.2.2.1.length := by rw [decide_eq_true_eq] at h2; omega
    conv => whnf
    try (intro _; conv => whnf)
    refine ⟨by omega, ?_⟩
    rw [gt_nat (d := ND) r.2.2.2.1 i h2]
    conv => whnf
    refine call1 (ref25_id r.2.2.2.1[i].1) rfl ?_
    conv => whnf
    refine callg0 (fun _ => ref_Name r.2.2.2.1[i].2.1) rfl ?_
    conv => whnf
    refine callg0 (fun _ => refval_Props r.2.2.2.1[i].2.2) rfl ?_
    conv => whnf
    refine ⟨fun h3 => ?_, fun h3 => ?_⟩
    · have : goodN r.2.2.2.1[i] = false := by
        unfold goodN
        revert h3
        cases okId r.2.2.2.1[i].1 <;> cases nameS r.2.2.2.1[i].2.1 <;> cases propsS r.2.2.2.1[i].2.2 <;> simp
      rw [all_no h2 this]
      conv => whnf
      rfl
    have h3 : goodN r.2.2.2.1[i] = true := by
      unfold goodN
      revert h3
      cases okId r.2.2.2.1[i].1 <;> cases nameS r.2.2.2.1[i].2.1 <;> cases propsS r.2.2.2.1[i].2.2 <;> simp
    conv => whnf
    refine ⟨i + 1, ⟨⟨by omega, by rw [all_step h2, hI, h3]; rfl⟩, by omega⟩, ?_⟩
    (conv => whnf); refine ⟨rfl, ?_, ?_, ?_⟩ <;> (repeat' apply And.intro) <;> first | exact trivial | rfl | exact wr_succ _ (by omega) | assumption | exact decide_eq_false (by assumption) | exact decide_eq_true (by assumption)
  have h2 : r.2.2.2.1.length ≤ i := by rw [decide_eq_false_iff_not] at h2; omega
  rw [show r.2.2.2.1.all goodN = true by rw [List.take_of_length_le h2] at hI; exact hI]
  clear hI h2 hi
  conv => whnf
  refine loop0 (α := Nat) (fun i => i ≤ r.2.2.2.2.1.length ∧ (r.2.2.2.2.1.take i).all goodE = true) (fun i => ⟨[(1, .c (.ptr 0 0)), (5, .c (.int .i64 i))], [(0, .cells 52 (ac r))], 1⟩) (fun i => r.2.2.2.2.1.length - i) ⟨0, ⟨by omega, by simp⟩, ?_⟩ ?_
  · (conv => whnf); refine ⟨rfl, ?_, ?_, ?_⟩ <;> (repeat' apply And.intro) <;> first | exact trivial | rfl | exact wr_succ _ (by omega) | assumption | exact decide_eq_false (by assumption) | exact decide_eq_true (by assumption)
  rintro i ⟨hi, hI⟩
  conv => whnf
  intro hlen2
  conv => whnf
  refine ⟨fun h2 => ?_, fun h2 => ?_⟩
  · have h2 : i < r.2.2.2.2.1.length := by rw [decide_eq_true_eq] at h2; omega
    conv => whnf
    try (intro _; conv => whnf)
    refine ⟨by omega, ?_⟩
    rw [gt_nat (d := ED) r.2.2.2.2.1 i h2]
    conv => whnf
    refine call1 (ref25_id r.2.2.2.2.1[i].1) rfl ?_
    conv => whnf
    refine callg0 (fun _ => ref_Name r.2.2.2.2.1[i].2.1) rfl ?_
    conv => whnf
    refine callg0 (fun _ => ref25_id r.2.2.2.2.1[i].2.2.1) rfl ?_
    conv => whnf
    refine callg0 (fun _ => ref25_id r.2.2.2.2.1[i].2.2.2.1) rfl ?_
    conv => whnf
    refine callg0 (fun _ => refval_Props r.2.2.2.2.1[i].2.2.2.2) rfl ?_
    conv => whnf
    refine ⟨fun h3 => ?_, fun h3 => ?_⟩
    · have : goodE r.2.2.2.2.1[i] = false := by
        unfold goodE
        revert h3
        cases okId r.2.2.2.2.1[i].1 <;> cases okId r.2.2.2.2.1[i].2.2.1 <;> cases okId r.2.2.2.2.1[i].2.2.2.1 <;> cases nameS r.2.2.2.2.1[i].2.1 <;> cases propsS r.2.2.2.2.1[i].2.2.2.2 <;> simp
      rw [all_no h2 this]
      conv => whnf
      rfl
    have h3 : goodE r.2.2.2.2.1[i] = true := by
      unfold goodE
      revert h3
      cases okId r.2.2.2.2.1[i].1 <;> cases okId r.2.2.2.2.1[i].2.2.1 <;> cases okId r.2.2.2.2.1[i].2.2.2.1 <;> cases nameS r.2.2.2.2.1[i].2.1 <;> cases propsS r.2.2.2.2.1[i].2.2.2.2 <;> simp
    conv => whnf
    refine ⟨i + 1, ⟨⟨by omega, by rw [all_step h2, hI, h3]; rfl⟩, by omega⟩, ?_⟩
    (conv => whnf); refine ⟨rfl, ?_, ?_, ?_⟩ <;> (repeat' apply And.intro) <;> first | exact trivial | rfl | exact wr_succ _ (by omega) | assumption | exact decide_eq_false (by assumption) | exact decide_eq_true (by assumption)
  have h2 : r.2.2.2.2.1.length ≤ i := by rw [decide_eq_false_iff_not] at h2; omega
  rw [show r.2.2.2.2.1.all goodE = true by rw [List.take_of_length_le h2] at hI; exact hI]
  clear hI h2 hi
  conv => whnf
  refine loop0 (α := Nat) (fun i => i ≤ r.2.2.2.2.2.1.length ∧ (r.2.2.2.2.2.1.take i).all okId = true) (fun i => ⟨[(1, .c (.ptr 0 0)), (7, .c (.int .i64 i))], [(0, .cells 52 (ac r))], 1⟩) (fun i => r.2.2.2.2.2.1.length - i) ⟨0, ⟨by omega, by simp⟩, ?_⟩ ?_
  · (conv => whnf); refine ⟨rfl, ?_, ?_, ?_⟩ <;> (repeat' apply And.intro) <;> first | exact trivial | rfl | exact wr_succ _ (by omega) | assumption | exact decide_eq_false (by assumption) | exact decide_eq_true (by assumption)
  rintro i ⟨hi, hI⟩
  conv => whnf
  intro hlen3
  conv => whnf
  refine ⟨fun h2 => ?_, fun h2 => ?_⟩
  · have h2 : i < r.2.2.2.2.2.1.length := by rw [decide_eq_true_eq] at h2; omega
    conv => whnf
    try (intro _; conv => whnf)
    refine ⟨by omega, ?_⟩
    rw [gt_nat (d := LD) r.2.2.2.2.2.1 i h2]
    conv => whnf
    refine call1 (ref25_id r.2.2.2.2.2.1[i]) rfl ?_
    conv => whnf
    refine ⟨fun h3 => ?_, fun h3 => ?_⟩
    · have h3 : okId r.2.2.2.2.2.1[i] = false := by
        revert h3
        cases okId r.2.2.2.2.2.1[i] <;> simp
      rw [show idsS r.2.2.2.2.2.1 = false from all_no h2 h3]
      conv => whnf
      rfl
    have h3 : okId r.2.2.2.2.2.1[i] = true := by
      revert h3
      cases okId r.2.2.2.2.2.1[i] <;> simp
    conv => whnf
    refine ⟨i + 1, ⟨⟨by omega, by rw [all_step h2, hI, h3]; rfl⟩, by omega⟩, ?_⟩
    (conv => whnf); refine ⟨rfl, ?_, ?_, ?_⟩ <;> (repeat' apply And.intro) <;> first | exact trivial | rfl | exact wr_succ _ (by omega) | assumption | exact decide_eq_false (by assumption) | exact decide_eq_true (by assumption)
  have h2 : r.2.2.2.2.2.1.length ≤ i := by rw [decide_eq_false_iff_not] at h2; omega
  rw [show idsS r.2.2.2.2.2.1 = true by rw [List.take_of_length_le h2] at hI; exact hI]
  clear hI h2 hi
  conv => whnf
  refine call1 (keep_CatsN (aC r)) rfl ?_
  conv => whnf
  refine callg0 (fun _ => ref16_Good (aC r)) rfl ?_
  conv => whnf
  rw [empty_eq]
  rfl
end Go.Proofs.YtdhfipjfgigamaaGreatDoor.Ans
/- The package's variables (console): what the row's condition gives a walk; a world that meets it. Own work. -/
set_option linter.unusedVariables false
set_option maxRecDepth 100000
namespace Go.Proofs.YtdhfipjfgigamaaGreatDoor
open Go Go.ChangeShapes Go.RowKit OE

theorem chunks {α : Type} {f : α → List Value} {sz : Nat} : ∀ (xs : List α) (cs : List Value), cs.length = xs.length * sz → (∀ i (h : i < xs.length), (cs.drop (i * sz)).take sz = f xs[i]) → cs = xs.flatMap f
  | [], cs, hl, _ => by
    simp at hl
    rw [hl]; rfl
  | x :: xs, cs, hl, h => by
    rw [List.length_cons, Nat.add_mul, Nat.one_mul] at hl
    have h0 : cs.take sz = f x := by
      have := h 0 (by simp)
      rw [Nat.zero_mul, List.drop_zero] at this
      exact this
    have ih := chunks (sz := sz) xs (cs.drop sz) (by rw [List.length_drop]; omega) fun i hi => by
      have := h (i + 1) (by simp; omega)
      rw [List.drop_drop, show sz + i * sz = (i + 1) * sz by rw [Nat.add_mul, Nat.one_mul, Nat.add_comm]]
      simpa using this
    rw [List.flatMap_cons, ← ih, ← h0]
    exact (List.take_append_drop sz cs).symm
theorem trod_arr {H : Type} {enc : TypeId × Value → H} {P : Program} {w : World} {base : Nat} {spare : Nat → Bool} {held : Bool} {fuel n : Nat} {t e : TypeId} {cs : List Value} {d : D} {xs : List d.T} {J : d.T → DataW H} {p : List MemPlace}
    (ht : P.underlying t = some (.array n e)) (hc : P.cellsOf e = d.sz) (hn : P.cellsOf t = n * d.sz) (he : ∀ m (ds : List Value) (x : d.T) q, DataW.trod enc P w base spare held m e ds = some (J x, q) → ds = d.vs x)
    (h : DataW.trod enc P w base spare held fuel t cs = some (.agg (xs.map J), p)) : cs = glC d xs := by
  obtain ⟨ys, m, _, hx, hl, hn2, hel⟩ := DataW.trod_array ht h
  simp only [Prod.mk.injEq, DataW.agg.injEq] at hx
  obtain ⟨hx, _⟩ := hx
  have hlen : xs.length = n := by
    have := congrArg List.length hx
    simp only [List.length_map] at this
    omega
  refine chunks (sz := d.sz) xs cs (by rw [hl, hn, hlen]) fun i hi => ?_
  have h1 := hel i (by omega)
  rw [hc, List.getElem?_eq_getElem (by omega)] at h1
  refine he m _ xs[i] (ys[i]'(by omega)).2 ?_
  rw [h1]
  have h2 : (xs.map J)[i]? = (ys.map (·.1))[i]? := by rw [hx]
  rw [List.getElem?_map, List.getElem?_map, List.getElem?_eq_getElem hi, List.getElem?_eq_getElem (by omega)] at h2
  simp only [Option.map_some, Option.some.injEq] at h2
  rw [h2]
theorem var_heap {P : Program} {w : World} {n : String} {g : Nat} {cs : Array Value} (hg : P.globalNamed n = some g) (h : w.var? P n = some cs) : ∃ T fz, w.heap[g]? = some (.cells cs T fz) := by
  unfold World.var? at h
  rw [hg] at h
  simp only [Option.bind_some] at h
  split at h
  · rename_i cs' T fz hh
    cases h
    exact ⟨T, fz, hh⟩
  · cases h
abbrev jS {H : Type} (s : List UInt8) : DataW H := .lit (.string s)
abbrev jI {H : Type} (k : IntKind) (n : Int) : DataW H := .lit (.int k n)
abbrev GFD : D := .pair .str (.pair (.int .i64) (.pair (.int .i64) .str))
abbrev jF {H : Type} (x : GFD.T) : DataW H := .agg [jS x.1, jI .i64 x.2.1, jI .i64 x.2.2.1, jS x.2.2.2]
section
variable {H : Type} {enc : TypeId × Value → H} {w : World} {base : Nat} {spare : Nat → Bool} {held : Bool}
theorem he_str (m : Nat) (ds : List Value) (x : List UInt8) (q : List MemPlace) (h : DataW.trod enc Tryz.prog w base spare held m 9 ds = some (jS x, q)) : ds = D.str.vs x := by
  obtain ⟨s, h2, h3, _⟩ := DataW.trod_string Tryz.underlying9 h
  simp only [Prod.mk.injEq, DataW.lit.injEq, Lit.string.injEq] at h3
  rw [h2, h3.1]
  rfl
theorem he_int {t : TypeId} {k : IntKind} (ht : Tryz.prog.underlying t = some (.int k)) (m : Nat) (ds : List Value) (x : Int) (q : List MemPlace) (h : DataW.trod enc Tryz.prog w base spare held m t ds = some (jI k x, q)) : ds = (D.int k).vs x := by
  obtain ⟨n, h2, h3, _⟩ := DataW.trod_int ht h
  simp only [Prod.mk.injEq, DataW.lit.injEq, Lit.int.injEq, true_and] at h3
  rw [h2, h3.1]
  rfl
theorem he_form (m : Nat) (ds : List Value) (x : GFD.T) (q : List MemPlace) (h : DataW.trod enc Tryz.prog w base spare held m 61 ds = some (jF x, q)) : ds = GFD.vs x := by
  obtain ⟨ys, n, _, hx, hl, hlen, hf⟩ := DataW.trod_struct Tryz.underlying61 h
  simp only [Prod.mk.injEq, DataW.agg.injEq] at hx
  obtain ⟨hx, _⟩ := hx
  rw [show Tryz.prog.cellsOf 61 = 4 by kernel_rfl] at hl
  match ys, hlen with
  | [y0, y1, y2, y3], _ =>
    simp only [List.map_cons, List.map_nil, List.cons.injEq, and_true] at hx
    obtain ⟨x0, x1, x2, x3⟩ := hx
    match ds, hl with
    | [a, b, c, e], _ =>
      have h0 : DataW.trod enc Tryz.prog w base spare held n 9 [a] = some (jS x.1, y0.2) := (hf 0 _ rfl).trans (by rw [x0]; rfl)
      have h1 : DataW.trod enc Tryz.prog w base spare held n 3 [b] = some (jI .i64 x.2.1, y1.2) := (hf 1 _ rfl).trans (by rw [x1]; rfl)
      have h2 : DataW.trod enc Tryz.prog w base spare held n 3 [c] = some (jI .i64 x.2.2.1, y2.2) := (hf 2 _ rfl).trans (by rw [x2]; rfl)
      have h3 : DataW.trod enc Tryz.prog w base spare held n 9 [e] = some (jS x.2.2.2, y3.2) := (hf 3 _ rfl).trans (by rw [x3]; rfl)
      have g0 := he_str _ _ _ _ h0
      have g1 := he_int Tryz.underlying3 _ _ _ _ h1
      have g2 := he_int Tryz.underlying3 _ _ _ _ h2
      have g3 := he_str _ _ _ _ h3
      show [a] ++ ([b] ++ ([c] ++ [e])) = _
      rw [g0, g1, g2, g3]
      rfl
end
abbrev laidL : List (String × DataW Unit) := [("math/bits.deBruijn32tab", Rows.laid_math_bits_deBruijn32tab), ("math/bits.deBruijn64tab", Rows.laid_math_bits_deBruijn64tab), ("internal/strconv.uint64pow10", Rows.laid_internal_strconv_uint64pow10), ("unicode/utf8.acceptRanges", Rows.laid_unicode_utf8_acceptRanges), ("strconv.ErrRange", Rows.laid_strconv_ErrRange), ("strconv.ErrSyntax", Rows.laid_strconv_ErrSyntax), ("hedgerow/wire.fieldsOf", Rows.laid_hedgerow_wire_fieldsOf), ("hedgerow/wire.opsOf", Rows.laid_hedgerow_wire_opsOf), ("hedgerow/console.forms", Rows.laid_hedgerow_console_forms), ("unicode/utf8.first", Rows.laid_unicode_utf8_first)]
theorem plainL (w : World) : laidMetH Tryz.prog laidL w = laidMet Tryz.prog laidL w := by
  unfold laidMetH
  rw [show (laidL.filter fun x => x.2.handleName?.isSome) = [] by kernel_rfl]
theorem laid_mem {P : Program} {w : World} : ∀ {l : List (String × DataW Unit)} {ps : List MemPlace}, DataW.LaidVars P w l ps → ∀ {n : String} {d : DataW Unit}, (n, d) ∈ l → ∃ g t cs fuel p, P.globalNamed n = some g ∧ (P.globals[g]?).map (·.type) = some t ∧ w.var? P n = some cs ∧ DataW.trod (fun _ => ()) P w 0 (fun _ => true) false fuel t cs.toList = some (d, p)
  | [], ps, _, n, d, h => by cases h
  | (m, e) :: l, ps, ⟨g, t, cs, fuel, p, q, a1, a2, a3, a4, hr, _⟩, n, d, h => by
    rcases List.mem_cons.1 h with h | h
    · cases h
      exact ⟨g, t, cs, fuel, p, a1, a2, a3, a4⟩
    · exact laid_mem hr h
/-- a variable that is there -/
theorem at_var {W : World} {n : String} {d : DataW Unit} {G T0 : Nat} (h : ∃ g t cs fuel p, Tryz.prog.globalNamed n = some g ∧ (Tryz.prog.globals[g]?).map (·.type) = some t ∧ W.var? Tryz.prog n = some cs ∧ DataW.trod (fun _ => ()) Tryz.prog W 0 (fun _ => true) false fuel t cs.toList = some (d, p))
    (hg : Tryz.prog.globalNamed n = some G) (ht : (Tryz.prog.globals[G]?).map (·.type) = some T0) : ∃ cs T fz fuel p, W.heap[G]? = some (.cells cs T fz) ∧ DataW.trod (fun _ => ()) Tryz.prog W 0 (fun _ => true) false fuel T0 cs.toList = some (d, p) := by
  obtain ⟨g, t, cs, fuel, p, a1, a2, a3, a4⟩ := h
  obtain rfl : g = G := Option.some.inj (a1.symm.trans hg)
  obtain rfl : t = T0 := Option.some.inj (a2.symm.trans ht)
  obtain ⟨T, fz, hh⟩ := var_heap a1 a3
  exact ⟨cs, T, fz, fuel, p, hh, a4⟩
theorem old_of {W : World} {g : Nat} {o : Obj} (h : W.heap[g]? = some o) : W0.old ⟨W, fun k => k < W.heap.size, fun _ => False⟩ g ∧ g < W.heap.size := by
  have : g < W.heap.size := (Array.getElem?_eq_some_iff.1 h).1
  exact ⟨⟨this, id⟩, this⟩
/-- what the condition gives a walk -/
theorem glo_of {W : World} (h : laidMetH Tryz.prog laidL W) : OkW W (fun k => k < W.heap.size) := by
  rw [plainL] at h
  obtain ⟨ps, hv, _⟩ := h
  refine ⟨fun _ h => h, fun g l hg => ?_⟩
  unfold glS at hg
  split at hg
  · cases hg
    obtain ⟨cs, T, fz, fuel, p, hh, a4⟩ := at_var (laid_mem hv (List.mem_of_getElem? (i := 8) rfl)) (G := 0) (T0 := 62) (by kernel_rfl) (by kernel_rfl)
    exact ⟨(old_of hh).1, (old_of hh).2, cs, T, fz, hh, rfl, trod_arr (J := jF) Tryz.underlying62 (by kernel_rfl) (by kernel_rfl) he_form a4⟩
  · cases hg
    obtain ⟨cs, T, fz, fuel, p, hh, a4⟩ := at_var (laid_mem hv (List.mem_of_getElem? (i := 6) rfl)) (G := 1) (T0 := 144) (by kernel_rfl) (by kernel_rfl)
    exact ⟨(old_of hh).1, (old_of hh).2, cs, T, fz, hh, rfl, trod_arr (J := jS) Tryz.underlying144 (by kernel_rfl) (by kernel_rfl) he_str a4⟩
  · cases hg
    obtain ⟨cs, T, fz, fuel, p, hh, a4⟩ := at_var (laid_mem hv (List.mem_of_getElem? (i := 2) rfl)) (G := 2) (T0 := 208) (by kernel_rfl) (by kernel_rfl)
    exact ⟨(old_of hh).1, (old_of hh).2, cs, T, fz, hh, rfl, trod_arr (J := jI .u64) Tryz.underlying208 (by kernel_rfl) (by kernel_rfl) (he_int Tryz.underlying173) a4⟩
  · cases hg
    obtain ⟨cs, T, fz, fuel, p, hh, a4⟩ := at_var (laid_mem hv (List.mem_of_getElem? (i := 5) rfl)) (G := 4) (T0 := 123) (by kernel_rfl) (by kernel_rfl)
    obtain ⟨_, u, v, h1, _⟩ := iface_of_trod Tryz.underlying123 a4
    exact ⟨(old_of hh).1, (old_of hh).2, cs, T, fz, hh, u, v, h1⟩
  · cases hg
    obtain ⟨cs, T, fz, fuel, p, hh, a4⟩ := at_var (laid_mem hv (List.mem_of_getElem? (i := 4) rfl)) (G := 5) (T0 := 123) (by kernel_rfl) (by kernel_rfl)
    obtain ⟨_, u, v, h1, _⟩ := iface_of_trod Tryz.underlying123 a4
    exact ⟨(old_of hh).1, (old_of hh).2, cs, T, fz, hh, u, v, h1⟩
  · cases hg
    obtain ⟨cs, T, fz, fuel, p, hh, a4⟩ := at_var (laid_mem hv (List.mem_of_getElem? (i := 7) rfl)) (G := 6) (T0 := 218) (by kernel_rfl) (by kernel_rfl)
    exact ⟨(old_of hh).1, (old_of hh).2, cs, T, fz, hh, rfl, trod_arr (J := jS) Tryz.underlying218 (by kernel_rfl) (by kernel_rfl) he_str a4⟩
  · cases hg
/-- the cells of a datum -/
def cellsW : Nat → DataW Unit → List Value
  | 0, _ => []
  | _ + 1, .lit (.int k n) => [.int k n]
  | _ + 1, .lit (.string s) => [.string ⟨s.toArray⟩]
  | n + 1, .agg l => l.flatMap (cellsW n)
  | _ + 1, _ => []
def putG (g : Nat) (vs : List Value) (h : Array Obj) : Array Obj := h.modify g fun
  | .cells _ t frozen => .cells vs.toArray t frozen
  | o => o
noncomputable def lowG : Nat := (World.holding Tryz.prog default ⟨#[], #[], []⟩).heap.size
abbrev tR : List UInt8 := [118, 97, 108, 117, 101, 32, 111, 117, 116, 32, 111, 102, 32, 114, 97, 110, 103, 101]
abbrev tSy : List UInt8 := [105, 110, 118, 97, 108, 105, 100, 32, 115, 121, 110, 116, 97, 120]
/-- a world that meets the condition -/
noncomputable def laidWorld (os : Os) : World :=
  let w0 := World.holding Tryz.prog os ⟨#[.cells #[.string ⟨tR.toArray⟩] 233, .cells #[.string ⟨tSy.toArray⟩] 233], #[], []⟩
  { w0 with heap := putG 9 (cellsW 5 Rows.laid_math_bits_deBruijn32tab) (putG 10 (cellsW 5 Rows.laid_math_bits_deBruijn64tab) (putG 2 (cellsW 5 Rows.laid_internal_strconv_uint64pow10) (putG 8 (cellsW 5 Rows.laid_unicode_utf8_acceptRanges)
      (putG 5 [.iface 231 (.pointer (some ⟨lowG, 0, none⟩))] (putG 4 [.iface 231 (.pointer (some ⟨lowG + 1, 0, none⟩))] (putG 1 (cellsW 5 Rows.laid_hedgerow_wire_fieldsOf) (putG 6 (cellsW 5 Rows.laid_hedgerow_wire_opsOf)
      (putG 0 (cellsW 5 Rows.laid_hedgerow_console_forms) (putG 7 (cellsW 5 Rows.laid_unicode_utf8_first) w0.heap))))))))) }
theorem laidWorld_met (os : Os) (args : Array Value) : laidMetH Tryz.prog laidL ((laidWorld os).forCall (fun _ _ => 0) ⟨#[], args, []⟩).memory := by
  rw [plainL]
  exact laidMet_of_run' 50 (by kernel_rfl) (by kernel_rfl)
end Go.Proofs.YtdhfipjfgigamaaGreatDoor
