/- Several texts of the proof, one behind the other; put together by a program of the session (mrg.py). Own work. -/
import Derived.Test.YtmdjonckcapkeaaDoorRows
import Derived.WalkKit
import Derived.ProofKit
import Derived.OpenShut
import Derived.ShutString
import Derived.ChangeOld
import Derived.Below
import Derived.SizedLaws
import Derived.ChangeArms
import Derived.ChangeSame
import Derived.ChangeVars
import Derived.JoinedOf
import Derived.LaidLaws
import Derived.LaidHandle
import Derived.LaidSub
import Derived.Handed
import Derived.KernelRfl
import Derived.Test.YtmdjonckcapkeaaDoorPart6
/- The walks of answer.writer.props, Encode, Message. Own work. -/
set_option linter.unusedVariables false
set_option maxRecDepth 100000
namespace Go.Proofs.YtmdjonckcapkeaaDoor.Ans
open Go Go.RowKit OE

abbrev wT : Nat := 91
theorem writer_props (bs : List UInt8) (l : List PD.T) (hl : Wf (.list PD) l) (hb : bs.length + (encPs l).length ≤ 140737488355328) :
    FnP Tryd.prog 41 [.c (.ptr 0 0), .c (.dat PD l)] (hpB wT (.ptr 0 0) bs) 2 kpB .un (hpC wT (bs ++ encPs l)) 3 := by
  refine fnP noI Tryd.func41 rfl rfl rfl rfl ?_
  conv => whnf
  refine call1 (val_EncodeProps l hl) rfl ?_
  conv => whnf
  refine callp0 [0, 1] rfl rfl (ww_WriteString (.ptr 0 0) (.inr rfl) bs (encPs l) hb) rfl rfl rfl rfl rfl ?_
  conv => whnf
  refine ⟨rfl, ?_, ?_, ?_⟩ <;> (repeat' apply And.intro) <;> first | exact trivial | rfl | assumption
abbrev enSt (r : AD.T) (bs : List UInt8) (fr : List (Nat × SV)) : St := ⟨(1, .c (.ptr 0 0)) :: (4, .c (.ptr 1 0)) :: fr, [(0, .cells 51 (ac r)), (1, .cells wT [.ptr 1 0, .row 2]), (2, .row 5 (.int .u8) (byI bs))], 3⟩
theorem putN_ne (n : Nat) : Num.putN n ≠ [] := by
  intro h
  rw [Num.putN] at h
  split at h <;> cases h
theorem encA_ne (r : AD.T) : encA r ≠ [] := by
  intro h
  unfold encA Num.putT at h
  exact putN_ne _ (List.append_eq_nil_iff.1 (List.append_eq_nil_iff.1 h).2).1
theorem ans_Encode (r : AD.T) (hw : Wf AD r) (hl : (aC r).2.2.1.length ≤ 1000) : FnD Tryd.prog 31 [.agg (ac r)] (· = .tup [(false, [.str (encAS r)]), (false, [.int .i64 (errA r)])]) := by
  refine fn0 Tryd.func31 rfl rfl rfl ?_
  conv => whnf
  refine call1 (ans_Good r hw hl) rfl ?_
  conv => whnf
  refine ⟨fun g => ?_, fun g => ?_⟩
  · have g : ¬ goodA r = true := by revert g; cases goodA r <;> simp
    rw [show encAS r = [] from if_neg g, show errA r = 11 from if_neg g]
    conv => whnf
  have g : goodA r = true := by revert g; cases goodA r <;> simp
  rw [show encAS r = encA r from if_pos g, show errA r = 0 from if_pos g]
  have hg := goodA_out g
  have hsh := hg.short hw
  have p1 := Num.putN_ten (wrap_u64 r.1).2
  have p2 := Num.putN_ten (wrap_u64 r.2.1).2
  have p3 := Num.putN_ten (wrap_u64 r.2.2.1).2
  have l4 := enc4_len r
  have l5 := hsh.l5
  have l6 := hsh.l6
  conv => whnf
  refine nilrc0 1 1 5 (.int .u8) rfl rfl ?_
  conv => whnf
  refine callp0 [1, 2] rfl rfl (writer_number0 [] r.1 (by decide)) rfl rfl rfl rfl rfl ?_
  conv => whnf
  refine callp0 [1, 3] rfl rfl (writer_number ([] ++ Num.putN (u64 r.1)) r.2.1 (by rw [List.nil_append]; omega)) rfl rfl rfl rfl rfl ?_
  conv => whnf
  refine callp0 [1, 4] rfl rfl (writer_number ([] ++ Num.putN (u64 r.1) ++ Num.putN (u64 r.2.1)) r.2.2.1 (by rw [List.nil_append, List.length_append]; omega)) rfl rfl rfl rfl rfl ?_
  conv => whnf
  intro _
  conv => whnf
  refine callp0 [1, 5] rfl rfl (writer_number ([] ++ Num.putN (u64 r.1) ++ Num.putN (u64 r.2.1) ++ Num.putN (u64 r.2.2.1)) r.2.2.2.1.length (by rw [List.nil_append, List.length_append, List.length_append]; omega)) rfl rfl rfl rfl rfl ?_
  conv => whnf
  intro _
  conv => whnf
  refine loop0 (α := Nat) (fun i => i ≤ r.2.2.2.1.length) (fun i => enSt r (enc4 r ++ flB encN (r.2.2.2.1.take i)) [(36, .c (.dat ND r.2.2.2.1)), (37, .c (.int .i64 r.2.2.2.1.length)), (38, .c (.int .i64 i))]) (fun i => r.2.2.2.1.length - i) ⟨0, by omega, ?_⟩ ?_
  · rw [List.take_zero, show flB encN [] = [] from rfl, List.append_nil]
    (conv => whnf); refine ⟨rfl, ?_, ?_, ?_⟩ <;> (repeat' apply And.intro) <;> first | exact trivial | rfl | exact wr_succ _ (by omega) | assumption | exact decide_eq_false (by assumption) | exact decide_eq_true (by assumption)
  rintro i hi
  conv => whnf
  refine ⟨fun h2 => ?_, fun h2 => ?_⟩
  · have h2 : i < r.2.2.2.1.length := by rw [decide_eq_true_eq] at h2; omega
    have f1 := hsh.f1 i
    have q1 := Num.putN_ten (wrap_u64 r.2.2.2.1[i].1).2
    have hgn := hg.g1 _ (List.getElem_mem h2)
    have hwn := hw.2.2.2.1.2 _ (List.getElem_mem h2)
    have hen := hsh.g1 _ (List.getElem_mem h2)
    have hnl : r.2.2.2.1[i].2.1.length ≤ 140737488351232 := hwn.2.1
    have htl : (Num.putT r.2.2.2.1[i].2.1).length ≤ 26 := putT_b (nameS_len (by unfold goodN at hgn; simp only [Bool.and_eq_true] at hgn; exact hgn.1.2))
    have hpl := encPs_len hwn.2.2
    conv => whnf
    try (intro _; conv => whnf)
    refine ⟨by omega, ?_⟩
    rw [gt_nat (d := ND) r.2.2.2.1 i h2]
    conv => whnf
    refine callp0 [1, 2] rfl rfl (writer_number (enc4 r ++ flB encN (r.2.2.2.1.take i)) r.2.2.2.1[i].1 (by rw [List.length_append]; omega)) rfl rfl rfl rfl rfl ?_
    conv => whnf
    refine any0 ?_
    conv => whnf
    refine callr0 (num_PutText r.2.2.2.1[i].2.1 (by omega)) rfl ?_
    conv => whnf
    refine callrp0 [1, 4] rfl rfl rfl (ww_WriteString (.ptr 0 0) (.inr rfl) (enc4 r ++ flB encN (r.2.2.2.1.take i) ++ Num.putN (u64 r.2.2.2.1[i].1)) (Num.putT r.2.2.2.1[i].2.1) (by simp only [List.length_append]; omega)) rfl rfl rfl rfl rfl rfl [] rfl rfl ?_
    conv => whnf
    refine ⟨.inl (by kernel_rfl), after0 ?_⟩
    conv => whnf
    refine callp0 [1, 11] rfl rfl (writer_props (enc4 r ++ flB encN (r.2.2.2.1.take i) ++ Num.putN (u64 r.2.2.2.1[i].1) ++ Num.putT r.2.2.2.1[i].2.1) r.2.2.2.1[i].2.2 hwn.2.2 (by simp only [List.length_append]; omega)) rfl rfl rfl rfl rfl ?_
    conv => whnf
    refine ⟨i + 1, ⟨by omega, by omega⟩, ?_⟩
    rw [flB_step encN h2, show enc4 r ++ (flB encN (r.2.2.2.1.take i) ++ encN r.2.2.2.1[i]) = enc4 r ++ flB encN (r.2.2.2.1.take i) ++ Num.putN (u64 r.2.2.2.1[i].1) ++ Num.putT r.2.2.2.1[i].2.1 ++ encPs r.2.2.2.1[i].2.2 by unfold encN; simp only [List.append_assoc]]
    (conv => whnf); refine ⟨rfl, ?_, ?_, ?_⟩ <;> (repeat' apply And.intro) <;> first | exact trivial | rfl | exact wr_succ _ (by omega) | assumption | exact decide_eq_false (by assumption) | exact decide_eq_true (by assumption)
  have h2 : r.2.2.2.1.length ≤ i := by rw [decide_eq_false_iff_not] at h2; omega
  rw [List.take_of_length_le h2]
  clear h2 hi
  have f1 := hsh.f1 r.2.2.2.1.length
  rw [List.take_length] at f1
  conv => whnf
  intro _
  conv => whnf
  refine callp0 [1, 2] rfl rfl (writer_number (enc4 r ++ flB encN r.2.2.2.1) r.2.2.2.2.1.length (by rw [List.length_append]; omega)) rfl rfl rfl rfl rfl ?_
  conv => whnf
  rw [show enc4 r ++ flB encN r.2.2.2.1 ++ Num.putN (u64 r.2.2.2.2.1.length) = enc5 r from rfl]
  intro _
  conv => whnf
  refine loop0 (α := Nat) (fun i => i ≤ r.2.2.2.2.1.length) (fun i => enSt r (enc5 r ++ flB encE (r.2.2.2.2.1.take i)) [(64, .c (.dat ED r.2.2.2.2.1)), (65, .c (.int .i64 r.2.2.2.2.1.length)), (66, .c (.int .i64 i))]) (fun i => r.2.2.2.2.1.length - i) ⟨0, by omega, ?_⟩ ?_
  · rw [List.take_zero, show flB encE [] = [] from rfl, List.append_nil]
    (conv => whnf); refine ⟨rfl, ?_, ?_, ?_⟩ <;> (repeat' apply And.intro) <;> first | exact trivial | rfl | exact wr_succ _ (by omega) | assumption | exact decide_eq_false (by assumption) | exact decide_eq_true (by assumption)
  rintro i hi
  conv => whnf
  refine ⟨fun h2 => ?_, fun h2 => ?_⟩
  · have h2 : i < r.2.2.2.2.1.length := by rw [decide_eq_true_eq] at h2; omega
    have f2 := hsh.f2 i
    have q1 := Num.putN_ten (wrap_u64 r.2.2.2.2.1[i].1).2
    have q2 := Num.putN_ten (wrap_u64 r.2.2.2.2.1[i].2.2.1).2
    have q3 := Num.putN_ten (wrap_u64 r.2.2.2.2.1[i].2.2.2.1).2
    have hgn := hg.g2 _ (List.getElem_mem h2)
    have hwn := hw.2.2.2.2.1.2 _ (List.getElem_mem h2)
    have hnl : r.2.2.2.2.1[i].2.1.length ≤ 140737488351232 := hwn.2.1
    have htl : (Num.putT r.2.2.2.2.1[i].2.1).length ≤ 26 := putT_b (nameS_len (by unfold goodE at hgn; simp only [Bool.and_eq_true] at hgn; exact hgn.1.2))
    have hpl := encPs_len hwn.2.2.2.2
    conv => whnf
    try (intro _; conv => whnf)
    refine ⟨by omega, ?_⟩
    rw [gt_nat (d := ED) r.2.2.2.2.1 i h2]
    conv => whnf
    refine callp0 [1, 2] rfl rfl (writer_number (enc5 r ++ flB encE (r.2.2.2.2.1.take i)) r.2.2.2.2.1[i].1 (by rw [List.length_append]; omega)) rfl rfl rfl rfl rfl ?_
    conv => whnf
    refine any0 ?_
    conv => whnf
    refine callr0 (num_PutText r.2.2.2.2.1[i].2.1 (by omega)) rfl ?_
    conv => whnf
    refine callrp0 [1, 4] rfl rfl rfl (ww_WriteString (.ptr 0 0) (.inr rfl) (enc5 r ++ flB encE (r.2.2.2.2.1.take i) ++ Num.putN (u64 r.2.2.2.2.1[i].1)) (Num.putT r.2.2.2.2.1[i].2.1) (by simp only [List.length_append]; omega)) rfl rfl rfl rfl rfl rfl [] rfl rfl ?_
    conv => whnf
    refine ⟨.inl (by kernel_rfl), after0 ?_⟩
    conv => whnf
    refine callp0 [1, 11] rfl rfl (writer_number (enc5 r ++ flB encE (r.2.2.2.2.1.take i) ++ Num.putN (u64 r.2.2.2.2.1[i].1) ++ Num.putT r.2.2.2.2.1[i].2.1) r.2.2.2.2.1[i].2.2.1 (by simp only [List.length_append]; omega)) rfl rfl rfl rfl rfl ?_
    conv => whnf
    refine callp0 [1, 12] rfl rfl (writer_number (enc5 r ++ flB encE (r.2.2.2.2.1.take i) ++ Num.putN (u64 r.2.2.2.2.1[i].1) ++ Num.putT r.2.2.2.2.1[i].2.1 ++ Num.putN (u64 r.2.2.2.2.1[i].2.2.1)) r.2.2.2.2.1[i].2.2.2.1 (by simp only [List.length_append]; omega)) rfl rfl rfl rfl rfl ?_
    conv => whnf
    refine callp0 [1, 13] rfl rfl (writer_props (enc5 r ++ flB encE (r.2.2.2.2.1.take i) ++ Num.putN (u64 r.2.2.2.2.1[i].1) ++ Num.putT r.2.2.2.2.1[i].2.1 ++ Num.putN (u64 r.2.2.2.2.1[i].2.2.1) ++ Num.putN (u64 r.2.2.2.2.1[i].2.2.2.1)) r.2.2.2.2.1[i].2.2.2.2 hwn.2.2.2.2 (by simp only [List.length_append]; omega)) rfl rfl rfl rfl rfl ?_
    conv => whnf
    refine ⟨i + 1, ⟨by omega, by omega⟩, ?_⟩
    rw [flB_step encE h2, show enc5 r ++ (flB encE (r.2.2.2.2.1.take i) ++ encE r.2.2.2.2.1[i]) = enc5 r ++ flB encE (r.2.2.2.2.1.take i) ++ Num.putN (u64 r.2.2.2.2.1[i].1) ++ Num.putT r.2.2.2.2.1[i].2.1 ++ Num.putN (u64 r.2.2.2.2.1[i].2.2.1) ++ Num.putN (u64 r.2.2.2.2.1[i].2.2.2.1) ++ encPs r.2.2.2.2.1[i].2.2.2.2 by unfold encE; simp only [List.append_assoc]]
    (conv => whnf); refine ⟨rfl, ?_, ?_, ?_⟩ <;> (repeat' apply And.intro) <;> first | exact trivial | rfl | exact wr_succ _ (by omega) | assumption | exact decide_eq_false (by assumption) | exact decide_eq_true (by assumption)
  have h2 : r.2.2.2.2.1.length ≤ i := by rw [decide_eq_false_iff_not] at h2; omega
  rw [List.take_of_length_le h2]
  clear h2 hi
  have f2 := hsh.f2 r.2.2.2.2.1.length
  rw [List.take_length] at f2
  conv => whnf
  intro _
  conv => whnf
  refine callp0 [1, 2] rfl rfl (writer_number (enc5 r ++ flB encE r.2.2.2.2.1) r.2.2.2.2.2.1.length (by rw [List.length_append]; omega)) rfl rfl rfl rfl rfl ?_
  conv => whnf
  rw [show enc5 r ++ flB encE r.2.2.2.2.1 ++ Num.putN (u64 r.2.2.2.2.2.1.length) = enc6 r from rfl]
  intro _
  conv => whnf
  refine loop0 (α := Nat) (fun i => i ≤ r.2.2.2.2.2.1.length) (fun i => enSt r (enc6 r ++ flB (α := Int) encI (r.2.2.2.2.2.1.take i)) [(100, .c (.dat LD r.2.2.2.2.2.1)), (101, .c (.int .i64 r.2.2.2.2.2.1.length)), (102, .c (.int .i64 i))]) (fun i => r.2.2.2.2.2.1.length - i) ⟨0, by omega, ?_⟩ ?_
  · rw [List.take_zero, show flB (α := Int) encI [] = [] from rfl, List.append_nil]
    (conv => whnf); refine ⟨rfl, ?_, ?_, ?_⟩ <;> (repeat' apply And.intro) <;> first | exact trivial | rfl | exact wr_succ _ (by omega) | assumption | exact decide_eq_false (by assumption) | exact decide_eq_true (by assumption)
  rintro i hi
  conv => whnf
  refine ⟨fun h2 => ?_, fun h2 => ?_⟩
  · have h2 : i < r.2.2.2.2.2.1.length := by rw [decide_eq_true_eq] at h2; omega
    have f3 := hsh.f3 i
    conv => whnf
    try (intro _; conv => whnf)
    refine ⟨by omega, ?_⟩
    rw [gt_nat (d := LD) r.2.2.2.2.2.1 i h2]
    conv => whnf
    refine callp0 [1, 2] rfl rfl (writer_number (enc6 r ++ flB (α := Int) encI (r.2.2.2.2.2.1.take i)) r.2.2.2.2.2.1[i] (by rw [List.length_append]; omega)) rfl rfl rfl rfl rfl ?_
    conv => whnf
    refine ⟨i + 1, ⟨by omega, by omega⟩, ?_⟩
    rw [show flB (α := Int) encI (r.2.2.2.2.2.1.take (i + 1)) = flB (α := Int) encI (r.2.2.2.2.2.1.take i) ++ encI r.2.2.2.2.2.1[i] from flB_step (α := Int) encI h2, ← List.append_assoc]
    (conv => whnf); refine ⟨rfl, ?_, ?_, ?_⟩ <;> (repeat' apply And.intro) <;> first | exact trivial | rfl | exact wr_succ _ (by omega) | assumption | exact decide_eq_false (by assumption) | exact decide_eq_true (by assumption)
  have h2 : r.2.2.2.2.2.1.length ≤ i := by rw [decide_eq_false_iff_not] at h2; omega
  rw [List.take_of_length_le h2]
  clear h2 hi
  have f3 := hsh.f3 r.2.2.2.2.2.1.length
  rw [List.take_length] at f3
  have f4 := encCS_len (aC r)
  have f5 := putT_len (encCS (aC r)) (by omega)
  conv => whnf
  refine call1 (cat_Encode (aC r) hw.2.2.2.2.2.2 hl) rfl ?_
  conv => whnf
  refine any0 ?_
  conv => whnf
  refine callr0 (num_PutText (encCS (aC r)) (by omega)) rfl ?_
  conv => whnf
  refine callrp0 [1, 2] rfl rfl rfl (ww_WriteString (.ptr 0 0) (.inr rfl) (enc6 r ++ flB (α := Int) encI r.2.2.2.2.2.1) (Num.putT (encCS (aC r))) (by simp only [List.length_append]; omega)) rfl rfl rfl rfl rfl rfl [] rfl rfl ?_
  conv => whnf
  refine ⟨.inl (by kernel_rfl), after0 ?_⟩
  conv => whnf
  rw [show enc6 r ++ flB (α := Int) encI r.2.2.2.2.2.1 ++ Num.putT (encCS (aC r)) = encA r from rfl]
  refine callp0 [1, 8] rfl rfl (sb_String wT (.ptr 0 0) (.inr rfl) (encA r) (encA_ne r)) rfl rfl rfl rfl rfl ?_
  conv => whnf
def msgA (r : AD.T) : List UInt8 := if goodA r = true then Num.putT (encA r) else []
theorem ans_Message (r : AD.T) (hw : Wf AD r) (hl : (aC r).2.2.1.length ≤ 1000) : FnD Tryd.prog 20 [.agg (ac r)] (· = .tup [(false, [.str (msgA r)]), (false, [.int .i64 (errA r)])]) := by
  refine fn0 Tryd.func20 rfl rfl rfl ?_
  conv => whnf
  refine call1 (ans_Encode r hw hl) rfl ?_
  conv => whnf
  by_cases g : goodA r = true
  · rw [show encAS r = encA r from if_pos g, show errA r = 0 from if_pos g, show msgA r = Num.putT (encA r) from if_pos g]
    refine fk rfl ?_
    conv => whnf
    refine call1 (num_PutText (encA r) (by have := encA_len hw g; omega)) rfl ?_
    conv => whnf
  · rw [show encAS r = [] from if_neg g, show errA r = 11 from if_neg g, show msgA r = [] from if_neg g]
    refine tk rfl ?_
    conv => whnf
end Go.Proofs.YtmdjonckcapkeaaDoor.Ans
/- The walks of sess.Session: New, Closed, Waiting, Held, Take, Head, Answer, Feed. Own work. -/
set_option linter.unusedVariables false
set_option maxRecDepth 100000
namespace Go.Proofs.YtmdjonckcapkeaaDoor
open Go Go.RowKit OE

abbrev sT : Nat := 64
abbrev scs (a : Ss) : List C := .str a.inp :: .chn 1 :: (mc a.hd ++ [.bool (.sym a.there), .str a.out, .bool (.sym a.cl)])
abbrev hpS (a : Ss) : List (Nat × Ob) := [(0, .cells sT (scs a)), (1, .chan 64 MD a.xs a.s a.r)]
abbrev kpS : List (Nat × Bool) := [(0, false), (1, false)]
theorem sess_New : FnP Tryd.prog 8 [] [] 0 [] (.c (.ptr 0 0)) (hpS S0) 2 := by
  obtain ⟨i0, hi, hii⟩ := Option.map_eq_some_iff.1 (show (Tryd.prog.info? 36).map (fun i => decide (i.bytes ≤ 10000)) = some true by kernel_rfl)
  have hii := of_decide_eq_true hii
  refine fnP noI Tryd.func8 rfl rfl rfl rfl ?_
  conv => whnf
  refine mkchan0 MD (m := 64) i0 rfl rfl Tryd.underlying62 hi (by omega) (by decide) ?_
  conv => whnf
  refine ⟨rfl, ?_, ?_, ?_⟩ <;> (repeat' apply And.intro) <;> first | exact trivial | rfl | assumption
theorem sess_Closed (a : Ss) : FnP Tryd.prog 12 [.c (.ptr 0 0)] (hpS a) 2 kpS (.c (.bool (.sym a.cl))) (hpS a) 2 := by
  refine fnP noI Tryd.func12 rfl rfl rfl rfl ?_
  conv => whnf
  refine ⟨rfl, ?_, ?_, ?_⟩ <;> (repeat' apply And.intro) <;> first | exact trivial | rfl | assumption
theorem sess_Held (a : Ss) : FnP Tryd.prog 13 [.c (.ptr 0 0)] (hpS a) 2 kpS (.c (.int .i64 a.inp.length)) (hpS a) 2 := by
  refine fnP noI Tryd.func13 rfl rfl rfl rfl ?_
  conv => whnf
  refine ⟨rfl, ?_, ?_, ?_⟩ <;> (repeat' apply And.intro) <;> first | exact trivial | rfl | assumption
theorem sess_Take (a : Ss) : FnP Tryd.prog 17 [.c (.ptr 0 0)] (hpS a) 2 kpS (.c (.str a.out)) (hpS { a with out := [] }) 2 := by
  refine fnP noI Tryd.func17 rfl rfl rfl rfl ?_
  conv => whnf
  refine ⟨rfl, ?_, ?_, ?_⟩ <;> (repeat' apply And.intro) <;> first | exact trivial | rfl | assumption
theorem sess_Waiting (a : Ss) (h : a.xs.length ≤ 64) : FnP Tryd.prog 11 [.c (.ptr 0 0)] (hpS a) 2 kpS (.c (.int .i64 a.q.length)) (hpS a) 2 := by
  refine fnP noI Tryd.func11 rfl rfl rfl rfl ?_
  conv => whnf
  refine lenchan0 rfl Tryd.underlying62 rfl rfl ?_
  conv => whnf
  refine ⟨fun t => ?_, fun t => ?_⟩
  · have e : ((a.q.length : Nat) : Int) = IntKind.wrap .i64 ((a.xs.length : Int) + 1) := by rw [q_len, if_pos t, wr64 _ (by omega) (by omega)]; omega
    rw [e]
    conv => whnf
    refine ⟨rfl, ?_, ?_, ?_⟩ <;> (repeat' apply And.intro) <;> first | exact trivial | rfl | assumption
  · have e : a.q.length = a.xs.length := by rw [q_len, if_neg (by rw [t]; decide)]; omega
    rw [e]
    conv => whnf
    refine ⟨rfl, ?_, ?_, ?_⟩ <;> (repeat' apply And.intro) <;> first | exact trivial | rfl | assumption
theorem zero_cmd (w : World) : (zeroValue 36).run Tryd.prog w = .ok (MD.v MD.df) w := by
  rfl
theorem sess_Head (a : Ss) : FnP Tryd.prog 14 [.c (.ptr 0 0)] (hpS a) 2 kpS (.tup [(true, mc (if (headS a).there = true then (headS a).hd else MD.df)), (false, [.bool (.sym (headS a).there)])]) (hpS (headS a)) 2 := by
  obtain ⟨i, xs, s, r, hd, t, o, c⟩ := a
  refine fnP noI Tryd.func14 rfl rfl rfl rfl ?_
  conv => whnf
  cases t with
  | true =>
    refine fk rfl ?_
    conv => whnf
    refine ⟨rfl, ?_, ?_, ?_⟩ <;> (repeat' apply And.intro) <;> first | exact trivial | rfl | assumption
  | false =>
    refine tk rfl ?_
    conv => whnf
    refine sel0 0 rfl rfl rfl rfl rfl rfl rfl rfl MD.df (fun w => zero_cmd w) (fun hx => ?_) (fun y ys hx => ?_)
    · subst hx
      conv => whnf
      refine ⟨fun h => absurd h (by decide), fun _ => ?_⟩
      conv => whnf
      refine ⟨rfl, ?_, ?_, ?_⟩ <;> (repeat' apply And.intro) <;> first | exact trivial | rfl | assumption
    · subst hx
      conv => whnf
      refine ⟨fun _ => ?_, fun h => absurd h (by decide)⟩
      conv => whnf
      refine ⟨rfl, ?_, ?_, ?_⟩ <;> (repeat' apply And.intro) <;> first | exact trivial | rfl | assumption
theorem sess_Answer (a : Ss) (r : Ans.AD.T) (hw : Wf Ans.AD r) (hl : (Ans.aC r).2.2.1.length ≤ 1000) (ho : a.out.length ≤ 1000000000000) : FnP Tryd.prog 16 [.c (.ptr 0 0), .agg (Ans.ac r)] (hpS a) 2 kpS (.c (.int .i64 (ansS a r).2)) (hpS (ansS a r).1) 2 := by
  refine fnP noI Tryd.func16 rfl rfl rfl rfl ?_
  conv => whnf
  refine callp0 [0, 1] rfl rfl (sess_Head a) rfl rfl rfl rfl rfl ?_
  conv => whnf
  have hb : (headS a).out = a.out := by
    unfold headS
    split
    · rfl
    · split <;> rfl
  generalize (if (headS a).there = true then (headS a).hd else MD.df) = m
  refine ⟨fun h => ?_, fun h => ?_⟩
  · rw [show ansS a r = (headS a, 60) from if_pos (by simpa using h)]
    conv => whnf
    refine ⟨rfl, ?_, ?_, ?_⟩ <;> (repeat' apply And.intro) <;> first | exact trivial | rfl | assumption
  have h : ¬ (headS a).there = false := by simpa using h
  conv => whnf
  refine call1 (Ans.ans_Message r hw hl) rfl ?_
  conv => whnf
  by_cases g : Ans.goodA r = true
  · rw [show ansS a r = ({ headS a with there := false, out := a.out ++ Num.putT (Ans.encA r) }, 0) from (if_neg h).trans (if_pos g), show Ans.errA r = 0 from if_pos g, show Ans.msgA r = Num.putT (Ans.encA r) from if_pos g]
    have hl2 := Ans.putT_len (Ans.encA r) (by have := Ans.encA_len hw g; omega)
    have hl3 := Ans.encA_len hw g
    refine fk rfl ?_
    conv => whnf
    rw [hb]
    refine ⟨by omega, ?_⟩
    conv => whnf
    refine ⟨rfl, ?_, ?_, ?_⟩ <;> (repeat' apply And.intro) <;> first | exact trivial | rfl | assumption
  · rw [show ansS a r = (headS a, 11) from (if_neg h).trans (if_neg g), show Ans.errA r = 11 from if_neg g]
    refine tk rfl ?_
    conv => whnf
    refine ⟨rfl, ?_, ?_, ?_⟩ <;> (repeat' apply And.intro) <;> first | exact trivial | rfl | assumption
theorem sess_Feed (a : Ss) (d : List UInt8) (hb : a.inp.length + d.length ≤ 100000000) (hq : a.q.length ≤ 64) : FnP Tryd.prog 9 [.c (.ptr 0 0), .c (.str d)] (hpS a) 2 kpS .un (hpS (feedS a d)) 2 := by
  refine fnP noI Tryd.func9 rfl rfl rfl rfl ?_
  conv => whnf
  refine callp0 [0, 1] rfl rfl (sess_Closed a) rfl rfl rfl rfl rfl ?_
  conv => whnf
  refine ⟨fun c => ?_, fun c => ?_⟩
  · have c : a.cl = true := c
    rw [show feedS a d = a from if_pos c]
    conv => whnf
    refine ⟨rfl, ?_, ?_, ?_⟩ <;> (repeat' apply And.intro) <;> first | exact trivial | rfl | assumption
  have c : a.cl = false := c
  conv => whnf
  refine ⟨by omega, ?_⟩
  conv => whnf
  refine loop0 (α := Ss × Nat) (fun p => p.1.inp.length + 1 ≤ p.2 ∧ p.1.q.length ≤ 64 ∧ p.1.inp.length ≤ 100000000 ∧ fdL p.2 p.1 = feedS a d) (fun p => ⟨[(0, .c (.ptr 0 0))], hpS p.1, 2⟩) (fun p => p.2) ⟨({ a with inp := a.inp ++ d }, a.inp.length + d.length + 1), ⟨by dsimp only; rw [List.length_append]; omega, hq, by dsimp only; rw [List.length_append]; omega, (if_neg (by rw [c]; decide)).symm⟩, ?_⟩ ?_
  · (conv => whnf); refine ⟨rfl, ?_, ?_, ?_⟩ <;> (repeat' apply And.intro) <;> first | exact trivial | rfl | exact wr_succ _ (by omega) | assumption | exact decide_eq_false (by assumption) | exact decide_eq_true (by assumption)
  rintro ⟨x, n⟩ ⟨hn, hq, hl, hE⟩
  dsimp only at hn hq hl hE ⊢
  obtain ⟨m, rfl⟩ : ∃ m, n = m + 1 := ⟨n - 1, by omega⟩
  conv => whnf
  refine call1 (wire_Next x.inp hl) rfl ?_
  conv => whnf
  refine ⟨fun e => ?_, fun e => ?_⟩
  · have e : (!decide (nx3 x.inp = 0)) = true := e
    have hB : badF x = true := by unfold badF; rw [e]; rfl
    rw [← hE, show fdL (m + 1) x = { x with inp := [], cl := true } from if_pos hB]
    conv => whnf
    refine ⟨rfl, ?_, ?_, ?_⟩ <;> (repeat' apply And.intro) <;> first | exact trivial | rfl | assumption
  have e : (!decide (nx3 x.inp = 0)) = false := e
  conv => whnf
  refine ⟨fun z => ?_, fun z => ?_⟩
  · have z : decide (0 < nx2 x.inp) = true := z
    conv => whnf
    have hxs : x.xs.length ≤ 64 := by rw [q_len] at hq; omega
    refine callp0 [0, 1] rfl rfl (sess_Waiting x hxs) rfl rfl rfl rfl rfl ?_
    conv => whnf
    refine ⟨fun y => ?_, fun y => ?_⟩
    · have y : x.q.length = 64 := by rw [decide_eq_true_eq] at y; omega
      have hB : badF x = true := by unfold badF; rw [z, decide_eq_true y]; simp
      rw [← hE, show fdL (m + 1) x = { x with inp := [], cl := true } from if_pos hB]
      conv => whnf
      refine ⟨rfl, ?_, ?_, ?_⟩ <;> (repeat' apply And.intro) <;> first | exact trivial | rfl | assumption
    have y : ¬ x.q.length = 64 := by rw [decide_eq_false_iff_not] at y; omega
    have hB : ¬ badF x = true := by unfold badF; rw [e, decide_eq_false y]; simp
    conv => whnf
    refine ⟨fun u => ?_, fun u => ?_⟩
    · have u : nx2 x.inp = 0 := of_decide_eq_true u
      rw [decide_eq_true_eq] at z
      omega
    have u : ¬ nx2 x.inp = 0 := of_decide_eq_false u
    rw [show fdL (m + 1) x = fdL m (takeF x) from (if_neg hB).trans (if_neg u)] at hE
    have hbd := nx_bd x.inp
    have hx2 : x.xs.length < 64 := by rw [q_len] at hq y; split at hq <;> simp_all <;> omega
    conv => whnf
    refine call1 (wire_Decode (nx1 x.inp) (by have := nx1_le x.inp; omega)) rfl ?_
    conv => whnf
    refine sendd0 5 (b := 1) (y := decM (nx1 x.inp)) [(0, .c (.ptr 0 0)), (5, .c (.int .i64 (nx2 x.inp)))] rfl rfl rfl rfl rfl hx2 [[0, 1, 2, 3, 4, 5], [0, 1, 2, 4, 3, 5], [0, 1, 4, 2, 3, 5], [0, 4, 1, 2, 3, 5], [4, 0, 1, 2, 3, 5]] (by kernel_rfl) (fun l hl => ?_) ?_
    · simp only [List.mem_cons, List.not_mem_nil, or_false] at hl
      rcases hl with rfl | rfl | rfl | rfl | rfl
      · exact ⟨[0, 1, 2, 3, 4], _, rfl, rfl, rfl, rfl, rfl, rfl, trivial⟩
      · exact ⟨[0, 1, 2, 4, 3], _, rfl, rfl, rfl, rfl, rfl, rfl, trivial⟩
      · exact ⟨[0, 1, 4, 2, 3], _, rfl, rfl, rfl, rfl, rfl, rfl, trivial⟩
      · exact ⟨[0, 4, 1, 2, 3], _, rfl, rfl, rfl, rfl, rfl, rfl, trivial⟩
      · exact ⟨[4, 0, 1, 2, 3], _, rfl, rfl, rfl, rfl, rfl, rfl, trivial⟩
    conv => whnf
    refine ⟨hbd, ?_⟩
    conv => whnf
    have hi : (takeF x).inp.length = x.inp.length - (nx2 x.inp).toNat := by show (x.inp.drop _).length = _; rw [List.length_drop]
    have hlq : (takeF x).q.length = x.q.length + 1 := by rw [take_q, List.length_append]; rfl
    have hcut : (takeF x).inp = List.drop (nx2 x.inp).toNat (List.take x.inp.length x.inp) := by rw [List.take_length]; rfl
    refine ⟨(takeF x, m), ⟨⟨by dsimp only; omega, by dsimp only; omega, by dsimp only; omega, hE⟩, by dsimp only; omega⟩, ?_⟩
    (conv => whnf); refine ⟨rfl, ?_, ?_, ?_⟩ <;> (repeat' apply And.intro) <;> first | exact trivial | rfl | exact wr_succ _ (by omega) | assumption | exact decide_eq_false (by assumption) | exact decide_eq_true (by assumption)
  have z : decide (0 < nx2 x.inp) = false := z
  have hB : ¬ badF x = true := by unfold badF; rw [e, z]; simp
  conv => whnf
  refine ⟨fun u => ?_, fun u => ?_⟩
  · have u : nx2 x.inp = 0 := of_decide_eq_true u
    rw [← hE, show fdL (m + 1) x = x from (if_neg hB).trans (if_pos u)]
    conv => whnf
    refine ⟨rfl, ?_, ?_, ?_⟩ <;> (repeat' apply And.intro) <;> first | exact trivial | rfl | assumption
  · have u : ¬ nx2 x.inp = 0 := of_decide_eq_false u
    have hbd := nx_bd x.inp
    rw [decide_eq_false_iff_not] at z
    omega
end Go.Proofs.YtmdjonckcapkeaaDoor
/- A session that nobody made; replies of a code alone. Own work. -/
set_option linter.unusedVariables false
set_option maxRecDepth 100000
namespace Go.Proofs.YtmdjonckcapkeaaDoor
open Go Go.RowKit OE

abbrev nilP : SV := .c (.val (.pointer none))
theorem nil_Closed : FnD Tryd.prog 12 [nilP] (· = .c (.bool (.sym true))) := by
  refine fn0 Tryd.func12 rfl rfl rfl ?_
  conv => whnf
theorem nil_Held : FnD Tryd.prog 13 [nilP] (· = .c (.int .i64 0)) := by
  refine fn0 Tryd.func13 rfl rfl rfl ?_
  conv => whnf
theorem nil_Take : FnD Tryd.prog 17 [nilP] (· = .c (.str [])) := by
  refine fn0 Tryd.func17 rfl rfl rfl ?_
  conv => whnf
theorem nil_Waiting : FnD Tryd.prog 11 [nilP] (· = .c (.int .i64 0)) := by
  refine fn0 Tryd.func11 rfl rfl rfl ?_
  conv => whnf
theorem nil_Head : FnD Tryd.prog 14 [nilP] (· = .tup [(true, mc MD.df), (false, [.bool (.sym false)])]) := by
  refine fn0 Tryd.func14 rfl rfl rfl ?_
  conv => whnf
  rfl
theorem nil_Feed (d : List UInt8) : FnD Tryd.prog 9 [nilP, .c (.str d)] (· = .tup []) := by
  refine fn0 Tryd.func9 rfl rfl rfl ?_
  conv => whnf
  refine call1 (nil_Closed) rfl ?_
  conv => whnf
  refine tk rfl ?_
  conv => whnf
theorem nil_Answer (r : Ans.AD.T) : FnD Tryd.prog 16 [nilP, .agg (Ans.ac r)] (· = .c (.int .i64 1)) := by
  refine fn0 Tryd.func16 rfl rfl rfl ?_
  conv => whnf
/-- a reply of a code and an Id, as it is built -/
def rN (n i : Int) : Ans.AD.T := (n, i, 0, [], [], [], C0)
abbrev anC (n i : Int) : List C := [.int .i64 n, .int .i64 i, .int .i64 0, .val (.slice none 0 0), .val (.slice none 0 0), .val (.slice none 0 0), .val (.slice none 0 0), .val (.slice none 0 0), .val (.slice none 0 0), .val (.slice none 0 0), .int .i64 0]
theorem nilRep {w : World} {ok : Nat → Prop} {n i : Int} (v : Value) (h : RS (DX w ok) (.agg (anC n i)) v) : RS (DX w ok) (.agg (Ans.ac (rN n i))) v := by
  obtain ⟨vs, e, hl⟩ := h
  refine ⟨vs, e, ?_⟩
  generalize vs.toList = m at hl
  match m, hl with
  | [a, b, c, d, e, f, g, h, i, j, k], ⟨h1, h2, h3, h4, h5, h6, h7, h8, h9, h10, h11, _⟩ => exact ⟨h1, h2, h3, nilC h4, nilC h5, nilC h6, nilC h7, nilC h8, nilC h9, nilC h10, h11, trivial⟩
theorem rN_wf (n i : Int) (hn : (Lit.int .i64 n).wf = true) (hi : (Lit.int .i64 i).wf = true) : Wf Ans.AD (rN n i) :=
  ⟨hn, hi, lit_ok 0 (by decide) (by decide), ⟨Nat.zero_le _, fun _ h => by cases h⟩, ⟨Nat.zero_le _, fun _ h => by cases h⟩, ⟨Nat.zero_le _, fun _ h => by cases h⟩, (Ans.catOf_wf []).1⟩
theorem rN_good (n i : Int) (h0 : 0 ≤ n) (h1 : n ≤ 1000) (i0 : 0 ≤ i) (i1 : i ≤ 1000) : Ans.goodA (rN n i) = true := by
  have e : Ans.okId i = true := by unfold Ans.okId; rw [decide_eq_true i0, decide_eq_true (by omega)]; rfl
  have b : Ans.bndA (rN n i) = false := by
    show (decide (n < 0) || decide ((1000 : Int) < n) || false || false || false || false || false) = false
    rw [decide_eq_false (by omega), decide_eq_false (by omega)]
    rfl
  unfold Ans.goodA Ans.headA
  rw [b, show (rN n i).2.1 = i from rfl, e]
  rfl
theorem rN_bad (i : Int) : Ans.goodA (rN (-1) i) = false := by rfl
theorem sess_AnswerN (a : Ss) (n i : Int) (hw : Wf Ans.AD (rN n i)) (ho : a.out.length ≤ 1000000000000) : FnP Tryd.prog 16 [.c (.ptr 0 0), .agg (anC n i)] (hpS a) 2 kpS (.c (.int .i64 (ansS a (rN n i)).2)) (hpS (ansS a (rN n i)).1) 2 := by
  refine fnP noI Tryd.func16 rfl rfl rfl rfl ?_
  conv => whnf
  refine callp0 [0, 1] rfl rfl (sess_Head a) rfl rfl rfl rfl rfl ?_
  conv => whnf
  have hb : (headS a).out = a.out := by
    unfold headS
    split
    · rfl
    · split <;> rfl
  generalize (if (headS a).there = true then (headS a).hd else MD.df) = m
  refine ⟨fun h => ?_, fun h => ?_⟩
  · rw [show ansS a (rN n i) = (headS a, 60) from if_pos (by simpa using h)]
    conv => whnf
    refine ⟨rfl, ?_, ?_, ?_⟩ <;> (repeat' apply And.intro) <;> first | exact trivial | rfl | assumption
  have h : ¬ (headS a).there = false := by simpa using h
  conv => whnf
  refine call1 ((Ans.ans_Message (rN n i) hw (Nat.zero_le _)).args fun w ok => ⟨nilRep, trivial⟩) rfl ?_
  conv => whnf
  by_cases g : Ans.goodA (rN n i) = true
  · rw [show ansS a (rN n i) = ({ headS a with there := false, out := a.out ++ Num.putT (Ans.encA (rN n i)) }, 0) from (if_neg h).trans (if_pos g), show Ans.errA (rN n i) = 0 from if_pos g, show Ans.msgA (rN n i) = Num.putT (Ans.encA (rN n i)) from if_pos g]
    have hl2 := Ans.putT_len (Ans.encA (rN n i)) (by have := Ans.encA_len hw g; omega)
    have hl3 := Ans.encA_len hw g
    refine fk rfl ?_
    conv => whnf
    rw [hb]
    refine ⟨by omega, ?_⟩
    conv => whnf
    refine ⟨rfl, ?_, ?_, ?_⟩ <;> (repeat' apply And.intro) <;> first | exact trivial | rfl | assumption
  · rw [show ansS a (rN n i) = (headS a, 11) from (if_neg h).trans (if_neg g), show Ans.errA (rN n i) = 11 from if_neg g]
    refine tk rfl ?_
    conv => whnf
    refine ⟨rfl, ?_, ?_, ?_⟩ <;> (repeat' apply And.intro) <;> first | exact trivial | rfl | assumption
end Go.Proofs.YtmdjonckcapkeaaDoor
/- The walk of the reference's Next; what the message is, by its first bytes. Own work. -/
set_option linter.unusedVariables false
set_option maxRecDepth 100000
namespace Go.Proofs.YtmdjonckcapkeaaDoor
open Go Go.RowKit OE

/-- a length and what is behind it -/
def finM (s : List UInt8) (n k : Nat) : List UInt8 × Int × Int :=
  if s.length < n + k then ([], 0, 0) else ((s.drop k).take n, ((k + n : Nat) : Int), 0)
theorem getN_zero (s : List UInt8) : Num.getN s 0 = Num.getL s 0 0 := by
  unfold Num.getN
  rw [if_neg (by omega)]
  rfl
theorem getL_one (c : UInt8) (l : List UInt8) : Num.getL (c :: l) 0 0 = if c.toNat < 128 then some (c.toNat, 1) else Num.getL l 1 (c.toNat % 128) := by
  simp only [Num.getL]
  rw [if_neg (by omega)]
  split
  · rename_i h; rw [Nat.mod_eq_of_lt h]; simp
  · simp
theorem getL_two (d : UInt8) (l : List UInt8) (n : Nat) : Num.getL (d :: l) 1 n = if d.toNat = 0 then none else if d.toNat < 128 then some (n + d.toNat % 128 * 128, 2) else Num.getL l 2 (n + d.toNat % 128 * 128) := by
  simp only [Num.getL]
  by_cases h : d.toNat = 0
  · rw [if_pos (.inr ⟨h, by omega⟩), if_pos h]
  · rw [if_neg (by omega), if_neg h]
theorem nx_some {s : List UInt8} {n k : Nat} (h : Num.getN s 0 = some (n, k)) (hn : n ≤ 8192) : nextM s = finM s n k := by
  have h1 : nS s 0 = (n, k) := by unfold nS; rw [h]; rfl
  unfold nextM
  have h2 : ¬ ((some (n, k) : Option (Nat × Nat)).isSome = false ∧ lackS s = true) := fun h => by cases h.1
  have h3 : ¬ ((some (n, k) : Option (Nat × Nat)).isSome = false ∨ (8192 : Int) < ((n, k) : Nat × Nat).1) := by
    rintro (h | h)
    · cases h
    · dsimp only at h; omega
  rw [h1, h, if_neg h2, if_neg h3]
  rfl
theorem nx_bad {s : List UInt8} (h : ∀ n k, Num.getN s 0 = some (n, k) → 8192 < n) (hl : lackS s = false) : nextM s = ([], 0, 11) := by
  unfold nextM
  rw [if_neg (by rintro ⟨_, h⟩; rw [hl] at h; cases h), if_pos]
  cases hg : Num.getN s 0 with
  | none => exact .inl rfl
  | some p =>
    have := h p.1 p.2 hg
    have h1 : nS s 0 = p := by unfold nS; rw [hg]; rfl
    rw [h1]
    exact .inr (by omega)
theorem nx_nil : nextM [] = ([], 0, 0) := by rfl
theorem nx_one {c : UInt8} {l : List UInt8} (h : c.toNat < 128) : nextM (c :: l) = finM (c :: l) c.toNat 1 :=
  nx_some (by rw [getN_zero, getL_one, if_pos h]) (by omega)
theorem nx_short {c : UInt8} (h : 128 ≤ c.toNat) : nextM [c] = ([], 0, 0) := by
  unfold nextM
  rw [if_pos ⟨by rw [getN_zero, getL_one, if_neg (by omega)]; rfl, by simp [lackS, h]⟩]
theorem nx_two {c d : UInt8} {l : List UInt8} (h : 128 ≤ c.toNat) (h1 : d.toNat ≠ 0) (h2 : d.toNat < 128) (h3 : c.toNat % 128 + d.toNat % 128 * 128 ≤ 8192) : nextM (c :: d :: l) = finM (c :: d :: l) (c.toNat % 128 + d.toNat % 128 * 128) 2 :=
  nx_some (by rw [getN_zero, getL_one, if_neg (by omega), getL_two, if_neg h1, if_pos h2]) h3
theorem nx_err {c d : UInt8} {l : List UInt8} (h : 128 ≤ c.toNat) (h1 : d.toNat = 0 ∨ 8192 < c.toNat % 128 + d.toNat % 128 * 128 ∨ 128 ≤ d.toNat) : nextM (c :: d :: l) = ([], 0, 11) := by
  refine nx_bad (fun n k hg => ?_) rfl
  rw [getN_zero, getL_one, if_neg (by omega), getL_two] at hg
  split at hg
  · cases hg
  · rename_i h0
    split at hg
    · simp only [Option.some.injEq, Prod.mk.injEq] at hg
      omega
    · obtain ⟨m, e, _, h2, _⟩ := Num.getL_take hg
      rcases h2 with h2 | h2
      · cases h2
      · have : m * 128 ^ 2 = m * 16384 := by rfl
        omega
abbrev nxR (p : List UInt8 × Int × Int) : SV := .tup [(true, [.str p.1, .int .i64 p.2.1]), (false, [.int .i64 p.2.2])]
end Go.Proofs.YtmdjonckcapkeaaDoor
/- What becomes of a session's queue, bytes, replies; no program in sight. Own work. -/
set_option linter.unusedVariables false
set_option maxRecDepth 100000
namespace Go.Proofs.YtmdjonckcapkeaaDoor
open Go Go.RowKit OE

/-- a session, but for how its commands are kept -/
structure Rs where
  inp : List UInt8
  L : List MD.T
  out : List UInt8
  cl : Bool
def Ss.ab (a : Ss) : Rs := ⟨a.inp, a.q, a.out, a.cl⟩
def badR (p : Rs) : Bool := !decide (nx3 p.inp = 0) || (decide (0 < nx2 p.inp) && decide (p.L.length = 64))
def takeR (p : Rs) : Rs := { p with L := p.L ++ [decM (nx1 p.inp)], inp := p.inp.drop (nx2 p.inp).toNat }
def fR : Nat → Rs → Rs
  | 0, p => p
  | n + 1, p => if badR p = true then { p with inp := [], cl := true } else if nx2 p.inp = 0 then p else fR n (takeR p)
def run (p : Rs) : Rs := fR (p.inp.length + 1) p
def feedR (p : Rs) (d : List UInt8) : Rs := if p.cl = true then p else run { p with inp := p.inp ++ d }
theorem fdL_ab : ∀ (n : Nat) (a : Ss), (fdL n a).ab = fR n a.ab
  | 0, a => rfl
  | n + 1, a => by
    unfold fdL fR
    have e : badR a.ab = badF a := rfl
    have e2 : nx2 a.ab.inp = nx2 a.inp := rfl
    rw [e, e2]
    by_cases h : badF a = true
    · rw [if_pos h, if_pos h]; rfl
    · rw [if_neg h, if_neg h]
      by_cases h2 : nx2 a.inp = 0
      · rw [if_pos h2, if_pos h2]
      · rw [if_neg h2, if_neg h2, fdL_ab n (takeF a)]
        have : (takeF a).ab = takeR a.ab := by
          unfold Ss.ab takeR
          rw [take_q]
          rfl
        rw [this]
theorem feed_ab (a : Ss) (d : List UInt8) : (feedS a d).ab = feedR a.ab d := by
  unfold feedS feedR
  have e : a.ab.cl = a.cl := rfl
  rw [e]
  split
  · rfl
  · rw [fdL_ab]
    unfold run
    rw [show (({ a.ab with inp := a.ab.inp ++ d } : Rs).inp).length = a.inp.length + d.length from List.length_append]
    rfl
/-! a message that stands there stays, whatever follows -/
theorem fin_ext {s t : List UInt8} {n k : Nat} (h : n + k ≤ s.length) : finM (s ++ t) n k = finM s n k := by
  unfold finM
  rw [if_neg (by rw [List.length_append]; omega), if_neg (by omega), List.drop_append_of_le_length (by omega), List.take_append_of_le_length (by rw [List.length_drop]; omega)]
theorem fin_pos {s : List UInt8} {n k : Nat} (h : 0 < (finM s n k).2.1) : n + k ≤ s.length := by
  unfold finM at h
  split at h
  · exact absurd h (by decide)
  · omega
theorem fin_ok (s : List UInt8) (n k : Nat) : (finM s n k).2.2 = 0 := by
  unfold finM
  split <;> rfl
/-- how a message begins -/
inductive Begins (s : List UInt8) : Prop where
  | err (h : ∀ t, nextM (s ++ t) = ([], 0, 11))
  | msg (n k : Nat) (h : ∀ t, nextM (s ++ t) = finM (s ++ t) n k)
  | few (h : nextM s = ([], 0, 0))
theorem begins : ∀ s : List UInt8, Begins s
  | [] => .few nx_nil
  | [c] => by
    by_cases h : c.toNat < 128
    · exact .msg _ _ fun t => nx_one h
    · exact .few (nx_short (by omega))
  | c :: d :: l => by
    by_cases h : c.toNat < 128
    · exact .msg _ _ fun t => nx_one h
    · by_cases h2 : d.toNat = 0 ∨ 8192 < c.toNat % 128 + d.toNat % 128 * 128 ∨ 128 ≤ d.toNat
      · exact .err fun t => nx_err (by omega) h2
      · exact .msg _ _ fun t => nx_two (by omega) (by omega) (by omega) (by omega)
theorem nx_errx {s : List UInt8} (h : nx3 s ≠ 0) (t : List UInt8) : nx3 (s ++ t) ≠ 0 := by
  unfold nx3 at h ⊢
  rcases begins s with b | ⟨n, k, b⟩ | b
  · rw [b t]; decide
  · have := b []
    rw [List.append_nil] at this
    rw [this, fin_ok] at h
    exact absurd rfl h
  · rw [b] at h
    exact absurd rfl h
theorem nx_ext {s : List UInt8} (h : 0 < nx2 s) (t : List UInt8) : nextM (s ++ t) = nextM s := by
  unfold nx2 at h
  rcases begins s with b | ⟨n, k, b⟩ | b
  · have := b []
    rw [List.append_nil] at this
    rw [this] at h
    exact absurd h (by decide)
  · have e := b []
    rw [List.append_nil] at e
    rw [e] at h
    rw [b t, e, fin_ext (fin_pos h)]
  · rw [b] at h
    exact absurd h (by decide)
theorem fR_fuel : ∀ (n m : Nat) (p : Rs), p.inp.length < n → p.inp.length < m → fR n p = fR m p
  | 0, _, p, h, _ => by omega
  | _, 0, p, _, h => by omega
  | n + 1, m + 1, p, h1, h2 => by
    unfold fR
    split
    · rfl
    · split
      · rfl
      · rename_i _ h3
        have hb := nx_bd p.inp
        have hl : (takeR p).inp.length < p.inp.length := by
          show (p.inp.drop _).length < _
          rw [List.length_drop]
          omega
        exact fR_fuel n m (takeR p) (by omega) (by omega)
theorem run_eq (p : Rs) : run p = if badR p = true then { p with inp := [], cl := true } else if nx2 p.inp = 0 then p else run (takeR p) := by
  unfold run
  rw [fR]
  split
  · rfl
  · split
    · rfl
    · rename_i _ h3
      have hb := nx_bd p.inp
      have hl : (takeR p).inp.length < p.inp.length := by
        show (p.inp.drop _).length < _
        rw [List.length_drop]
        omega
      exact fR_fuel _ _ _ (by omega) (by omega)
theorem run_app : ∀ (n : Nat) (p : Rs) (t : List UInt8), p.inp.length ≤ n → p.cl = false → run { p with inp := p.inp ++ t } = feedR (run p) t := by
  intro n
  induction n with
  | zero =>
    intro p t hn hc
    have e : p.inp = [] := List.eq_nil_of_length_eq_zero (by omega)
    have hr : run p = p := by
      rw [run_eq, e]
      unfold badR
      rw [e]
      rfl
    rw [hr]
    unfold feedR
    rw [if_neg (by rw [hc]; decide)]
  | succ n ih =>
    intro p t hn hc
    rw [run_eq p]
    by_cases hb : badR p = true
    · have hb2 : badR { p with inp := p.inp ++ t } = true := by
        unfold badR at hb ⊢
        rw [Bool.or_eq_true] at hb ⊢
        rcases hb with hb | hb
        · left
          have : nx3 p.inp ≠ 0 := by simpa using hb
          have := nx_errx this t
          simpa using this
        · right
          rw [Bool.and_eq_true, decide_eq_true_eq, decide_eq_true_eq] at hb ⊢
          exact ⟨by show 0 < nx2 (p.inp ++ t); unfold nx2; rw [nx_ext hb.1]; exact hb.1, hb.2⟩
      rw [run_eq { p with inp := p.inp ++ t }, if_pos hb, if_pos hb2]
      rfl
    · rw [if_neg hb]
      by_cases h0 : nx2 p.inp = 0
      · rw [if_pos h0]
        unfold feedR
        rw [if_neg (by rw [hc]; decide)]
      · have hbd := nx_bd p.inp
        have hx := nx_ext (s := p.inp) (by omega) t
        have hb2 : ¬ badR { p with inp := p.inp ++ t } = true := by
          unfold badR at hb ⊢
          unfold nx3 nx2 at hb ⊢
          dsimp only at hb ⊢
          rw [hx]
          exact hb
        have h02 : ¬ nx2 ({ p with inp := p.inp ++ t } : Rs).inp = 0 := by
          show ¬ nx2 (p.inp ++ t) = 0
          unfold nx2 at h0 ⊢
          rw [hx]
          exact h0
        rw [run_eq { p with inp := p.inp ++ t }, if_neg h0, if_neg hb2, if_neg h02]
        have hl : (takeR p).inp.length < p.inp.length := by
          show (p.inp.drop _).length < _
          rw [List.length_drop]
          omega
        have e : takeR { p with inp := p.inp ++ t } = { takeR p with inp := (takeR p).inp ++ t } := by
          unfold takeR nx1 nx2
          dsimp only
          rw [hx]
          have h1 : (nextM p.inp).2.1.toNat ≤ p.inp.length := by
            have : (nextM p.inp).2.1 ≤ p.inp.length := hbd.2
            omega
          rw [List.drop_append_of_le_length h1]
        rw [e]
        exact ih (takeR p) t (by omega) hc
theorem run_len : ∀ (n : Nat) (p : Rs), p.inp.length ≤ n → p.L.length ≤ 64 → (run p).L.length ≤ 64 ∧ (run p).inp.length ≤ p.inp.length ∧ (run p).out = p.out := by
  intro n
  induction n with
  | zero =>
    intro p hn hl
    rw [run_eq]
    split
    · exact ⟨hl, Nat.zero_le _, rfl⟩
    · split
      · exact ⟨hl, Nat.le_refl _, rfl⟩
      · rename_i _ h
        have hb := nx_bd p.inp
        omega
  | succ n ih =>
    intro p hn hl
    rw [run_eq]
    split
    · exact ⟨hl, Nat.zero_le _, rfl⟩
    · split
      · exact ⟨hl, Nat.le_refl _, rfl⟩
      · rename_i hb2 h
        have hb := nx_bd p.inp
        have hll : (takeR p).inp.length < p.inp.length := by
          show (p.inp.drop _).length < _
          rw [List.length_drop]
          omega
        have hL : (takeR p).L.length = p.L.length + 1 := by
          show (p.L ++ [_]).length = _
          rw [List.length_append]; rfl
        have h64 : p.L.length ≠ 64 := by
          intro e
          apply hb2
          unfold badR
          rw [decide_eq_true e, decide_eq_true (show 0 < nx2 p.inp by omega)]
          simp
        have := ih (takeR p) (by omega) (by omega)
        exact ⟨this.1, by omega, this.2.2⟩
theorem feed_len (p : Rs) (d : List UInt8) (hl : p.L.length ≤ 64) : (feedR p d).L.length ≤ 64 ∧ (feedR p d).inp.length ≤ p.inp.length + d.length ∧ (feedR p d).out = p.out := by
  unfold feedR
  split
  · exact ⟨hl, by omega, rfl⟩
  · have := run_len _ { p with inp := p.inp ++ d } (Nat.le_refl _) hl
    rw [show (({ p with inp := p.inp ++ d } : Rs).inp).length = p.inp.length + d.length from List.length_append] at this
    exact this
/-! heads, answers -/
theorem head_ab (a : Ss) : (headS a).ab = a.ab := by
  unfold Ss.ab
  rw [head_q]
  have : (headS a).inp = a.inp ∧ (headS a).out = a.out ∧ (headS a).cl = a.cl := by
    unfold headS
    split
    · exact ⟨rfl, rfl, rfl⟩
    · split <;> exact ⟨rfl, rfl, rfl⟩
  rw [this.1, this.2.1, this.2.2]
theorem head_hd (a : Ss) : (if (headS a).there = true then (headS a).hd else MD.df) = a.q.headD MD.df := by
  unfold headS Ss.q
  obtain ⟨i, xs, s, r, hd, t, o, c⟩ := a
  cases t with
  | true => rfl
  | false => cases xs <;> rfl
theorem head_thereL (a : Ss) : (headS a).there = !decide (a.ab.L = []) := head_there a
def ansR (p : Rs) (r : Ans.AD.T) : Rs × Int := if p.L = [] then (p, 60) else if Ans.goodA r = true then ({ p with L := p.L.tail, out := p.out ++ Num.putT (Ans.encA r) }, 0) else (p, 11)
theorem ans_ab (a : Ss) (r : Ans.AD.T) : (ansS a r).1.ab = (ansR a.ab r).1 ∧ (ansS a r).2 = (ansR a.ab r).2 := by
  unfold ansS ansR
  rw [head_thereL]
  by_cases h : a.ab.L = []
  · rw [if_pos h, if_pos (by rw [h]; rfl)]
    exact ⟨head_ab a, rfl⟩
  · rw [if_neg h, if_neg (by simp [h])]
    by_cases g : Ans.goodA r = true
    · rw [if_pos g, if_pos g]
      refine ⟨?_, rfl⟩
      have e := head_ab a
      have ht : (headS a).there = true := by rw [head_thereL]; simp [h]
      have hq : (headS a).q = a.q := head_q a
      have hq2 : (headS a).q = (headS a).hd :: (headS a).xs := by unfold Ss.q; rw [if_pos ht]
      have e1 : (headS a).inp = a.inp := congrArg Rs.inp e
      have e3 : (headS a).cl = a.cl := congrArg Rs.cl e
      show Rs.mk (headS a).inp (headS a).xs (a.out ++ Num.putT (Ans.encA r)) (headS a).cl = _
      rw [e1, e3]
      show _ = Rs.mk a.inp a.q.tail (a.out ++ Num.putT (Ans.encA r)) a.cl
      rw [← hq, hq2]
      rfl
    · rw [if_neg g, if_neg g]
      exact ⟨e4 a, rfl⟩
where
  e4 (a : Ss) : (headS a).ab = a.ab := head_ab a
end Go.Proofs.YtmdjonckcapkeaaDoor
/- The walk of the law's wakes. Own work. -/
set_option linter.unusedVariables false
set_option maxRecDepth 100000
namespace Go.Proofs.YtmdjonckcapkeaaDoor
open Go Go.RowKit OE

def cW1 : MD.T := decM [1]
def W1 : Ss := ⟨[1], [cW1], 1, 0, MD.df, false, [], false⟩
theorem feedW : feedS S0 [1, 1, 1] = W1 := by rfl
def W2 : Ss := ⟨[1], [], 1, 1, cW1, true, [], false⟩
theorem headW : headS W1 = W2 := by rfl
theorem kindW : cW1.1 = 1 := by rfl
def W3 : Ss := ⟨[1], [], 1, 1, cW1, false, [7, 0, 0, 0, 0, 0, 0, 0], false⟩
theorem encW : Ans.encA (rN 0 0) = [0, 0, 0, 0, 0, 0, 0] := by
  have h : Ans.encA (rN 0 0) = Num.putN 0 ++ Num.putN 0 ++ Num.putN 0 ++ Num.putN 0 ++ [] ++ Num.putN 0 ++ [] ++ Num.putN 0 ++ [] ++ (Num.putN 0 ++ []) := by rfl
  rw [h, Num.putN_lt (n := 0) (by decide)]
  rfl
theorem ansW : ansS W2 (rN 0 0) = (W3, 0) := by
  have g : Ans.goodA (rN 0 0) = true := rN_good 0 0 (by decide) (by decide) (by decide) (by decide)
  have hh : headS W2 = W2 := by rfl
  unfold ansS
  rw [hh, if_neg (by decide), if_pos g, encW, show Num.putT ([0, 0, 0, 0, 0, 0, 0] : List UInt8) = Num.putN 7 ++ [0, 0, 0, 0, 0, 0, 0] from rfl, Num.putN_lt (by decide)]
  rfl
theorem sess_wakes : FnD Tryd.prog 7 [] (· = .c (.bool (.sym true))) := by
  refine fn0 Tryd.func7 rfl rfl rfl ?_
  conv => whnf
  refine callp0 [] rfl rfl (sess_New) rfl rfl rfl rfl rfl ?_
  conv => whnf
  refine callp0 [0, 1] rfl rfl (sess_Feed S0 [1, 1, 1] (by decide) (by decide)) rfl rfl rfl rfl rfl ?_
  conv => whnf
  rw [feedW]
  conv => whnf
  refine callp0 [0, 1] rfl rfl (sess_Head W1) rfl rfl rfl rfl rfl ?_
  conv => whnf
  rw [headW, show (if W2.there = true then W2.hd else MD.df) = cW1 from rfl]
  conv => whnf
  refine callp0 [0, 1] rfl rfl (sess_AnswerN W2 0 0 (rN_wf 0 0 (by decide) (by decide)) (by decide)) rfl rfl rfl rfl rfl ?_
  conv => whnf
  rw [ansW]
  conv => whnf
  refine ⟨fun w1 => ?_, fun w1 => ?_⟩
  · conv => whnf
    refine callp0 [0, 1] rfl rfl (sess_Held W3) rfl rfl rfl rfl rfl ?_
    conv => whnf
    refine ⟨fun w2 => ?_, fun w2 => ?_⟩
    · conv => whnf
      refine callp0 [0, 1] rfl rfl (sess_Waiting W3 (by decide)) rfl rfl rfl rfl rfl ?_
      conv => whnf
      refine ⟨fun w3 => ?_, fun w3 => ?_⟩
      · conv => whnf
        refine callp0 [0, 1] rfl rfl (sess_Take W3) rfl rfl rfl rfl rfl ?_
        conv => whnf
        refine ⟨fun w4 => ?_, fun w4 => ?_⟩
        · conv => whnf
          refine callp0 [0, 1] rfl rfl (sess_Take { W3 with out := [] }) rfl rfl rfl rfl rfl ?_
          conv => whnf
          rfl
        · exact absurd w4 (by decide)
      · exact absurd w3 (by decide)
    · exact absurd w2 (by decide)
  · rw [show (W2.there && decide (cW1.1 = 1)) = true from rfl] at w1
    cases w1
end Go.Proofs.YtmdjonckcapkeaaDoor
/- The package's variables that hold texts: what the row's condition gives a walk; a world that meets it. Own work. -/
set_option linter.unusedVariables false
namespace Go.Proofs.YtmdjonckcapkeaaDoor
open Go Go.ChangeShapes Go.RowKit OE

theorem trod_texts {H : Type} {enc : TypeId × Value → H} {P : Program} {w : World} {base : Nat} {spare : Nat → Bool} {held : Bool} {fuel n : Nat} {t e : TypeId} {cs : List Value} {l : List (List UInt8)} {p : List MemPlace}
    (ht : P.underlying t = some (.array n e)) (he : P.underlying e = some .string) (hc : P.cellsOf e = 1) (hn : P.cellsOf t = n)
    (h : DataW.trod enc P w base spare held fuel t cs = some (.agg (l.map fun s => .lit (.string s)), p)) : cs = glC l := by
  obtain ⟨xs, m, _, hx, hl, hn2, hel⟩ := DataW.trod_array ht h
  simp only [Prod.mk.injEq, DataW.agg.injEq] at hx
  obtain ⟨hx, _⟩ := hx
  have hlen : l.length = n := by
    have := congrArg List.length hx
    simp only [List.length_map] at this
    omega
  apply List.ext_getElem?
  intro i
  rcases Nat.lt_or_ge i n with hi | hi
  · have h1 := hel i hi
    rw [hc, Nat.mul_one, List.getElem?_eq_getElem (by omega)] at h1
    obtain ⟨s, h2, h3, _⟩ := DataW.trod_string he h1
    have h4 : cs[i]? = some (.string s) := by
      have := congrArg (fun l : List Value => l[0]?) h2
      simpa [List.getElem?_take, List.getElem?_drop] using this
    have h5 : (xs.map (·.1))[i]? = some (.lit (.string s.data.toList)) := by
      rw [List.getElem?_map, List.getElem?_eq_getElem (by omega), h3]; rfl
    rw [← hx, List.getElem?_map, List.getElem?_eq_getElem (by omega)] at h5
    simp only [Option.map_some, Option.some.injEq, DataW.lit.injEq, Lit.string.injEq] at h5
    unfold glC
    rw [h4, List.getElem?_map, List.getElem?_eq_getElem (by omega), h5]
    rfl
  · rw [List.getElem?_eq_none (by omega), List.getElem?_eq_none (by unfold glC; rw [List.length_map]; omega)]
theorem var_heap {P : Program} {w : World} {n : String} {g : Nat} {cs : Array Value} (hg : P.globalNamed n = some g) (h : w.var? P n = some cs) : ∃ T fz, w.heap[g]? = some (.cells cs T fz) := by
  unfold World.var? at h
  rw [hg] at h
  simp only [Option.bind_some] at h
  split at h
  · rename_i cs' T fz hh
    cases h
    exact ⟨T, fz, hh⟩
  · cases h
abbrev laidL : List (String × DataW Unit) := [("hedgerow/wire.fieldsOf", Rows.laid_hedgerow_wire_fieldsOf), ("hedgerow/wire.opsOf", Rows.laid_hedgerow_wire_opsOf)]
theorem plainL (w : World) : laidMetH Tryd.prog laidL w = laidMet Tryd.prog laidL w := rfl
/-- what the condition gives a walk -/
theorem glo_of {W : World} (h : laidMetH Tryd.prog laidL W) : OkW W (fun k => k < W.heap.size) := by
  rw [plainL] at h
  obtain ⟨ps, ⟨g, t, cs, fuel, p, q, a1, a2, a3, a4, ⟨g', t', cs', fuel', p', q', b1, b2, b3, b4, _⟩, _⟩, _⟩ := h
  obtain rfl : g = 0 := Option.some.inj (a1.symm.trans (show Tryd.prog.globalNamed "hedgerow/wire.fieldsOf" = some 0 by kernel_rfl))
  obtain rfl : g' = 1 := Option.some.inj (b1.symm.trans (show Tryd.prog.globalNamed "hedgerow/wire.opsOf" = some 1 by kernel_rfl))
  obtain rfl : t = 118 := Option.some.inj (a2.symm.trans (show (Tryd.prog.globals[0]?).map (·.type) = some 118 by kernel_rfl))
  obtain rfl : t' = 170 := Option.some.inj (b2.symm.trans (show (Tryd.prog.globals[1]?).map (·.type) = some 170 by kernel_rfl))
  obtain ⟨T, fz, hh⟩ := var_heap a1 a3
  obtain ⟨T', fz', hh'⟩ := var_heap b1 b3
  have e1 := trod_texts (l := [[], [], [], [], [110], [110], [111], [105], [105], [105, 101], [105, 101], [116], [116, 110, 118], [116, 110, 119, 120], [116, 107], [116, 107], [114], [109], [116, 110], [116, 110], []]) Tryd.underlying118 Tryd.underlying9 (show Tryd.prog.cellsOf 9 = 1 by kernel_rfl) (show Tryd.prog.cellsOf 118 = 21 by kernel_rfl) a4
  have e2 := trod_texts (l := [[], [116], [105, 99], [116, 97, 98], [105], [105, 110, 119]]) Tryd.underlying170 Tryd.underlying9 (show Tryd.prog.cellsOf 9 = 1 by kernel_rfl) (show Tryd.prog.cellsOf 170 = 6 by kernel_rfl) b4
  refine ⟨fun _ h => h, fun g l hg => ?_⟩
  unfold glS at hg
  split at hg
  · cases hg
    have : 0 < W.heap.size := (Array.getElem?_eq_some_iff.1 hh).1
    exact ⟨⟨this, id⟩, this, cs, T, fz, hh, e1⟩
  · cases hg
    have : 1 < W.heap.size := (Array.getElem?_eq_some_iff.1 hh').1
    exact ⟨⟨this, id⟩, this, cs', T', fz', hh', e2⟩
  · cases hg
/-- a world that meets the condition -/
noncomputable def laidWorld (os : Os) : World :=
  let w0 := World.holding Tryd.prog os ⟨#[], #[], []⟩
  { w0 with heap := (w0.heap.modify 0 fun
      | .cells _ t frozen => .cells (glC ((glS 0).getD [])).toArray t frozen
      | o => o).modify 1 fun
      | .cells _ t frozen => .cells (glC ((glS 1).getD [])).toArray t frozen
      | o => o }
theorem laidWorld_met (os : Os) (args : Array Value) : laidMetH Tryd.prog laidL ((laidWorld os).forCall (fun _ _ => 0) ⟨#[], args, []⟩).memory := by
  rw [plainL]
  exact laidMet_of_run' 50 (by kernel_rfl) (by kernel_rfl)
end Go.Proofs.YtmdjonckcapkeaaDoor
