/- The walk of the law AnswerEncodes. Own work. -/
import Derived.Test.YtnldokebmfojeaaGreatPart7
/- The walk of the reference's Encode. Own work. -/
set_option linter.unusedVariables false
set_option maxRecDepth 100000
namespace Go.Proofs.YtnldokebmfojeaaGreat
open Go Go.RowKit OE

theorem ref_PutI (x : Int) (h0 : 0 ≤ x) (h1 : x ≤ 1000000) : FnD Tryz.prog 83 [.c (.int .u64 (IntKind.wrap .u64 x))] (· = .c (.str (Num.putN x.toNat))) := by
  rw [wuN x h0 h1]
  exact ref_Put _ (by omega)
theorem ref16_texts (l : List SD.T) (hn : l.length ≤ 16) (ht : ∀ s ∈ l, nameS s = true) : FnD Tryz.prog 85 [.c (.dat SD l)] (· = .c (.str (Num.putN l.length ++ txtB l))) := by
  refine fn0 Tryz.func85 rfl rfl rfl ?_
  conv => whnf
  intro _
  conv => whnf
  refine call1 (ref_PutI (l.length : Int) (Int.natCast_nonneg _) (by omega)) rfl ?_
  conv => whnf
  have pn := putN_b (l.length : Int) (by omega)
  refine loop0 (α := Nat × List UInt8) (fun p => p.1 ≤ l.length ∧ p.2 = Num.putN l.length ++ txtB (l.take p.1))
    (fun p => ⟨[(0, .c (.dat SD l)), (3, .c (.str p.2)), (4, .c (.int .i64 p.1))], [], 0⟩) (fun p => l.length - p.1) ⟨(0, Num.putN (l.length : Int).toNat), ⟨Nat.zero_le _, (List.append_nil _).symm⟩, ?_⟩ ?_
  · (conv => whnf); refine ⟨rfl, ?_, ?_, ?_⟩ <;> (repeat' apply And.intro) <;> first | exact trivial | rfl | exact wr_succ _ (by omega) | assumption | exact decide_eq_false (by assumption) | exact decide_eq_true (by assumption)
  rintro ⟨i, s⟩ ⟨hI1, hI2⟩
  dsimp only at hI1 hI2 ⊢
  have hs : s.length ≤ 450 := by
    have h5 := txtB_len (l := l.take i) fun s hs => ht s (List.mem_of_mem_take hs)
    rw [List.length_take] at h5
    rw [Int.toNat_natCast] at pn
    rw [hI2]; simp only [List.length_append]; omega
  conv => whnf
  intro _
  refine ⟨fun h2 => ?_, fun h2 => ?_⟩
  · have h2 : i < l.length := by simp at h2; omega
    have h4 := putT_b (nameS_len (ht _ (List.getElem_mem h2)))
    have h3 := nameS_len (ht _ (List.getElem_mem h2))
    conv => whnf
    try (intro _; conv => whnf)
    refine ⟨by omega, ?_⟩
    rw [gt_nat (d := SD) l i h2]
    conv => whnf
    refine call1 (ref_PutText _ (by omega)) rfl ?_
    conv => whnf
    refine ⟨by omega, ?_⟩
    conv => whnf
    refine ⟨(i + 1, s ++ Num.putT l[i]), ⟨⟨h2, ?_⟩, by dsimp only; omega⟩, ?_⟩
    · dsimp only
      rw [txtB_step h2, hI2]; simp only [List.append_assoc]
    · (conv => whnf); refine ⟨rfl, ?_, ?_, ?_⟩ <;> (repeat' apply And.intro) <;> first | exact trivial | rfl | exact wr_succ _ (by omega) | assumption | exact decide_eq_false (by assumption) | exact decide_eq_true (by assumption)
  rw [List.take_of_length_le (by simp at h2; omega)] at hI2
  rw [← hI2]
  conv => whnf

theorem ref16_Encode (c : CD.T) : FnD Tryz.prog 52 [.agg (cc c)] (· = .tup [(false, [.str (encCS c)]), (false, [.int .i64 (errCS c)])]) := by
  refine fn0 Tryz.func52 rfl rfl rfl ?_
  conv => whnf
  refine call1 (ref16_Good c) rfl ?_
  conv => whnf
  refine ⟨fun h1 => ?_, fun h1 => ?_⟩
  · have h1 := not_t h1
    conv => whnf
    simp [encCS, errCS, h1]
  have h1 := not_f h1
  rw [encCS, errCS, if_pos h1, if_pos h1]
  have hg := goodC_out h1
  have b1 := txtB_len hg.t1
  have b2 := txtB_len hg.t2
  have m1 := hg.n1
  have m2 := hg.n2
  have p1 := putN_b (c.1.length : Int) (by omega)
  have p2 := putN_b (c.2.1.length : Int) (by omega)
  have pn2 := putN_b (c.2.2.1.length : Int) (by have := hg.n3; omega)
  rw [Int.toNat_natCast] at p1 p2 pn2
  conv => whnf
  refine any0 ?_
  conv => whnf
  refine callr0 (ref16_texts c.1 hg.n1 hg.t1) rfl ?_
  conv => whnf
  refine callr0 (ref16_texts c.2.1 hg.n2 hg.t2) rfl ?_
  conv => whnf
  refine ⟨by simp only [List.length_append]; omega, ?_⟩
  conv => whnf
  refine callr0 (ref_PutI (c.2.2.1.length : Int) (Int.natCast_nonneg _) (by have := hg.n3; omega)) rfl ?_
  conv => whnf
  refine ⟨by simp only [List.length_append]; rw [Int.toNat_natCast]; omega, ?_⟩
  conv => whnf
  refine ⟨.inl (by kernel_rfl), after0 ?_⟩
  conv => whnf
  refine loop0 (α := Nat × List UInt8) (fun p => p.1 ≤ (c.2.2.1).length ∧ p.2 = Num.putN c.1.length ++ txtB c.1 ++ (Num.putN c.2.1.length ++ txtB c.2.1) ++ Num.putN (c.2.2.1).length ++ flB encS ((c.2.2.1).take p.1))
    (fun p => ⟨[(1, .c (.ptr 0 0)), (4, .c (.str p.2)), (5, .c (.int .i64 p.1))], [(0, .cells 30 (cc c))], 1⟩) (fun p => (c.2.2.1).length - p.1) ⟨(0, Num.putN c.1.length ++ txtB c.1 ++ (Num.putN c.2.1.length ++ txtB c.2.1) ++ Num.putN ((c.2.2.1).length : Int).toNat), ⟨Nat.zero_le _, (List.append_nil _).symm⟩, ?_⟩ ?_
  · (conv => whnf); refine ⟨rfl, ?_, ?_, ?_⟩ <;> (repeat' apply And.intro) <;> first | exact trivial | rfl | exact wr_succ _ (by omega) | assumption | exact decide_eq_false (by assumption) | exact decide_eq_true (by assumption)
  rintro ⟨i2, s2⟩ ⟨hL1, hL2⟩
  dsimp only at hL1 hL2 ⊢
  have hs2 : (s2).length ≤ 4000 := by
    have h5 := flB_len encS 144 (l := (c.2.2.1).take i2) fun s hs => encS_len s
    have h6 := hg.n3
    rw [List.length_take] at h5
    rw [hL2]; simp only [List.length_append]; omega
  conv => whnf
  intro _
  refine ⟨fun h2 => ?_, fun h2 => ?_⟩
  · have h2 : i2 < (c.2.2.1).length := by simp at h2; omega
    have h4 := encS_len c.2.2.1[i2]
    conv => whnf
    try (intro _; conv => whnf)
    refine ⟨by omega, ?_⟩
    rw [gt_nat (d := RD) c.2.2.1 i2 h2]
    conv => whnf
    refine call1 (refrule_Encode c.2.2.1[i2]) rfl ?_
    conv => whnf
    refine ⟨by omega, ?_⟩
    conv => whnf
    refine ⟨(i2 + 1, s2 ++ encS (c.2.2.1)[i2]), ⟨⟨h2, ?_⟩, by dsimp only; omega⟩, ?_⟩
    · dsimp only
      rw [flB_step _ h2, hL2]; simp only [List.append_assoc]
    · (conv => whnf); refine ⟨rfl, ?_, ?_, ?_⟩ <;> (repeat' apply And.intro) <;> first | exact trivial | rfl | exact wr_succ _ (by omega) | assumption | exact decide_eq_false (by assumption) | exact decide_eq_true (by assumption)
  rw [List.take_of_length_le (by simp at h2; omega)] at hL2
  clear h2
  conv => whnf
  intro _
  conv => whnf
  refine call1 (ref_PutI ((c.2.2.2.1).length : Int) (Int.natCast_nonneg _) (by have := hg.n4; omega)) rfl ?_
  conv => whnf
  have pn3 := putN_b ((c.2.2.2.1).length : Int) (by have := hg.n4; omega)
  refine ⟨by omega, ?_⟩
  conv => whnf
  refine loop0 (α := Nat × List UInt8) (fun p => p.1 ≤ (c.2.2.2.1).length ∧ p.2 = s2 ++ Num.putN (c.2.2.2.1).length ++ flB ixB ((c.2.2.2.1).take p.1))
    (fun p => ⟨[(1, .c (.ptr 0 0)), (4, .c (.str p.2)), (8, .c (.int .i64 p.1))], [(0, .cells 30 (cc c))], 1⟩) (fun p => (c.2.2.2.1).length - p.1) ⟨(0, s2 ++ Num.putN ((c.2.2.2.1).length : Int).toNat), ⟨Nat.zero_le _, (List.append_nil _).symm⟩, ?_⟩ ?_
  · (conv => whnf); refine ⟨rfl, ?_, ?_, ?_⟩ <;> (repeat' apply And.intro) <;> first | exact trivial | rfl | exact wr_succ _ (by omega) | assumption | exact decide_eq_false (by assumption) | exact decide_eq_true (by assumption)
  rintro ⟨i3, s3⟩ ⟨hM1, hM2⟩
  dsimp only at hM1 hM2 ⊢
  have hs3 : (s3).length ≤ 6000 := by
    have h5 := flB_len ixB 52 (l := (c.2.2.2.1).take i3) fun x hx => by
      have := hg.il (List.mem_of_mem_take hx)
      have q1 := putT_b this.1
      have q2 := putT_b this.2
      unfold ixB; rw [List.length_append]; omega
    have h6 := hg.n4
    rw [List.length_take] at h5
    rw [Int.toNat_natCast] at pn3
    rw [hM2]; simp only [List.length_append]; omega
  conv => whnf
  intro _
  refine ⟨fun h2 => ?_, fun h2 => ?_⟩
  · have h2 : i3 < (c.2.2.2.1).length := by simp at h2; omega
    have h4 := hg.il (List.getElem_mem h2)
    have q1 := putT_b h4.1
    have q2 := putT_b h4.2
    conv => whnf
    refine any0 ?_
    conv => whnf
    try (intro _; conv => whnf)
    refine ⟨by omega, ?_⟩
    rw [gt_nat (d := ID) c.2.2.2.1 i3 h2]
    conv => whnf
    refine callr0 (ref_PutText c.2.2.2.1[i3].1 (by omega)) rfl ?_
    conv => whnf
    try (intro _; conv => whnf)
    refine ⟨by omega, ?_⟩
    rw [gt_nat (d := ID) c.2.2.2.1 i3 h2]
    conv => whnf
    refine callr0 (ref_PutText c.2.2.2.1[i3].2 (by omega)) rfl ?_
    conv => whnf
    refine ⟨by omega, ?_⟩
    conv => whnf
    refine ⟨by rw [List.length_append]; omega, ?_⟩
    conv => whnf
    refine ⟨.inl (by kernel_rfl), after0 ?_⟩
    conv => whnf
    refine ⟨(i3 + 1, s3 ++ ixB c.2.2.2.1[i3]), ⟨⟨h2, ?_⟩, by dsimp only; omega⟩, ?_⟩
    · dsimp only
      rw [flB_step _ h2, hM2]; simp only [List.append_assoc]
    · (conv => whnf); refine ⟨rfl, ?_, ?_, ?_⟩ <;> (repeat' apply And.intro) <;> first | exact trivial | rfl | exact wr_succ _ (by omega) | assumption | exact decide_eq_false (by assumption) | exact decide_eq_true (by assumption)
  rw [List.take_of_length_le (by simp at h2; omega)] at hM2
  clear h2
  conv => whnf
  refine call1 (ref_PutI (show Int from c.2.2.2.2) (Int.le_trans (by decide) hg.x0) hg.x1) rfl ?_
  conv => whnf
  have pn4 := putN_b (show Int from c.2.2.2.2) hg.x1
  refine ⟨by omega, ?_⟩
  conv => whnf
  rw [hM2, hL2]
  unfold catB'
  simp only [List.append_assoc]
end Go.Proofs.YtnldokebmfojeaaGreat
/- The walks of the reference's Encode and Message of replies. Own work. -/
set_option linter.unusedVariables false
set_option maxRecDepth 100000
namespace Go.Proofs.YtnldokebmfojeaaGreat
open Go Go.RowKit OE

theorem ref25_num (n : Int) : FnD Tryz.prog 49 [.c (.int .i64 n)] (· = .c (.str (Num.putN (u64 n)))) := by
  obtain ⟨e, hl⟩ := wrap_u64 n
  refine fn0 Tryz.func49 rfl rfl rfl ?_
  conv => whnf
  rw [e]
  refine call1 (ref_Put (u64 n) hl) rfl ?_
  conv => whnf
theorem z0 {K : Int} (z : (!decide (K = 0)) = false) : ¬ (1 : Int) ≤ K := by
  simp at z
  omega
abbrev reSt (r : AD.T) (bs : List UInt8) (fr : List (Nat × SV)) : St := ⟨(1, .c (.ptr 0 0)) :: (4, .c (.str bs)) :: fr, [(0, .cells 32 (ac r))], 1⟩
theorem ref25_Encode (r : AD.T) (hw : Wf AD r) : FnD Tryz.prog 14 [.agg (ac r)] (· = .tup [(false, [.str (encAS r)]), (false, [.int .i64 (errA r)])]) := by
  refine fn0 Tryz.func14 rfl rfl rfl ?_
  conv => whnf
  refine call1 (ref25_Good r) rfl ?_
  conv => whnf
  refine ⟨fun g => ?_, fun g => ?_⟩
  · have g : ¬ goodA r = true := by revert g; cases goodA r <;> simp
    rw [show encAS r = [] from if_neg g, show errA r = 11 from if_neg g]
    conv => whnf
  have g : goodA r = true := by revert g; cases goodA r <;> simp
  rw [show encAS r = encA r from if_pos g, show errA r = 0 from if_pos g]
  have hg := goodA_out g
  have hsh := hg.short hw
  have p1 := Num.putN_ten (wrap_u64 r.1).2
  have p2 := Num.putN_ten (wrap_u64 r.2.1).2
  have p3 := Num.putN_ten (wrap_u64 r.2.2.1).2
  have p4 := Num.putN_ten (wrap_u64 r.2.2.2.1.length).2
  have p5 := Num.putN_ten (wrap_u64 r.2.2.2.2.1.length).2
  have p6 := Num.putN_ten (wrap_u64 r.2.2.2.2.2.1.length).2
  have l4 := enc4_len r
  have l5 := hsh.l5
  have l6 := hsh.l6
  conv => whnf
  refine any0 ?_
  conv => whnf
  refine callr0 (ref25_num r.1) rfl ?_
  conv => whnf
  refine callr0 (ref25_num r.2.1) rfl ?_
  conv => whnf
  refine ⟨by omega, ?_⟩
  conv => whnf
  refine callr0 (ref25_num r.2.2.1) rfl ?_
  conv => whnf
  refine ⟨by simp only [List.length_append]; omega, ?_⟩
  conv => whnf
  refine callr0 (ref25_num r.2.2.2.1.length) rfl ?_
  conv => whnf
  refine ⟨by simp only [List.length_append]; omega, ?_⟩
  conv => whnf
  refine ⟨.inl (by kernel_rfl), after0 ?_⟩
  conv => whnf
  rw [show Num.putN (u64 r.1) ++ Num.putN (u64 r.2.1) ++ Num.putN (u64 r.2.2.1) ++ Num.putN (u64 r.2.2.2.1.length) = enc4 r from rfl]
  refine loop0 (α := Nat) (fun i => i ≤ r.2.2.2.1.length) (fun i => reSt r (enc4 r ++ flB encN (r.2.2.2.1.take i)) [(5, .c (.int .i64 i))]) (fun i => r.2.2.2.1.length - i) ⟨0, by omega, ?_⟩ ?_
  · rw [List.take_zero, show flB encN [] = [] from rfl, List.append_nil]
    (conv => whnf); refine ⟨rfl, ?_, ?_, ?_⟩ <;> (repeat' apply And.intro) <;> first | exact trivial | rfl | exact wr_succ _ (by omega) | assumption | exact decide_eq_false (by assumption) | exact decide_eq_true (by assumption)
  rintro i hi
  conv => whnf
  intro _
  conv => whnf
  refine ⟨fun h2 => ?_, fun h2 => ?_⟩
  · have h2 : i < r.2.2.2.1.length := by rw [decide_eq_true_eq] at h2; omega
    have f1 := hsh.f1 i
    have q1 := Num.putN_ten (wrap_u64 r.2.2.2.1[i].1).2
    have hgn := hg.g1 _ (List.getElem_mem h2)
    have hwn := hw.2.2.2.1.2 _ (List.getElem_mem h2)
    have hnl : r.2.2.2.1[i].2.1.length ≤ 140737488351232 := hwn.2.1
    have htl : (Num.putT r.2.2.2.1[i].2.1).length ≤ 26 := putT_b (nameS_len (by unfold goodN at hgn; simp only [Bool.and_eq_true] at hgn; exact hgn.1.2))
    have hpl := encPs_len hwn.2.2
    conv => whnf
    try (intro _; conv => whnf)
    refine ⟨by omega, ?_⟩
    rw [gt_nat (d := ND) r.2.2.2.1 i h2]
    conv => whnf
    refine call1 (refval_EncodeProps r.2.2.2.1[i].2.2 hwn.2.2) rfl ?_
    conv => whnf
    refine any0 ?_
    conv => whnf
    try (intro _; conv => whnf)
    refine ⟨by omega, ?_⟩
    rw [gt_nat (d := ND) r.2.2.2.1 i h2]
    conv => whnf
    refine callr0 (ref25_num r.2.2.2.1[i].1) rfl ?_
    conv => whnf
    try (intro _; conv => whnf)
    refine ⟨by omega, ?_⟩
    rw [gt_nat (d := ND) r.2.2.2.1 i h2]
    conv => whnf
    refine callr0 (ref_PutText r.2.2.2.1[i].2.1 (by omega)) rfl ?_
    conv => whnf
    refine ⟨by omega, ?_⟩
    conv => whnf
    refine ⟨by simp only [List.length_append]; omega, ?_⟩
    conv => whnf
    refine ⟨by simp only [List.length_append]; omega, ?_⟩
    conv => whnf
    refine ⟨.inl (by kernel_rfl), after0 ?_⟩
    conv => whnf
    refine ⟨i + 1, ⟨by omega, by omega⟩, ?_⟩
    rw [flB_step encN h2, ← List.append_assoc, show encN r.2.2.2.1[i] = Num.putN (u64 r.2.2.2.1[i].1) ++ Num.putT r.2.2.2.1[i].2.1 ++ encPs r.2.2.2.1[i].2.2 from rfl]
    (conv => whnf); refine ⟨rfl, ?_, ?_, ?_⟩ <;> (repeat' apply And.intro) <;> first | exact trivial | rfl | exact wr_succ _ (by omega) | assumption | exact decide_eq_false (by assumption) | exact decide_eq_true (by assumption)
  have h2 : r.2.2.2.1.length ≤ i := by rw [decide_eq_false_iff_not] at h2; omega
  rw [List.take_of_length_le h2]
  clear h2 hi
  have f1 := hsh.f1 r.2.2.2.1.length
  rw [List.take_length] at f1
  conv => whnf
  intro _
  conv => whnf
  refine call1 (ref25_num r.2.2.2.2.1.length) rfl ?_
  conv => whnf
  refine ⟨by simp only [List.length_append]; omega, ?_⟩
  conv => whnf
  rw [show enc4 r ++ flB encN r.2.2.2.1 ++ Num.putN (u64 r.2.2.2.2.1.length) = enc5 r from rfl]
  refine loop0 (α := Nat) (fun i => i ≤ r.2.2.2.2.1.length) (fun i => reSt r (enc5 r ++ flB encE (r.2.2.2.2.1.take i)) [(8, .c (.int .i64 i))]) (fun i => r.2.2.2.2.1.length - i) ⟨0, by omega, ?_⟩ ?_
  · rw [List.take_zero, show flB encE [] = [] from rfl, List.append_nil]
    (conv => whnf); refine ⟨rfl, ?_, ?_, ?_⟩ <;> (repeat' apply And.intro) <;> first | exact trivial | rfl | exact wr_succ _ (by omega) | assumption | exact decide_eq_false (by assumption) | exact decide_eq_true (by assumption)
  rintro i hi
  conv => whnf
  intro _
  conv => whnf
  refine ⟨fun h2 => ?_, fun h2 => ?_⟩
  · have h2 : i < r.2.2.2.2.1.length := by rw [decide_eq_true_eq] at h2; omega
    have f2 := hsh.f2 i
    have q1 := Num.putN_ten (wrap_u64 r.2.2.2.2.1[i].1).2
    have q2 := Num.putN_ten (wrap_u64 r.2.2.2.2.1[i].2.2.1).2
    have q3 := Num.putN_ten (wrap_u64 r.2.2.2.2.1[i].2.2.2.1).2
    have hgn := hg.g2 _ (List.getElem_mem h2)
    have hwn := hw.2.2.2.2.1.2 _ (List.getElem_mem h2)
    have hnl : r.2.2.2.2.1[i].2.1.length ≤ 140737488351232 := hwn.2.1
    have htl : (Num.putT r.2.2.2.2.1[i].2.1).length ≤ 26 := putT_b (nameS_len (by unfold goodE at hgn; simp only [Bool.and_eq_true] at hgn; exact hgn.1.2))
    have hpl := encPs_len hwn.2.2.2.2
    conv => whnf
    try (intro _; conv => whnf)
    refine ⟨by omega, ?_⟩
    rw [gt_nat (d := ED) r.2.2.2.2.1 i h2]
    conv => whnf
    refine call1 (refval_EncodeProps r.2.2.2.2.1[i].2.2.2.2 hwn.2.2.2.2) rfl ?_
    conv => whnf
    refine any0 ?_
    conv => whnf
    refine callr0 (ref25_num r.2.2.2.2.1[i].1) rfl ?_
    conv => whnf
    refine callr0 (ref_PutText r.2.2.2.2.1[i].2.1 (by omega)) rfl ?_
    conv => whnf
    refine ⟨by omega, ?_⟩
    conv => whnf
    refine callr0 (ref25_num r.2.2.2.2.1[i].2.2.1) rfl ?_
    conv => whnf
    refine ⟨by simp only [List.length_append]; omega, ?_⟩
    conv => whnf
    refine callr0 (ref25_num r.2.2.2.2.1[i].2.2.2.1) rfl ?_
    conv => whnf
    refine ⟨by simp only [List.length_append]; omega, ?_⟩
    conv => whnf
    refine ⟨by simp only [List.length_append]; omega, ?_⟩
    conv => whnf
    refine ⟨by simp only [List.length_append]; omega, ?_⟩
    conv => whnf
    refine ⟨.inl (by kernel_rfl), after0 ?_⟩
    conv => whnf
    refine ⟨i + 1, ⟨by omega, by omega⟩, ?_⟩
    rw [flB_step encE h2, ← List.append_assoc, show encE r.2.2.2.2.1[i] = Num.putN (u64 r.2.2.2.2.1[i].1) ++ Num.putT r.2.2.2.2.1[i].2.1 ++ Num.putN (u64 r.2.2.2.2.1[i].2.2.1) ++ Num.putN (u64 r.2.2.2.2.1[i].2.2.2.1) ++ encPs r.2.2.2.2.1[i].2.2.2.2 from rfl]
    (conv => whnf); refine ⟨rfl, ?_, ?_, ?_⟩ <;> (repeat' apply And.intro) <;> first | exact trivial | rfl | exact wr_succ _ (by omega) | assumption | exact decide_eq_false (by assumption) | exact decide_eq_true (by assumption)
  have h2 : r.2.2.2.2.1.length ≤ i := by rw [decide_eq_false_iff_not] at h2; omega
  rw [List.take_of_length_le h2]
  clear h2 hi
  have f2 := hsh.f2 r.2.2.2.2.1.length
  rw [List.take_length] at f2
  conv => whnf
  intro _
  conv => whnf
  refine call1 (ref25_num r.2.2.2.2.2.1.length) rfl ?_
  conv => whnf
  refine ⟨by simp only [List.length_append]; omega, ?_⟩
  conv => whnf
  rw [show enc5 r ++ flB encE r.2.2.2.2.1 ++ Num.putN (u64 r.2.2.2.2.2.1.length) = enc6 r from rfl]
  refine loop0 (α := Nat) (fun i => i ≤ r.2.2.2.2.2.1.length) (fun i => reSt r (enc6 r ++ flB (α := Int) encI (r.2.2.2.2.2.1.take i)) [(12, .c (.int .i64 i))]) (fun i => r.2.2.2.2.2.1.length - i) ⟨0, by omega, ?_⟩ ?_
  · rw [List.take_zero, show flB (α := Int) encI [] = [] from rfl, List.append_nil]
    (conv => whnf); refine ⟨rfl, ?_, ?_, ?_⟩ <;> (repeat' apply And.intro) <;> first | exact trivial | rfl | exact wr_succ _ (by omega) | assumption | exact decide_eq_false (by assumption) | exact decide_eq_true (by assumption)
  rintro i hi
  conv => whnf
  intro _
  conv => whnf
  refine ⟨fun h2 => ?_, fun h2 => ?_⟩
  · have h2 : i < r.2.2.2.2.2.1.length := by rw [decide_eq_true_eq] at h2; omega
    have f3 := hsh.f3 i
    have q1 := Num.putN_ten (wrap_u64 r.2.2.2.2.2.1[i]).2
    conv => whnf
    try (intro _; conv => whnf)
    refine ⟨by omega, ?_⟩
    rw [gt_nat (d := LD) r.2.2.2.2.2.1 i h2]
    conv => whnf
    refine call1 (ref25_num r.2.2.2.2.2.1[i]) rfl ?_
    conv => whnf
    refine ⟨by simp only [List.length_append]; omega, ?_⟩
    conv => whnf
    refine ⟨i + 1, ⟨by omega, by omega⟩, ?_⟩
    rw [show flB (α := Int) encI (r.2.2.2.2.2.1.take (i + 1)) = flB (α := Int) encI (r.2.2.2.2.2.1.take i) ++ encI r.2.2.2.2.2.1[i] from flB_step (α := Int) encI h2, ← List.append_assoc]
    (conv => whnf); refine ⟨rfl, ?_, ?_, ?_⟩ <;> (repeat' apply And.intro) <;> first | exact trivial | rfl | exact wr_succ _ (by omega) | assumption | exact decide_eq_false (by assumption) | exact decide_eq_true (by assumption)
  have h2 : r.2.2.2.2.2.1.length ≤ i := by rw [decide_eq_false_iff_not] at h2; omega
  rw [List.take_of_length_le h2]
  clear h2 hi
  have f3 := hsh.f3 r.2.2.2.2.2.1.length
  rw [List.take_length] at f3
  have f4 := encCS_len (aC r)
  have f5 := putT_len (encCS (aC r)) (by omega)
  conv => whnf
  have f6 : (enc6 r ++ flB (α := Int) encI r.2.2.2.2.2.1).length + (Num.putT (encCS (aC r))).length ≤ 100000000 := by simp only [List.length_append]; omega
  refine ⟨fun z => ?_, fun z => ?_⟩
  · conv => whnf
    refine call1 (ref16_Encode (aC r)) rfl ?_
    conv => whnf
    refine call1 (ref_PutText (encCS (aC r)) (by omega)) rfl ?_
    conv => whnf
    refine ⟨by omega, ?_⟩
    conv => whnf
    rfl
  have hz : encCS (aC r) = [] := by
    unfold encCS
    split
    · rename_i h
      exact absurd (goodC_out h).x0 (z0 z)
    · rfl
  rw [hz] at f6
  rw [show encA r = enc6 r ++ flB (α := Int) encI r.2.2.2.2.2.1 ++ Num.putT [] by unfold encA; rw [hz]]
  conv => whnf
  refine call1 (ref_PutText [] (by decide)) rfl ?_
  conv => whnf
  refine ⟨by omega, ?_⟩
  conv => whnf
theorem ref25_Message (r : AD.T) (hw : Wf AD r) : FnD Tryz.prog 16 [.agg (ac r)] (· = .tup [(false, [.str (msgA r)]), (false, [.int .i64 (errA r)])]) := by
  refine fn0 Tryz.func16 rfl rfl rfl ?_
  conv => whnf
  refine call1 (ref25_Encode r hw) rfl ?_
  conv => whnf
  by_cases g : goodA r = true
  · rw [show encAS r = encA r from if_pos g, show errA r = 0 from if_pos g, show msgA r = Num.putT (encA r) from if_pos g]
    refine fk rfl ?_
    conv => whnf
    refine call1 (ref_PutText (encA r) (by have := encA_len hw g; omega)) rfl ?_
    conv => whnf
  · rw [show encAS r = [] from if_neg g, show errA r = 11 from if_neg g, show msgA r = [] from if_neg g]
    refine tk rfl ?_
    conv => whnf
end Go.Proofs.YtnldokebmfojeaaGreat
set_option linter.unusedVariables false
set_option maxRecDepth 100000
namespace Go.Proofs.YtnldokebmfojeaaGreat
open Go Go.RowKit OE

theorem row_AnswerEncodes (r : AD.T) (hr : Wf AD r) :
    FnD Tryz.prog 4 [.agg (ac r)] (· = .c (.bool (.sym true))) := by
  refine fn0 Tryz.func4 rfl rfl rfl ?_
  conv => whnf
  refine call1 (law_Large r) rfl ?_
  conv => whnf
  refine ⟨fun a => ?_, fun a => ?_⟩
  · conv => whnf
    refine call1 (ans_wakes) rfl ?_
    conv => whnf
  have hs := smallA a
  conv => whnf
  refine call1 (law_copied r hs) rfl ?_
  conv => whnf
  refine call1 (ans_Encode r hr hs.c3) rfl ?_
  conv => whnf
  refine call1 (ref25_Encode r hr) rfl ?_
  conv => whnf
  refine call1 (ans_Message r hr hs.c3) rfl ?_
  conv => whnf
  refine call1 (ref25_Message r hr) rfl ?_
  conv => whnf
  refine any0 ?_
  conv => whnf
  refine callr0 (ans_Good r hr hs.c3) rfl ?_
  conv => whnf
  refine callr0 (ref25_Good r) rfl ?_
  conv => whnf
  refine callrg0 (fun _ => keep_Reply r r) rfl ?_
  conv => whnf
  refine callrg0 (fun _ => ans_wakes) rfl ?_
  conv => whnf
  refine ⟨.inl (by kernel_rfl), after0 ?_⟩
  conv => whnf
  rw [eqA_same]
  simp
end Go.Proofs.YtnldokebmfojeaaGreat
