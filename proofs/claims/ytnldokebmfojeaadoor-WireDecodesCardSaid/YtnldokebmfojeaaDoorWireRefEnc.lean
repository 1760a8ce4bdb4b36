/- The walks of the reference's bytes of commands. Printed by genwenc.py. Own work. -/
import Derived.Test.YtnldokebmfojeaaDoorWireRefGood
import Derived.Test.YtnldokebmfojeaaDoorWireSmall
set_option linter.unusedVariables false
set_option maxRecDepth 100000
namespace Go.Proofs.YtnldokebmfojeaaDoor
open Go Go.RowKit OE

theorem ref24_num (n : Int) : FnD Tryd.prog 29 [.c (.int .i64 n)] (· = .c (.str (Num.putN (u64 n)))) := by
  obtain ⟨e, hl⟩ := wrap_u64 n
  refine fn0 Tryd.func29 rfl rfl rfl ?_
  conv => whnf
  rw [e]
  refine call1 (ref_Put (u64 n) hl) rfl ?_
  conv => whnf
theorem ref24_one (n : Int) : FnD Tryd.prog 26 [.c (.int .i64 n)] (· = .c (.str (kb n))) := by
  refine fn0 Tryd.func26 rfl rfl rfl ?_
  conv => whnf
  rfl
theorem u64_len (n : Int) : (Num.putN (u64 n)).length ≤ 10 := Num.putN_ten (wrap_u64 n).2
/-- a change's bytes -/
def encRO (o : OD.T) : List UInt8 :=
  if (o.1 : Int) = 1 then kb o.1 ++ Num.putT o.2.2.1
  else if (o.1 : Int) = 2 then kb o.1 ++ Num.putN (u64 o.2.1) ++ (if o.2.2.2.2.2.2.2 = true then kb 1 else kb 0)
  else if (o.1 : Int) = 3 then kb o.1 ++ Num.putT o.2.2.1 ++ Num.putN (u64 o.2.2.2.1) ++ Num.putN (u64 o.2.2.2.2.1)
  else if (o.1 : Int) = 4 then kb o.1 ++ Num.putN (u64 o.2.1)
  else kb o.1 ++ Num.putN (u64 o.2.1) ++ Num.putT o.2.2.2.2.2.1 ++ encV (oV o)
theorem kb_len (k : Int) : (kb k).length = 1 := rfl
theorem encRO_len {o : OD.T} (h1 : o.2.2.1.length ≤ 1000) (h2 : o.2.2.2.2.2.1.length ≤ 1000) (h3 : Wf VD (oV o)) : (encRO o).length ≤ 4000 := by
  have p1 := putT_1000 h1
  have p2 := putT_1000 h2
  have p3 := encV_len h3
  have q1 := u64_len o.2.1
  have q2 := u64_len o.2.2.2.1
  have q3 := u64_len o.2.2.2.2.1
  have k1 := kb_len o.1
  have k2 : (kb 1).length = 1 := rfl
  have k3 : (kb 0).length = 1 := rfl
  unfold encRO
  repeat' split
  all_goals simp only [List.length_append]; omega
theorem ref24_EncodeOp (o : OD.T) (h1 : o.2.2.1.length ≤ 1000) (h2 : o.2.2.2.2.2.1.length ≤ 1000) (h3 : Wf VD (oV o)) : FnD Tryd.prog 28 [.agg (oc o)] (· = .c (.str (encRO o))) := by
  obtain ⟨k, i, t, f, e, n, v, c⟩ := o
  have p1 : (Num.putT t).length ≤ 1010 := putT_1000 h1
  have p2 : (Num.putT n).length ≤ 1010 := putT_1000 h2
  have p3 : (encV v).length ≤ 1040 := encV_len h3
  have q1 := u64_len i
  have q2 := u64_len f
  have q3 := u64_len e
  have k1 := kb_len k
  refine fn0 Tryd.func28 rfl rfl rfl ?_
  conv => whnf
  refine call1 (ref24_one k) rfl ?_
  conv => whnf
  refine ⟨fun a => ?_, fun a => ?_⟩
  · have a : k = 1 := of_decide_eq_true a
    subst a
    conv => whnf
    refine call1 (ref_PutText t (Nat.le_trans h1 (by decide))) rfl ?_
    conv => whnf
    refine ⟨by omega, ?_⟩
    conv => whnf
    rfl
  have a1 : ¬ k = 1 := of_decide_eq_false a
  clear a
  conv => whnf
  refine ⟨fun a => ?_, fun a => ?_⟩
  · have a : k = 2 := of_decide_eq_true a
    subst a
    conv => whnf
    refine ⟨fun b => ?_, fun b => ?_⟩
    · have b : c = true := b
      subst b
      conv => whnf
      refine call1 (ref24_num i) rfl ?_
      conv => whnf
      refine ⟨by omega, ?_⟩
      conv => whnf
      refine call1 (ref24_one 1) rfl ?_
      conv => whnf
      refine ⟨by simp only [List.length_append]; have : (kb 1).length = 1 := rfl; omega, ?_⟩
      conv => whnf
      rfl
    · have b : c = false := b
      subst b
      conv => whnf
      refine call1 (ref24_num i) rfl ?_
      conv => whnf
      refine ⟨by omega, ?_⟩
      conv => whnf
      refine call1 (ref24_one 0) rfl ?_
      conv => whnf
      refine ⟨by simp only [List.length_append]; have : (kb 0).length = 1 := rfl; omega, ?_⟩
      conv => whnf
      rfl
  have a2 : ¬ k = 2 := of_decide_eq_false a
  clear a
  conv => whnf
  refine ⟨fun a => ?_, fun a => ?_⟩
  · have a : k = 3 := of_decide_eq_true a
    subst a
    conv => whnf
    refine any0 ?_
    conv => whnf
    refine callr0 (ref_PutText t (Nat.le_trans h1 (by decide))) rfl ?_
    conv => whnf
    refine ⟨by omega, ?_⟩
    conv => whnf
    refine callr0 (ref24_num f) rfl ?_
    conv => whnf
    refine ⟨by simp only [List.length_append]; omega, ?_⟩
    conv => whnf
    refine callr0 (ref24_num e) rfl ?_
    conv => whnf
    refine ⟨by simp only [List.length_append]; omega, ?_⟩
    conv => whnf
    refine ⟨.inl (by kernel_rfl), after0 ?_⟩
    conv => whnf
    rfl
  have a3 : ¬ k = 3 := of_decide_eq_false a
  clear a
  conv => whnf
  refine ⟨fun a => ?_, fun a => ?_⟩
  · have a : k = 4 := of_decide_eq_true a
    subst a
    conv => whnf
    refine call1 (ref24_num i) rfl ?_
    conv => whnf
    refine ⟨by omega, ?_⟩
    conv => whnf
    rfl
  have a4 : ¬ k = 4 := of_decide_eq_false a
  clear a
  conv => whnf
  refine any0 ?_
  conv => whnf
  refine callr0 (ref24_num i) rfl ?_
  conv => whnf
  refine ⟨by omega, ?_⟩
  conv => whnf
  refine callr0 (ref_PutText n (Nat.le_trans h2 (by decide))) rfl ?_
  conv => whnf
  refine ⟨by simp only [List.length_append]; omega, ?_⟩
  conv => whnf
  refine callr0 (refval_Encode v h3) rfl ?_
  conv => whnf
  refine ⟨by simp only [List.length_append]; omega, ?_⟩
  conv => whnf
  refine ⟨.inl (by kernel_rfl), after0 ?_⟩
  conv => whnf
  rw [show encRO (k, i, t, f, e, n, v, c) = kb k ++ Num.putN (u64 i) ++ Num.putT n ++ encV v by unfold encRO; rw [if_neg a1, if_neg a2, if_neg a3, if_neg a4]; rfl]
/-- a command's bytes, but for the fields that it has not -/
def encR (m : MD.T) : List UInt8 :=
  if (m.1 : Int) = 4 ∨ (m.1 : Int) = 5 then kb m.1 ++ Num.putT (mName m)
  else if (m.1 : Int) = 6 then kb m.1 ++ encRO (mOp m)
  else if (m.1 : Int) = 7 ∨ (m.1 : Int) = 8 then kb m.1 ++ Num.putN (u64 m.2.1)
  else if (m.1 : Int) = 9 ∨ (m.1 : Int) = 10 then kb m.1 ++ (Num.putN (u64 m.2.1) ++ Num.putT (mType m))
  else if (m.1 : Int) = 11 then kb m.1 ++ Num.putT (mType m)
  else if (m.1 : Int) = 12 then kb m.1 ++ (Num.putT (mType m) ++ Num.putT (mName m) ++ encV (mV m))
  else if (m.1 : Int) = 13 then kb m.1 ++ (Num.putT (mType m) ++ Num.putT (mName m) ++ encV (mV m) ++ encV (mTo m))
  else if (m.1 : Int) = 14 ∨ (m.1 : Int) = 15 then kb m.1 ++ (Num.putT (mType m) ++ Num.putN (u64 (mN m)))
  else if (m.1 : Int) = 16 then kb m.1 ++ encS (mRule m)
  else if (m.1 : Int) = 17 then kb m.1 ++ Num.putN (u64 (mN m))
  else if (m.1 : Int) = 18 ∨ (m.1 : Int) = 19 then kb m.1 ++ (Num.putT (mType m) ++ Num.putT (mName m))
  else kb m.1
def encRM (m : MD.T) : List UInt8 := if refgood m = true then encR m else []
def errRM (m : MD.T) : Int := if refgood m = true then 0 else 11
theorem ref24_Encode (m : MD.T) (hs : SmC m) : FnD Tryd.prog 11 [.agg (mc m)] (· = .tup [(false, [.str (encRM m)]), (false, [.int .i64 (errRM m)])]) := by
  refine fn0 Tryd.func11 rfl rfl rfl ?_
  conv => whnf
  refine call1 (ref24_Good m) rfl ?_
  conv => whnf
  refine ⟨fun g => ?_, fun g => ?_⟩
  · have g := wnt g
    rw [show encRM m = [] from if_neg (by rw [g]; decide), show errRM m = 11 from if_neg (by rw [g]; decide)]
    conv => whnf
  have g := wnf g
  rw [show encRM m = encR m from if_pos g, show errRM m = 0 from if_pos g]
  obtain ⟨k, i, t, n, v, w, N, o, r⟩ := m
  have p1 : (Num.putT t).length ≤ 1010 := putT_1000 hs.ty
  have p2 : (Num.putT n).length ≤ 1010 := putT_1000 hs.nm
  have p3 : (encV v).length ≤ 1040 := encV_len hs.v
  have p4 : (encV w).length ≤ 1040 := encV_len hs.to
  have p5 : (encRO o).length ≤ 4000 := encRO_len hs.oty hs.onm hs.ov
  have p6 := encS_144 r
  have q1 := u64_len i
  have q2 := u64_len N
  have k1 := kb_len k
  conv => whnf
  refine call1 (ref24_one k) rfl ?_
  conv => whnf
  refine ⟨fun a => ?_, fun a => ?_⟩
  · have a : k = 4 := of_decide_eq_true a
    subst a
    conv => whnf
    refine call1 (ref_PutText n (Nat.le_trans hs.nm (by decide))) rfl ?_
    conv => whnf
    refine ⟨by first | omega | (simp only [List.length_append]; omega), ?_⟩
    conv => whnf
    rfl
  have a4 : ¬ k = 4 := of_decide_eq_false a
  clear a
  conv => whnf
  refine ⟨fun a => ?_, fun a => ?_⟩
  · have a : k = 5 := of_decide_eq_true a
    subst a
    conv => whnf
    refine call1 (ref_PutText n (Nat.le_trans hs.nm (by decide))) rfl ?_
    conv => whnf
    refine ⟨by first | omega | (simp only [List.length_append]; omega), ?_⟩
    conv => whnf
    rfl
  have a5 : ¬ k = 5 := of_decide_eq_false a
  clear a
  conv => whnf
  refine ⟨fun a => ?_, fun a => ?_⟩
  · have a : k = 6 := of_decide_eq_true a
    subst a
    conv => whnf
    refine call1 (ref24_EncodeOp o hs.oty hs.onm hs.ov) rfl ?_
    conv => whnf
    refine ⟨by first | omega | (simp only [List.length_append]; omega), ?_⟩
    conv => whnf
    rfl
  have a6 : ¬ k = 6 := of_decide_eq_false a
  clear a
  conv => whnf
  refine ⟨fun a => ?_, fun a => ?_⟩
  · have a : k = 7 := of_decide_eq_true a
    subst a
    conv => whnf
    refine call1 (ref24_num i) rfl ?_
    conv => whnf
    refine ⟨by first | omega | (simp only [List.length_append]; omega), ?_⟩
    conv => whnf
    rfl
  have a7 : ¬ k = 7 := of_decide_eq_false a
  clear a
  conv => whnf
  refine ⟨fun a => ?_, fun a => ?_⟩
  · have a : k = 8 := of_decide_eq_true a
    subst a
    conv => whnf
    refine call1 (ref24_num i) rfl ?_
    conv => whnf
    refine ⟨by first | omega | (simp only [List.length_append]; omega), ?_⟩
    conv => whnf
    rfl
  have a8 : ¬ k = 8 := of_decide_eq_false a
  clear a
  conv => whnf
  refine ⟨fun a => ?_, fun a => ?_⟩
  · have a : k = 9 := of_decide_eq_true a
    subst a
    conv => whnf
    refine any0 ?_
    conv => whnf
    refine callr0 (ref24_num i) rfl ?_
    conv => whnf
    refine callr0 (ref_PutText t (Nat.le_trans hs.ty (by decide))) rfl ?_
    conv => whnf
    refine ⟨by first | omega | (simp only [List.length_append]; omega), ?_⟩
    conv => whnf
    refine ⟨by first | omega | (simp only [List.length_append]; omega), ?_⟩
    conv => whnf
    refine ⟨.inl (by kernel_rfl), after0 ?_⟩
    conv => whnf
    rfl
  have a9 : ¬ k = 9 := of_decide_eq_false a
  clear a
  conv => whnf
  refine ⟨fun a => ?_, fun a => ?_⟩
  · have a : k = 10 := of_decide_eq_true a
    subst a
    conv => whnf
    refine any0 ?_
    conv => whnf
    refine callr0 (ref24_num i) rfl ?_
    conv => whnf
    refine callr0 (ref_PutText t (Nat.le_trans hs.ty (by decide))) rfl ?_
    conv => whnf
    refine ⟨by first | omega | (simp only [List.length_append]; omega), ?_⟩
    conv => whnf
    refine ⟨by first | omega | (simp only [List.length_append]; omega), ?_⟩
    conv => whnf
    refine ⟨.inl (by kernel_rfl), after0 ?_⟩
    conv => whnf
    rfl
  have a10 : ¬ k = 10 := of_decide_eq_false a
  clear a
  conv => whnf
  refine ⟨fun a => ?_, fun a => ?_⟩
  · have a : k = 11 := of_decide_eq_true a
    subst a
    conv => whnf
    refine call1 (ref_PutText t (Nat.le_trans hs.ty (by decide))) rfl ?_
    conv => whnf
    refine ⟨by first | omega | (simp only [List.length_append]; omega), ?_⟩
    conv => whnf
    rfl
  have a11 : ¬ k = 11 := of_decide_eq_false a
  clear a
  conv => whnf
  refine ⟨fun a => ?_, fun a => ?_⟩
  · have a : k = 12 := of_decide_eq_true a
    subst a
    conv => whnf
    refine any0 ?_
    conv => whnf
    refine callr0 (ref_PutText t (Nat.le_trans hs.ty (by decide))) rfl ?_
    conv => whnf
    refine callr0 (ref_PutText n (Nat.le_trans hs.nm (by decide))) rfl ?_
    conv => whnf
    refine ⟨by first | omega | (simp only [List.length_append]; omega), ?_⟩
    conv => whnf
    refine callr0 (refval_Encode v hs.v) rfl ?_
    conv => whnf
    refine ⟨by first | omega | (simp only [List.length_append]; omega), ?_⟩
    conv => whnf
    refine ⟨by first | omega | (simp only [List.length_append]; omega), ?_⟩
    conv => whnf
    refine ⟨.inl (by kernel_rfl), after0 ?_⟩
    conv => whnf
    rfl
  have a12 : ¬ k = 12 := of_decide_eq_false a
  clear a
  conv => whnf
  refine ⟨fun a => ?_, fun a => ?_⟩
  · have a : k = 13 := of_decide_eq_true a
    subst a
    conv => whnf
    refine any0 ?_
    conv => whnf
    refine callr0 (ref_PutText t (Nat.le_trans hs.ty (by decide))) rfl ?_
    conv => whnf
    refine callr0 (ref_PutText n (Nat.le_trans hs.nm (by decide))) rfl ?_
    conv => whnf
    refine ⟨by first | omega | (simp only [List.length_append]; omega), ?_⟩
    conv => whnf
    refine callr0 (refval_Encode v hs.v) rfl ?_
    conv => whnf
    refine ⟨by first | omega | (simp only [List.length_append]; omega), ?_⟩
    conv => whnf
    refine callr0 (refval_Encode w hs.to) rfl ?_
    conv => whnf
    refine ⟨by first | omega | (simp only [List.length_append]; omega), ?_⟩
    conv => whnf
    refine ⟨by first | omega | (simp only [List.length_append]; omega), ?_⟩
    conv => whnf
    refine ⟨.inl (by kernel_rfl), after0 ?_⟩
    conv => whnf
    rfl
  have a13 : ¬ k = 13 := of_decide_eq_false a
  clear a
  conv => whnf
  refine ⟨fun a => ?_, fun a => ?_⟩
  · have a : k = 14 := of_decide_eq_true a
    subst a
    conv => whnf
    refine any0 ?_
    conv => whnf
    refine callr0 (ref_PutText t (Nat.le_trans hs.ty (by decide))) rfl ?_
    conv => whnf
    refine callr0 (ref24_num N) rfl ?_
    conv => whnf
    refine ⟨by first | omega | (simp only [List.length_append]; omega), ?_⟩
    conv => whnf
    refine ⟨by first | omega | (simp only [List.length_append]; omega), ?_⟩
    conv => whnf
    refine ⟨.inl (by kernel_rfl), after0 ?_⟩
    conv => whnf
    rfl
  have a14 : ¬ k = 14 := of_decide_eq_false a
  clear a
  conv => whnf
  refine ⟨fun a => ?_, fun a => ?_⟩
  · have a : k = 15 := of_decide_eq_true a
    subst a
    conv => whnf
    refine any0 ?_
    conv => whnf
    refine callr0 (ref_PutText t (Nat.le_trans hs.ty (by decide))) rfl ?_
    conv => whnf
    refine callr0 (ref24_num N) rfl ?_
    conv => whnf
    refine ⟨by first | omega | (simp only [List.length_append]; omega), ?_⟩
    conv => whnf
    refine ⟨by first | omega | (simp only [List.length_append]; omega), ?_⟩
    conv => whnf
    refine ⟨.inl (by kernel_rfl), after0 ?_⟩
    conv => whnf
    rfl
  have a15 : ¬ k = 15 := of_decide_eq_false a
  clear a
  conv => whnf
  refine ⟨fun a => ?_, fun a => ?_⟩
  · have a : k = 16 := of_decide_eq_true a
    subst a
    conv => whnf
    refine call1 (refrule_Encode r) rfl ?_
    conv => whnf
    refine ⟨by first | omega | (simp only [List.length_append]; omega), ?_⟩
    conv => whnf
    rfl
  have a16 : ¬ k = 16 := of_decide_eq_false a
  clear a
  conv => whnf
  refine ⟨fun a => ?_, fun a => ?_⟩
  · have a : k = 17 := of_decide_eq_true a
    subst a
    conv => whnf
    refine call1 (ref24_num N) rfl ?_
    conv => whnf
    refine ⟨by first | omega | (simp only [List.length_append]; omega), ?_⟩
    conv => whnf
    rfl
  have a17 : ¬ k = 17 := of_decide_eq_false a
  clear a
  conv => whnf
  refine ⟨fun a => ?_, fun a => ?_⟩
  · have a : k = 18 := of_decide_eq_true a
    subst a
    conv => whnf
    refine any0 ?_
    conv => whnf
    refine callr0 (ref_PutText t (Nat.le_trans hs.ty (by decide))) rfl ?_
    conv => whnf
    refine callr0 (ref_PutText n (Nat.le_trans hs.nm (by decide))) rfl ?_
    conv => whnf
    refine ⟨by first | omega | (simp only [List.length_append]; omega), ?_⟩
    conv => whnf
    refine ⟨by first | omega | (simp only [List.length_append]; omega), ?_⟩
    conv => whnf
    refine ⟨.inl (by kernel_rfl), after0 ?_⟩
    conv => whnf
    rfl
  have a18 : ¬ k = 18 := of_decide_eq_false a
  clear a
  conv => whnf
  refine ⟨fun a => ?_, fun a => ?_⟩
  · have a : k = 19 := of_decide_eq_true a
    subst a
    conv => whnf
    refine any0 ?_
    conv => whnf
    refine callr0 (ref_PutText t (Nat.le_trans hs.ty (by decide))) rfl ?_
    conv => whnf
    refine callr0 (ref_PutText n (Nat.le_trans hs.nm (by decide))) rfl ?_
    conv => whnf
    refine ⟨by first | omega | (simp only [List.length_append]; omega), ?_⟩
    conv => whnf
    refine ⟨by first | omega | (simp only [List.length_append]; omega), ?_⟩
    conv => whnf
    refine ⟨.inl (by kernel_rfl), after0 ?_⟩
    conv => whnf
    rfl
  have a19 : ¬ k = 19 := of_decide_eq_false a
  clear a
  conv => whnf
  rw [show encR (k, i, t, n, v, w, N, o, r) = kb k by simp [encR, a4, a5, a6, a7, a8, a9, a10, a11, a12, a13, a14, a15, a16, a17, a18, a19]]
def msgRM (m : MD.T) : List UInt8 := if refgood m = true then Num.putT (encR m) else []
theorem ref24_Message (m : MD.T) (h : SmC m) (hl : refgood m = true → (encR m).length ≤ 16001) : FnD Tryd.prog 13 [.agg (mc m)] (· = .tup [(false, [.str (msgRM m)]), (false, [.int .i64 (errRM m)])]) := by
  refine fn0 Tryd.func13 rfl rfl rfl ?_
  conv => whnf
  refine call1 (ref24_Encode m h) rfl ?_
  conv => whnf
  refine ⟨fun a => ?_, fun a => ?_⟩
  · have a : ¬ refgood m = true := fun hg => by rw [show errRM m = 0 from if_pos hg] at a; cases a
    rw [show msgRM m = [] from if_neg a]
    conv => whnf
  have a : refgood m = true := Decidable.byContradiction fun hg => by rw [show errRM m = 11 from if_neg hg] at a; cases a
  rw [show msgRM m = Num.putT (encR m) from if_pos a, show errRM m = 0 from if_pos a, show encRM m = encR m from if_pos a]
  conv => whnf
  refine call1 (ref_PutText (encR m) (Nat.le_trans (hl a) (by decide))) rfl ?_
  conv => whnf
end Go.Proofs.YtnldokebmfojeaaDoor
