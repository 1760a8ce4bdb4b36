/- The walks of rule.Encode and of the reference's. Own work. -/
import Derived.Test.YtnldokebmfojeaaDoorRuleForm
import Derived.Test.YtnldokebmfojeaaDoorNumPuts
import Derived.Test.YtnldokebmfojeaaDoorNumRef
set_option linter.unusedVariables false
set_option maxRecDepth 100000
namespace Go.Proofs.YtnldokebmfojeaaDoor
open Go Go.RowKit OE

theorem nameS_len {s : List UInt8} (h : nameS s = true) : s.length ≤ 16 := by
  unfold nameS at h
  simp only [Bool.and_eq_true, decide_eq_true_eq] at h
  exact h.1.1.2
/-- is a rule good? -/
def okS (r : RD.T) : Bool := formS r && decide (0 ≤ r.1) && decide (r.1 ≤ 1000000) && decide (0 ≤ r.2.2.2.2.2.2.2) && decide (r.2.2.2.2.2.2.2 ≤ 2)
/-- a good rule's bytes -/
def bytS (r : RD.T) : List UInt8 := Num.putN r.1.toNat ++ Num.putN r.2.1.toNat ++ Num.putN r.2.2.2.2.2.2.2.toNat ++ Num.putN r.2.2.2.2.2.2.1.toNat ++ Num.putT r.2.2.1 ++ Num.putT r.2.2.2.1 ++ Num.putT r.2.2.2.2.1 ++ Num.putT r.2.2.2.2.2.1
def encS (r : RD.T) : List UInt8 := if okS r = true then bytS r else []
def errS (r : RD.T) : Int := if okS r = true then 0 else 11

structure OkR (r : RD.T) : Prop where
  i0 : 0 ≤ r.1
  i1 : r.1 ≤ 1000000
  k0 : 1 ≤ r.2.1
  k1 : r.2.1 ≤ 4
  n0 : 0 ≤ r.2.2.2.2.2.2.1
  n1 : r.2.2.2.2.2.2.1 ≤ 1024
  s0 : 0 ≤ r.2.2.2.2.2.2.2
  s1 : r.2.2.2.2.2.2.2 ≤ 2
  t0 : r.2.2.1.length ≤ 16
  t1 : r.2.2.2.1.length ≤ 16
  t2 : r.2.2.2.2.1.length ≤ 16
  t3 : r.2.2.2.2.2.1.length ≤ 16
theorem okR {r : RD.T} (h : okS r = true) : OkR r := by
  simp only [okS, Bool.and_eq_true, decide_eq_true_eq] at h
  obtain ⟨⟨⟨⟨hf, h1⟩, h2⟩, h3⟩, h4⟩ := h
  unfold formS at hf
  rw [Bool.and_eq_true] at hf
  obtain ⟨hn, hf⟩ := hf
  have hn := nameS_len hn
  split at hf
  · rename_i hk
    simp only [Bool.and_eq_true, decide_eq_true_eq] at hf
    obtain ⟨⟨⟨f1, f2⟩, f3⟩, f4⟩ := hf
    have := nameS_len f1
    exact ⟨h1, h2, by rcases hk with hk | hk <;> rw [hk] <;> decide, by rcases hk with hk | hk <;> rw [hk] <;> decide, by rw [f4]; decide, by rw [f4]; decide, h3, h4, hn, this, by rw [f2]; decide, by rw [f3]; decide⟩
  · split at hf
    · rename_i hk
      simp only [Bool.and_eq_true, decide_eq_true_eq] at hf
      obtain ⟨⟨⟨f1, f2⟩, f3⟩, f4⟩ := hf
      have f1 := nameS_len f1
      have f2 := nameS_len f2
      exact ⟨h1, h2, by rw [hk]; decide, by rw [hk]; decide, by rw [f4]; decide, by rw [f4]; decide, h3, h4, hn, by rw [f3]; decide, f1, f2⟩
    · split at hf
      · rename_i hk
        simp only [Bool.and_eq_true, decide_eq_true_eq] at hf
        obtain ⟨⟨⟨⟨f1, f2⟩, f3⟩, f4⟩, f5⟩ := hf
        exact ⟨h1, h2, by rw [hk]; decide, by rw [hk]; decide, f4, f5, h3, h4, hn, by rw [f1]; decide, by rw [f2]; decide, by rw [f3]; decide⟩
      · cases hf

theorem wuN (x : Int) (h0 : 0 ≤ x) (h1 : x ≤ 1000000) : IntKind.wrap .u64 x = ((x.toNat : Nat) : Int) := by rw [wru64 x h0 (by omega)]; omega
theorem putN_b (x : Int) (h : x ≤ 1000000) : (Num.putN x.toNat).length ≤ 10 := Num.putN_ten (by omega)
theorem putT_b {s : List UInt8} (h : s.length ≤ 16) : (Num.putT s).length ≤ 26 := by
  have := Num.putN_ten (n := s.length) (by omega)
  unfold Num.putT
  rw [List.length_append]
  omega

theorem num_PutI (x : Int) (h0 : 0 ≤ x) (h1 : x ≤ 1000000) : FnD Tryd.prog 58 [.c (.int .u64 (IntKind.wrap .u64 x))] (· = .c (.str (Num.putN x.toNat))) := by
  rw [wuN x h0 h1]
  exact num_Put _ (by omega)

theorem rule_Encode (r : RD.T) : FnD Tryd.prog 70 [.agg (rc r)] (· = .tup [(false, [.str (encS r)]), (false, [.int .i64 (errS r)])]) := by
  refine fn0 Tryd.func70 rfl rfl rfl ?_
  conv => whnf
  refine call1 (rule_Form r) rfl ?_
  conv => whnf
  have hok : okS r = !(!formS r || decide (r.1 < 0) || decide (1000000 < r.1) || decide (r.2.2.2.2.2.2.2 < 0) || decide (2 < r.2.2.2.2.2.2.2)) := by
    rw [Bool.eq_iff_iff]; simp [okS]
  refine ⟨fun h1 => ?_, fun h1 => ?_⟩
  · conv => whnf
    rw [h1] at hok
    simp [encS, errS, hok]
  rw [h1] at hok
  have hO := okR hok
  obtain ⟨i0, i1, k0, k1, n0, n1, s0, s1, t0, t1, t2, t3⟩ := hO
  have k2 : 0 ≤ r.2.1 := Int.le_trans (by decide) k0
  have k3 : r.2.1 ≤ 1000000 := Int.le_trans k1 (by decide)
  have n2 : r.2.2.2.2.2.2.1 ≤ 1000000 := Int.le_trans n1 (by decide)
  have s2 : r.2.2.2.2.2.2.2 ≤ 1000000 := Int.le_trans s1 (by decide)
  have p1 := putN_b r.1 i1
  have p2 := putN_b r.2.1 k3
  have p3 := putN_b r.2.2.2.2.2.2.2 s2
  have p4 := putN_b r.2.2.2.2.2.2.1 n2
  have q1 := putT_b t0
  have q2 := putT_b t1
  have q3 := putT_b t2
  have q4 := putT_b t3
  conv => whnf
  intro _
  conv => whnf
  refine unroll0 5 ?_
  conv => whnf
  refine tk rfl ?_
  conv => whnf
  intro _
  conv => whnf
  refine ⟨show (0 : Int) ≤ 0 ∧ (0 : Int) < 4 from by decide, ?_⟩
  conv => whnf
  refine ⟨show (0 : Int) ≤ 0 ∧ (0 : Int) < 4 from by decide, ?_⟩
  conv => whnf
  refine call1 (num_PutI r.1 i0 i1) rfl ?_
  conv => whnf
  refine ⟨by show 0 + _ ≤ _; omega, ?_⟩
  conv => whnf
  refine tk rfl ?_
  conv => whnf
  intro _
  conv => whnf
  refine ⟨show (0 : Int) ≤ 1 ∧ (1 : Int) < 4 from by decide, ?_⟩
  conv => whnf
  refine ⟨show (0 : Int) ≤ 1 ∧ (1 : Int) < 4 from by decide, ?_⟩
  conv => whnf
  refine call1 (num_PutI r.2.1 k2 k3) rfl ?_
  conv => whnf
  refine ⟨by simp only [List.length_append, List.length_nil]; omega, ?_⟩
  conv => whnf
  refine tk rfl ?_
  conv => whnf
  intro _
  conv => whnf
  refine ⟨show (0 : Int) ≤ 2 ∧ (2 : Int) < 4 from by decide, ?_⟩
  conv => whnf
  refine ⟨show (0 : Int) ≤ 2 ∧ (2 : Int) < 4 from by decide, ?_⟩
  conv => whnf
  refine call1 (num_PutI r.2.2.2.2.2.2.2 s0 s2) rfl ?_
  conv => whnf
  refine ⟨by simp only [List.length_append, List.length_nil]; omega, ?_⟩
  conv => whnf
  refine tk rfl ?_
  conv => whnf
  intro _
  conv => whnf
  refine ⟨show (0 : Int) ≤ 3 ∧ (3 : Int) < 4 from by decide, ?_⟩
  conv => whnf
  refine ⟨show (0 : Int) ≤ 3 ∧ (3 : Int) < 4 from by decide, ?_⟩
  conv => whnf
  refine call1 (num_PutI r.2.2.2.2.2.2.1 n0 n2) rfl ?_
  conv => whnf
  refine ⟨by simp only [List.length_append, List.length_nil]; omega, ?_⟩
  conv => whnf
  refine fk rfl ?_
  conv => whnf
  intro _
  conv => whnf
  refine unroll0 5 ?_
  conv => whnf
  refine tk rfl ?_
  conv => whnf
  intro _
  conv => whnf
  refine ⟨show (0 : Int) ≤ 0 ∧ (0 : Int) < 4 from by decide, ?_⟩
  conv => whnf
  refine ⟨show (0 : Int) ≤ 0 ∧ (0 : Int) < 4 from by decide, ?_⟩
  conv => whnf
  refine call1 (num_PutText r.2.2.1 (Nat.le_trans t0 (by decide))) rfl ?_
  conv => whnf
  refine ⟨by simp only [List.length_append, List.length_nil]; omega, ?_⟩
  conv => whnf
  refine tk rfl ?_
  conv => whnf
  intro _
  conv => whnf
  refine ⟨show (0 : Int) ≤ 1 ∧ (1 : Int) < 4 from by decide, ?_⟩
  conv => whnf
  refine ⟨show (0 : Int) ≤ 1 ∧ (1 : Int) < 4 from by decide, ?_⟩
  conv => whnf
  refine call1 (num_PutText r.2.2.2.1 (Nat.le_trans t1 (by decide))) rfl ?_
  conv => whnf
  refine ⟨by simp only [List.length_append, List.length_nil]; omega, ?_⟩
  conv => whnf
  refine tk rfl ?_
  conv => whnf
  intro _
  conv => whnf
  refine ⟨show (0 : Int) ≤ 2 ∧ (2 : Int) < 4 from by decide, ?_⟩
  conv => whnf
  refine ⟨show (0 : Int) ≤ 2 ∧ (2 : Int) < 4 from by decide, ?_⟩
  conv => whnf
  refine call1 (num_PutText r.2.2.2.2.1 (Nat.le_trans t2 (by decide))) rfl ?_
  conv => whnf
  refine ⟨by simp only [List.length_append, List.length_nil]; omega, ?_⟩
  conv => whnf
  refine tk rfl ?_
  conv => whnf
  intro _
  conv => whnf
  refine ⟨show (0 : Int) ≤ 3 ∧ (3 : Int) < 4 from by decide, ?_⟩
  conv => whnf
  refine ⟨show (0 : Int) ≤ 3 ∧ (3 : Int) < 4 from by decide, ?_⟩
  conv => whnf
  refine call1 (num_PutText r.2.2.2.2.2.1 (Nat.le_trans t3 (by decide))) rfl ?_
  conv => whnf
  refine ⟨by simp only [List.length_append, List.length_nil]; omega, ?_⟩
  conv => whnf
  refine fk rfl ?_
  conv => whnf
  have hok' : okS r = true := hok
  rw [encS, errS, if_pos hok', if_pos hok']
  rfl

theorem ref_put (x : Int) (h0 : 0 ≤ x) (h1 : x ≤ 1000000) : FnD Tryd.prog 57 [.c (.int .i64 x)] (· = .c (.str (Num.putN x.toNat))) := by
  refine fn0 Tryd.func57 rfl rfl rfl ?_
  conv => whnf
  rw [wuN x h0 h1]
  refine call1 (ref_Put x.toNat (by omega)) rfl ?_
  conv => whnf

theorem refrule_Encode (r : RD.T) : FnD Tryd.prog 31 [.agg (rc r)] (· = .tup [(false, [.str (encS r)]), (false, [.int .i64 (errS r)])]) := by
  refine fn0 Tryd.func31 rfl rfl rfl ?_
  conv => whnf
  refine call1 (ref_Form r) rfl ?_
  conv => whnf
  have hok : okS r = !(!formS r || decide (r.1 < 0) || decide (1000000 < r.1) || decide (r.2.2.2.2.2.2.2 < 0) || decide (2 < r.2.2.2.2.2.2.2)) := by
    rw [Bool.eq_iff_iff]; simp [okS]
  refine ⟨fun h1 => ?_, fun h1 => ?_⟩
  · conv => whnf
    rw [h1] at hok
    simp [encS, errS, hok]
  rw [h1] at hok
  have hO := okR hok
  obtain ⟨i0, i1, k0, k1, n0, n1, s0, s1, t0, t1, t2, t3⟩ := hO
  have k2 : 0 ≤ r.2.1 := Int.le_trans (by decide) k0
  have k3 : r.2.1 ≤ 1000000 := Int.le_trans k1 (by decide)
  have n2 : r.2.2.2.2.2.2.1 ≤ 1000000 := Int.le_trans n1 (by decide)
  have s2 : r.2.2.2.2.2.2.2 ≤ 1000000 := Int.le_trans s1 (by decide)
  have p1 := putN_b r.1 i1
  have p2 := putN_b r.2.1 k3
  have p3 := putN_b r.2.2.2.2.2.2.2 s2
  have p4 := putN_b r.2.2.2.2.2.2.1 n2
  have q1 := putT_b t0
  have q2 := putT_b t1
  have q3 := putT_b t2
  have q4 := putT_b t3
  conv => whnf
  refine any0 ?_
  conv => whnf
  refine callr0 (ref_put r.1 i0 i1) rfl ?_
  conv => whnf
  refine callr0 (ref_put r.2.1 k2 k3) rfl ?_
  conv => whnf
  refine ⟨by omega, ?_⟩
  conv => whnf
  refine callr0 (ref_put r.2.2.2.2.2.2.2 s0 s2) rfl ?_
  conv => whnf
  refine ⟨by simp only [List.length_append]; omega, ?_⟩
  conv => whnf
  refine callr0 (ref_put r.2.2.2.2.2.2.1 n0 n2) rfl ?_
  conv => whnf
  refine ⟨by simp only [List.length_append]; omega, ?_⟩
  conv => whnf
  refine callr0 (ref_PutText r.2.2.1 (Nat.le_trans t0 (by decide))) rfl ?_
  conv => whnf
  refine ⟨by simp only [List.length_append]; omega, ?_⟩
  conv => whnf
  refine callr0 (ref_PutText r.2.2.2.1 (Nat.le_trans t1 (by decide))) rfl ?_
  conv => whnf
  refine ⟨by simp only [List.length_append]; omega, ?_⟩
  conv => whnf
  refine callr0 (ref_PutText r.2.2.2.2.1 (Nat.le_trans t2 (by decide))) rfl ?_
  conv => whnf
  refine ⟨by simp only [List.length_append]; omega, ?_⟩
  conv => whnf
  refine callr0 (ref_PutText r.2.2.2.2.2.1 (Nat.le_trans t3 (by decide))) rfl ?_
  conv => whnf
  refine ⟨by simp only [List.length_append]; omega, ?_⟩
  conv => whnf
  refine ⟨.inl (by kernel_rfl), after0 ?_⟩
  conv => whnf
  have hok' : okS r = true := hok
  rw [encS, errS, if_pos hok', if_pos hok']
  rfl
end Go.Proofs.YtnldokebmfojeaaDoor
