/- The walks of rule.Encode and of the reference's. Own work. -/
import Derived.Test.YtfpgjaallhpddabRuleForm
import Derived.Test.YtfpgjaallhpddabNumPuts
import Derived.Test.YtfpgjaallhpddabNumRef
set_option linter.unusedVariables false
set_option maxRecDepth 100000
namespace Go.Proofs.Ytfpgjaallhpddab
open Go Go.RowKit OE

theorem nameS_len {s : List UInt8} (h : nameS s = true) : s.length ≤ 16 := by
  unfold nameS at h
  simp only [Bool.and_eq_true, decide_eq_true_eq] at h
  exact h.1.1.2
/-- is a rule good? -/
def okS (r : RD.T) : Bool := formS r && decide (0 ≤ r.1) && decide (r.1 ≤ 1000000) && decide (0 ≤ r.2.2.2.2.2.2.2) && decide (r.2.2.2.2.2.2.2 ≤ 2)
/-- a good rule's bytes -/
def bytS (r : RD.T) : List UInt8 := Num.putN r.1.toNat ++ Num.putN r.2.1.toNat ++ Num.putN r.2.2.2.2.2.2.2.toNat ++ Num.putN r.2.2.2.2.2.2.1.toNat ++ Num.putT r.2.2.1 ++ Num.putT r.2.2.2.1 ++ Num.putT r.2.2.2.2.1 ++ Num.putT r.2.2.2.2.2.1
def encS (r : RD.T) : List UInt8 := if okS r = true then bytS r else []
def errS (r : RD.T) : Int := if okS r = true then 0 else 11

structure OkR (r : RD.T) : Prop where
  i0 : 0 ≤ r.1
  i1 : r.1 ≤ 1000000
  k0 : 1 ≤ r.2.1
  k1 : r.2.1 ≤ 4
  n0 : 0 ≤ r.2.2.2.2.2.2.1
  n1 : r.2.2.2.2.2.2.1 ≤ 1024
  s0 : 0 ≤ r.2.2.2.2.2.2.2
  s1 : r.2.2.2.2.2.2.2 ≤ 2
  t0 : r.2.2.1.length ≤ 16
  t1 : r.2.2.2.1.length ≤ 16
  t2 : r.2.2.2.2.1.length ≤ 16
  t3 : r.2.2.2.2.2.1.length ≤ 16
theorem okR {r : RD.T} (h : okS r = true) : OkR r := by
  simp only [okS, Bool.and_eq_true, decide_eq_true_eq] at h
  obtain ⟨⟨⟨⟨hf, h1⟩, h2⟩, h3⟩, h4⟩ := h
  unfold formS at hf
  rw [Bool.and_eq_true] at hf
  obtain ⟨hn, hf⟩ := hf
  have hn := nameS_len hn
  split at hf
  · rename_i hk
    simp only [Bool.and_eq_true, decide_eq_true_eq] at hf
    obtain ⟨⟨⟨f1, f2⟩, f3⟩, f4⟩ := hf
    have := nameS_len f1
    exact ⟨h1, h2, by rcases hk with hk | hk <;> rw [hk] <;> decide, by rcases hk with hk | hk <;> rw [hk] <;> decide, by rw [f4]; decide, by rw [f4]; decide, h3, h4, hn, this, by rw [f2]; decide, by rw [f3]; decide⟩
  · split at hf
    · rename_i hk
      simp only [Bool.and_eq_true, decide_eq_true_eq] at hf
      obtain ⟨⟨⟨f1, f2⟩, f3⟩, f4⟩ := hf
      have f1 := nameS_len f1
      have f2 := nameS_len f2
      exact ⟨h1, h2, by rw [hk]; decide, by rw [hk]; decide, by rw [f4]; decide, by rw [f4]; decide, h3, h4, hn, by rw [f3]; decide, f1, f2⟩
    · split at hf
      · rename_i hk
        simp only [Bool.and_eq_true, decide_eq_true_eq] at hf
        obtain ⟨⟨⟨⟨f1, f2⟩, f3⟩, f4⟩, f5⟩ := hf
        exact ⟨h1, h2, by rw [hk]; decide, by rw [hk]; decide, f4, f5, h3, h4, hn, by rw [f1]; decide, by rw [f2]; decide, by rw [f3]; decide⟩
      · cases hf

theorem wuN (x : Int) (h0 : 0 ≤ x) (h1 : x ≤ 1000000) : IntKind.wrap .u64 x = ((x.toNat : Nat) : Int) := by rw [wru64 x h0 (by omega)]; omega
theorem putN_b (x : Int) (h : x ≤ 1000000) : (Num.putN x.toNat).length ≤ 10 := Num.putN_ten (by omega)
theorem putT_b {s : List UInt8} (h : s.length ≤ 16) : (Num.putT s).length ≤ 26 := by
  have := Num.putN_ten (n := s.length) (by omega)
  unfold Num.putT
  rw [List.length_append]
  omega

theorem num_PutI (x : Int) (h0 : 0 ≤ x) (h1 : x ≤ 1000000) : FnD Try.prog 23 [.c (.int .u64 (IntKind.wrap .u64 x))] (· = .c (.str (Num.putN x.toNat))) := by
  rw [wuN x h0 h1]
  exact num_Put _ (by omega)

end Go.Proofs.Ytfpgjaallhpddab
