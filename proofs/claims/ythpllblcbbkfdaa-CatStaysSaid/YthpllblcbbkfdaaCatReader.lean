/- The walks of the readers' methods, cat's and the reference's. Own work. -/
import Derived.Test.YthpllblcbbkfdaaRuleDecodeRef
import Derived.Test.YthpllblcbbkfdaaCatEncode
set_option linter.unusedVariables false
set_option maxRecDepth 100000
namespace Go.Proofs.Ythpllblcbbkfdaa
open Go Go.RowKit OE

/-- a number that is read: it, the place behind it, and whether something was bad -/
def numA (s : List UInt8) (most a : Nat) (bad : Bool) : Nat × Nat × Bool :=
  match bad, Num.getN s a with
  | false, some p => if p.1 ≤ most then (p.1, a + p.2, false) else (0, a, true)
  | _, _ => (0, a, true)
def txA (s : List UInt8) (a : Nat) (bad : Bool) : List UInt8 × Nat × Bool :=
  match bad, Num.getT s a 16 with
  | false, some p => (p.1, a + p.2, false)
  | _, _ => ([], a, true)
theorem numA_bad {s : List UInt8} {most a : Nat} {bad : Bool} (h : (bad || !(Num.getN s a).isSome || decide ((most : Int) < (((Num.getN s a).getD (0, 0)).1 : Nat))) = true) : numA s most a bad = (0, a, true) := by
  unfold numA
  cases bad with
  | true => rfl
  | false =>
    cases hg : Num.getN s a with
    | none => rfl
    | some p =>
      rw [hg] at h
      simp at h
      exact if_neg (by omega)
theorem numA_ok {s : List UInt8} {most a : Nat} {bad : Bool} (h : (bad || !(Num.getN s a).isSome || decide ((most : Int) < (((Num.getN s a).getD (0, 0)).1 : Nat))) = false) : bad = false ∧ ∃ n k, Num.getN s a = some (n, k) ∧ n ≤ most ∧ numA s most a bad = (n, a + k, false) := by
  cases bad with
  | true => simp at h
  | false =>
    cases hg : Num.getN s a with
    | none => rw [hg] at h; simp at h
    | some p =>
      rw [hg] at h
      simp at h
      exact ⟨rfl, p.1, p.2, rfl, by omega, by unfold numA; rw [hg]; exact if_pos (by omega)⟩
theorem txA_bad {s : List UInt8} {a : Nat} {bad : Bool} (h : (bad || !(Num.getT s a 16).isSome) = true) : txA s a bad = ([], a, true) := by
  unfold txA
  cases bad with
  | true => rfl
  | false =>
    cases hg : Num.getT s a 16 with
    | none => rfl
    | some p => rw [hg] at h; simp at h
theorem txA_ok {s : List UInt8} {a : Nat} {bad : Bool} (h : (bad || !(Num.getT s a 16).isSome) = false) : bad = false ∧ ∃ t k, Num.getT s a 16 = some (t, k) ∧ txA s a bad = (t, a + k, false) := by
  cases bad with
  | true => simp at h
  | false =>
    cases hg : Num.getT s a 16 with
    | none => rw [hg] at h; simp at h
    | some p => exact ⟨rfl, p.1, p.2, rfl, by unfold txA; rw [hg]⟩
abbrev rdC (s : List UInt8) (a : Nat) (bad : Bool) : List C := [.str s, .int .i64 a, .bool (.sym bad)]

theorem cat_number (s : List UInt8) (most a : Nat) (bad : Bool) (hs : s.length ≤ 1000000) (hm : most ≤ 1000000) (ha : a ≤ 1000000) :
    FnH Try.prog 85 [.c (.ptr 0 0), .c (.int .i64 most)] 104 (rdC s a bad) (.c (.int .i64 (numA s most a bad).1)) (rdC s (numA s most a bad).2.1 (numA s most a bad).2.2) := by
  refine fnH noI Try.func85 rfl rfl rfl ?_
  conv => whnf
  refine any0 ?_
  conv => whnf
  refine callr0 (num_Get s a (by omega)) rfl ?_
  conv => whnf
  refine ⟨.inl (by kernel_rfl), after0 ?_⟩
  conv => whnf
  rw [show IntKind.wrap .u64 (most : Int) = (most : Int) from by rw [wru64 _ (by omega) (by omega)]]
  refine ⟨fun h1 => ?_, fun h1 => ?_⟩
  · rw [numA_bad h1]
    conv => whnf
    exact ⟨rfl, ⟨rfl, rfl, trivial⟩, trivial, ⟨rfl, rfl, rfl, trivial⟩, trivial⟩
  · obtain ⟨rfl, n, k, hg, hn, e⟩ := numA_ok h1
    have hb := Num.getN_bd hg
    rw [e]
    rw [hg]
    conv => whnf
    exact ⟨rfl, ⟨(wr64 (n : Int) (by omega) (by omega)).symm, rfl, trivial⟩, trivial, ⟨rfl, by
      show ((a + k : Nat) : Int) = IntKind.wrap .i64 ((a : Int) + (k : Int))
      rw [wr64 _ (by omega) (by omega)]; omega, rfl, trivial⟩, trivial⟩
theorem cat_name (s : List UInt8) (a : Nat) (bad : Bool) (hs : s.length ≤ 1000000) (ha : a ≤ 1000000) :
    FnH Try.prog 86 [.c (.ptr 0 0)] 104 (rdC s a bad) (.c (.str (txA s a bad).1)) (rdC s (txA s a bad).2.1 (txA s a bad).2.2) := by
  refine fnH noI Try.func86 rfl rfl rfl ?_
  conv => whnf
  refine any0 ?_
  conv => whnf
  refine callr0 (num_GetText s a 16 (by omega) (by omega)) rfl ?_
  conv => whnf
  refine ⟨.inl (by kernel_rfl), after0 ?_⟩
  conv => whnf
  refine ⟨fun h1 => ?_, fun h1 => ?_⟩
  · rw [txA_bad h1]
    conv => whnf
    exact ⟨rfl, ⟨rfl, rfl, trivial⟩, trivial, ⟨rfl, rfl, rfl, trivial⟩, trivial⟩
  · obtain ⟨rfl, t, k, hg, e⟩ := txA_ok h1
    have hb := gt_bd hg
    rw [e]
    rw [hg]
    conv => whnf
    exact ⟨rfl, ⟨rfl, rfl, trivial⟩, trivial, ⟨rfl, by
      show ((a + k : Nat) : Int) = IntKind.wrap .i64 ((a : Int) + (k : Int))
      rw [wr64 _ (by omega) (by omega)]; omega, rfl, trivial⟩, trivial⟩
theorem ref16_num (s : List UInt8) (most a : Nat) (bad : Bool) (hs : s.length ≤ 1000000) (hm : most ≤ 1000000) (ha : a ≤ 1000000) :
    FnH Try.prog 88 [.c (.ptr 0 0), .c (.int .i64 most)] 112 (rdC s a bad) (.c (.int .i64 (numA s most a bad).1)) (rdC s (numA s most a bad).2.1 (numA s most a bad).2.2) := by
  refine fnH noI Try.func88 rfl rfl rfl ?_
  conv => whnf
  refine any0 ?_
  conv => whnf
  refine callr0 (refnum_Get s a (by omega)) rfl ?_
  conv => whnf
  refine ⟨.inl (by kernel_rfl), after0 ?_⟩
  conv => whnf
  rw [show IntKind.wrap .u64 (most : Int) = (most : Int) from by rw [wru64 _ (by omega) (by omega)]]
  refine ⟨fun h1 => ?_, fun h1 => ?_⟩
  · rw [numA_bad h1]
    conv => whnf
    exact ⟨rfl, ⟨rfl, rfl, trivial⟩, trivial, ⟨rfl, rfl, rfl, trivial⟩, trivial⟩
  · obtain ⟨rfl, n, k, hg, hn, e⟩ := numA_ok h1
    have hb := Num.getN_bd hg
    rw [e]
    rw [hg]
    conv => whnf
    refine any0 ?_
    conv => whnf
    refine ⟨.inl (by kernel_rfl), after0 ?_⟩
    conv => whnf
    exact ⟨rfl, ⟨(wr64 (n : Int) (by omega) (by omega)).symm, rfl, trivial⟩, trivial, ⟨rfl, by
      show ((a + k : Nat) : Int) = IntKind.wrap .i64 ((a : Int) + (k : Int))
      rw [wr64 _ (by omega) (by omega)]; omega, rfl, trivial⟩, trivial⟩
theorem ref16_text (s : List UInt8) (a : Nat) (bad : Bool) (hs : s.length ≤ 1000000) (ha : a ≤ 1000000) :
    FnH Try.prog 89 [.c (.ptr 0 0)] 112 (rdC s a bad) (.c (.str (txA s a bad).1)) (rdC s (txA s a bad).2.1 (txA s a bad).2.2) := by
  refine fnH noI Try.func89 rfl rfl rfl ?_
  conv => whnf
  refine any0 ?_
  conv => whnf
  refine callr0 (refnum_GetText s a 16 (by omega) (by omega)) rfl ?_
  conv => whnf
  refine ⟨.inl (by kernel_rfl), after0 ?_⟩
  conv => whnf
  refine ⟨fun h1 => ?_, fun h1 => ?_⟩
  · rw [txA_bad h1]
    conv => whnf
    exact ⟨rfl, ⟨rfl, rfl, trivial⟩, trivial, ⟨rfl, rfl, rfl, trivial⟩, trivial⟩
  · obtain ⟨rfl, t, k, hg, e⟩ := txA_ok h1
    have hb := gt_bd hg
    rw [e]
    rw [hg]
    conv => whnf
    refine any0 ?_
    conv => whnf
    refine ⟨.inl (by kernel_rfl), after0 ?_⟩
    conv => whnf
    exact ⟨rfl, ⟨rfl, rfl, trivial⟩, trivial, ⟨rfl, by
      show ((a + k : Nat) : Int) = IntKind.wrap .i64 ((a : Int) + (k : Int))
      rw [wr64 _ (by omega) (by omega)]; omega, rfl, trivial⟩, trivial⟩
/-- at the start -/
theorem cat_number0 (s : List UInt8) (hs : s.length ≤ 1000000) :
    FnH Try.prog 85 [.c (.ptr 0 0), .c (.int .i64 16)] 104 [.str s, .int .i64 0, .bool .ff] (.c (.int .i64 (numA s 16 0 false).1)) (rdC s (numA s 16 0 false).2.1 (numA s 16 0 false).2.2) := by
  refine fnH noI Try.func85 rfl rfl rfl ?_
  conv => whnf
  refine any0 ?_
  conv => whnf
  refine callr0 (num_Get s 0 (by omega)) rfl ?_
  conv => whnf
  refine ⟨.inl (by kernel_rfl), after0 ?_⟩
  conv => whnf
  refine ⟨fun h1 => ?_, fun h1 => ?_⟩
  · rw [numA_bad (most := 16) (a := 0) (bad := false) h1]
    conv => whnf
    exact ⟨rfl, ⟨rfl, rfl, trivial⟩, trivial, ⟨rfl, rfl, rfl, trivial⟩, trivial⟩
  · obtain ⟨_, n, k, hg, hn, e⟩ := numA_ok (most := 16) (a := 0) (bad := false) h1
    have hg : Num.getN s 0 = some (n, k) := hg
    have hb := Num.getN_bd hg
    rw [e]
    rw [hg]
    conv => whnf
    exact ⟨rfl, ⟨(wr64 (n : Int) (by omega) (by omega)).symm, rfl, trivial⟩, trivial, ⟨rfl, by
      show ((0 + k : Nat) : Int) = IntKind.wrap .i64 ((0 : Int) + (k : Int))
      rw [wr64 _ (by omega) (by omega)]; omega, rfl, trivial⟩, trivial⟩
theorem ref16_num0 (s : List UInt8) (hs : s.length ≤ 1000000) :
    FnH Try.prog 88 [.c (.ptr 0 0), .c (.int .i64 16)] 112 [.str s, .int .i64 0, .bool .ff] (.c (.int .i64 (numA s 16 0 false).1)) (rdC s (numA s 16 0 false).2.1 (numA s 16 0 false).2.2) := by
  refine fnH noI Try.func88 rfl rfl rfl ?_
  conv => whnf
  refine any0 ?_
  conv => whnf
  refine callr0 (refnum_Get s 0 (by omega)) rfl ?_
  conv => whnf
  refine ⟨.inl (by kernel_rfl), after0 ?_⟩
  conv => whnf
  refine ⟨fun h1 => ?_, fun h1 => ?_⟩
  · rw [numA_bad (most := 16) (a := 0) (bad := false) h1]
    conv => whnf
    exact ⟨rfl, ⟨rfl, rfl, trivial⟩, trivial, ⟨rfl, rfl, rfl, trivial⟩, trivial⟩
  · obtain ⟨_, n, k, hg, hn, e⟩ := numA_ok (most := 16) (a := 0) (bad := false) h1
    have hg : Num.getN s 0 = some (n, k) := hg
    have hb := Num.getN_bd hg
    rw [e]
    rw [hg]
    conv => whnf
    refine any0 ?_
    conv => whnf
    refine ⟨.inl (by kernel_rfl), after0 ?_⟩
    conv => whnf
    exact ⟨rfl, ⟨(wr64 (n : Int) (by omega) (by omega)).symm, rfl, trivial⟩, trivial, ⟨rfl, by
      show ((0 + k : Nat) : Int) = IntKind.wrap .i64 ((0 : Int) + (k : Int))
      rw [wr64 _ (by omega) (by omega)]; omega, rfl, trivial⟩, trivial⟩
end Go.Proofs.Ythpllblcbbkfdaa
