/- The walks of val.Encode and of the reference's. Own work. -/
import Derived.Test.YtnldokebmfojeaaDoorValGood
import Derived.Test.YtnldokebmfojeaaDoorNumPuts
import Derived.Test.YtnldokebmfojeaaDoorNumRef
set_option linter.unusedVariables false
set_option maxRecDepth 100000
namespace Go.Proofs.YtnldokebmfojeaaDoor
open Go Go.RowKit OE

/-- a kind's byte -/
def kb (k : Int) : List UInt8 := byl [IntKind.wrap .u8 k]
/-- a value's bytes -/
def encV (v : VD.T) : List UInt8 :=
  if blankV v = true then kb v.1
  else if goodV v = true then (if v.1 = 1 then kb v.1 ++ byl [IntKind.wrap .u8 v.2.1] else if v.1 = 2 then kb v.1 ++ Num.putZ v.2.1 else kb v.1 ++ Num.putT v.2.2)
  else []
theorem putZ_len (n : Int) (h0 : -9223372036854775808 ≤ n) (h1 : n ≤ 9223372036854775807) : (Num.putZ n).length ≤ 10 := Num.putN_ten (zig_bd n h0 h1)
theorem good_len {v : VD.T} (h : goodV v = true) : v.2.2.length ≤ 1024 := by
  unfold goodV at h
  split at h
  · simp [good1] at h; rw [h.2]; simp
  · split at h
    · simp at h; rw [h]; simp
    · split at h
      · simp only [good3, Bool.and_eq_true, decide_eq_true_eq] at h; omega
      · cases h
theorem blank_eq (v : VD.T) : VD.eqb v (0, 0, []) = blankV v := by
  simp [D.eqb, blankV, Bool.and_assoc]

theorem val_Encode (v : VD.T) (hv : Wf VD v) : FnD Tryd.prog 77 [.agg (vc v)] (· = .c (.str (encV v))) := by
  refine fn0 Tryd.func77 rfl rfl rfl ?_
  conv => whnf
  refine eqs0 VD (p := v) (q := (0, 0, [])) 100 rfl (by kernel_rfl) rfl (by kernel_rfl) rfl rfl rfl ?_
  rw [blank_eq]
  conv => whnf
  refine ⟨fun h1 => ?_, fun h1 => ?_⟩
  · conv => whnf
    simp [encV, h1, kb]
  conv => whnf
  refine call1 (val_Good v hv.1) rfl ?_
  conv => whnf
  refine ⟨fun h2 => ?_, fun h2 => ?_⟩
  · conv => whnf
    simp at h2
    simp [encV, h1, h2]
  simp at h2
  have hl := good_len h2
  have hE : encV v = if v.1 = 1 then kb v.1 ++ byl [IntKind.wrap .u8 v.2.1] else if v.1 = 2 then kb v.1 ++ Num.putZ v.2.1 else kb v.1 ++ Num.putT v.2.2 := by
    unfold encV; rw [if_neg (by simp [h1]), if_pos h2]
  rw [hE]
  conv => whnf
  refine ⟨fun h3 => ?_, fun h3 => ?_⟩
  · simp at h3
    rw [if_pos h3]
    conv => whnf
    refine ⟨by show 1 + 1 ≤ _; omega, ?_⟩
    conv => whnf
    rfl
  simp at h3
  rw [if_neg h3]
  conv => whnf
  refine ⟨fun h4 => ?_, fun h4 => ?_⟩
  · simp at h4
    rw [if_pos h4]
    have hz := wf_i64 hv.2.1
    have hzl := putZ_len v.2.1 hz.1 hz.2
    conv => whnf
    refine call1 (num_PutInt v.2.1 hz.1 hz.2) rfl ?_
    conv => whnf
    refine ⟨by show 1 + _ ≤ _; omega, ?_⟩
    conv => whnf
    rfl
  · simp at h4
    rw [if_neg h4]
    conv => whnf
    refine call1 (num_PutText v.2.2 (Nat.le_trans hl (by decide))) rfl ?_
    conv => whnf
    refine ⟨by
      show 1 + (Num.putT v.2.2).length ≤ _
      have := Num.putN_ten (n := v.2.2.length) (Nat.lt_of_le_of_lt hl (by decide))
      unfold Num.putT
      rw [List.length_append]
      omega, ?_⟩
    conv => whnf
    rfl

theorem refval_Encode (v : VD.T) (hv : Wf VD v) : FnD Tryd.prog 30 [.agg (vc v)] (· = .c (.str (encV v))) := by
  refine fn0 Tryd.func30 rfl rfl rfl ?_
  conv => whnf
  refine call1 (ref_Good v) rfl ?_
  conv => whnf
  refine callg0 (fun _ => ref_Blank v) rfl ?_
  conv => whnf
  refine ⟨fun h0 => ?_, fun h0 => ?_⟩
  · conv => whnf
    simp at h0
    simp [encV, h0]
  conv => whnf
  have hk0 : blankV v = true → v.1 = 0 := fun h => by simp [blankV] at h; exact h.1.1
  have hE : encV v = if v.1 = 1 then kb v.1 ++ byl [IntKind.wrap .u8 v.2.1] else if v.1 = 2 then kb v.1 ++ Num.putZ v.2.1 else if v.1 = 3 then kb v.1 ++ Num.putT v.2.2 else kb v.1 := by
    unfold encV
    by_cases hb : blankV v = true
    · have := hk0 hb
      rw [if_pos hb, this]
      simp
    · have hg : goodV v = true := by simp [hb] at h0; exact h0
      rw [if_neg hb, if_pos hg]
      by_cases h1 : v.1 = 1
      · rw [if_pos h1, if_pos h1]
      · rw [if_neg h1, if_neg h1]
        by_cases h2 : v.1 = 2
        · rw [if_pos h2, if_pos h2]
        · rw [if_neg h2, if_neg h2]
          have h3 : v.1 = 3 := by
            apply Classical.byContradiction
            intro h3
            simp [goodV, h1, h2, h3] at hg
          rw [if_pos h3]
  have hl : v.1 = 3 → v.2.2.length ≤ 1024 := fun h => by
    by_cases hb : blankV v = true
    · rw [hk0 hb] at h; cases h
    · have hg : goodV v = true := by simp [hb] at h0; exact h0
      exact good_len hg
  rw [hE]
  refine ⟨fun h3 => ?_, fun h3 => ?_⟩
  · simp at h3
    rw [if_pos h3]
    conv => whnf
    refine ⟨by show 1 + 1 ≤ _; omega, ?_⟩
    conv => whnf
    rfl
  simp at h3
  rw [if_neg h3]
  conv => whnf
  refine ⟨fun h4 => ?_, fun h4 => ?_⟩
  · simp at h4
    rw [if_pos h4]
    have hz := wf_i64 hv.2.1
    have hzl := putZ_len v.2.1 hz.1 hz.2
    conv => whnf
    refine call1 (ref_PutInt v.2.1 hz.1 hz.2) rfl ?_
    conv => whnf
    refine ⟨by show 1 + _ ≤ _; omega, ?_⟩
    conv => whnf
    rfl
  simp at h4
  rw [if_neg h4]
  conv => whnf
  refine ⟨fun h5 => ?_, fun h5 => ?_⟩
  · simp at h5
    rw [if_pos h5]
    conv => whnf
    refine call1 (ref_PutText v.2.2 (Nat.le_trans (hl h5) (by decide))) rfl ?_
    conv => whnf
    refine ⟨by
      show 1 + (Num.putT v.2.2).length ≤ _
      have := Num.putN_ten (n := v.2.2.length) (Nat.lt_of_le_of_lt (hl h5) (by decide))
      unfold Num.putT
      rw [List.length_append]
      have := hl h5
      omega, ?_⟩
    conv => whnf
    rfl
  · simp at h5
    rw [if_neg h5]
    conv => whnf
    rfl
end Go.Proofs.YtnldokebmfojeaaDoor
