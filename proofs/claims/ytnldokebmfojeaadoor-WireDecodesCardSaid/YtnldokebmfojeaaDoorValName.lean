/- The walks of val.Name and of the reference's Name. Own work. -/
import Derived.Test.YtnldokebmfojeaaDoorTab
set_option linter.unusedVariables false
set_option maxRecDepth 100000
namespace Go.Proofs.YtnldokebmfojeaaDoor
open Go Go.RowKit OE

/-- a byte that a name may hold; one that it may begin with -/
def nameB (c : UInt8) : Bool := (decide (97 ≤ c.toNat) && decide (c.toNat ≤ 122)) || (decide (48 ≤ c.toNat) && decide (c.toNat ≤ 57)) || decide (c.toNat = 95)
def name1 (c : UInt8) : Bool := decide (97 ≤ c.toNat) && decide (c.toNat ≤ 122)
def nameS (s : List UInt8) : Bool := decide (1 ≤ s.length) && decide (s.length ≤ 16) && (match s with | [] => false | c :: _ => name1 c) && s.all nameB

theorem nameS_eq : ∀ {s : List UInt8} (h : 0 < s.length), s.length ≤ 16 → nameS s = (name1 s[0] && s.all nameB)
  | [], h, _ => by simp at h
  | c :: t, _, h => by
    have e2 : decide ((c :: t).length ≤ 16) = true := by simpa using h
    have e1 : decide (1 ≤ (c :: t).length) = true := by simp
    unfold nameS
    rw [e1, e2]
    rfl
theorem nameS_no {s : List UInt8} (h : s.length < 1 ∨ 16 < s.length) : nameS s = false := by
  unfold nameS
  rcases h with h | h
  · simp; omega
  · simp; omega
theorem nameB_ok (c : UInt8) : nameB c = !((decide ((c.toNat : Int) < 97) || decide (122 < (c.toNat : Int))) && (decide ((c.toNat : Int) < 48) || decide (57 < (c.toNat : Int))) && !decide ((c.toNat : Int) = 95)) := by
  rw [Bool.eq_iff_iff]; simp [nameB]; omega

theorem val_Name (s : List UInt8) : FnD Tryd.prog 76 [.c (.str s)] (· = .c (.bool (.sym (nameS s)))) := by
  refine fn0 Tryd.func76 rfl rfl rfl ?_
  conv => whnf
  refine ⟨fun h => by simp at h; omega, ?_⟩
  conv => whnf
  refine ⟨fun h => by simp at h; omega, ?_⟩
  conv => whnf
  refine ⟨fun h1 => ?_, fun h1 => ?_⟩
  · conv => whnf
    by_cases hl : s.length < 1 ∨ 16 < s.length
    · rw [nameS_no hl]
    · have hlen : 0 < s.length := by omega
      rw [nameS_eq hlen (by omega)]
      have hb0 : bt s 0 = ((s[0]).toNat : Int) := bt_nat s 0 hlen
      rw [hb0] at h1
      have : name1 s[0] = false := by simp at h1; simp [name1]; omega
      rw [this, Bool.false_and]
  have hlen : 0 < s.length ∧ s.length ≤ 16 := by simp at h1; omega
  have hb0 : bt s 0 = ((s[0]).toNat : Int) := bt_nat s 0 hlen.1
  have hS := nameS_eq hlen.1 hlen.2
  rw [hb0] at h1
  have h0 : name1 s[0] = true := by simp at h1; simp [name1]; omega
  rw [h0, Bool.true_and] at hS
  rw [hS]
  conv => whnf
  refine loop0 (α := Nat) (fun i => i ≤ s.length ∧ (s.drop i).all nameB = s.all nameB) (fun i => ⟨[(0, .c (.str s)), (24, .c (.int .i64 s.length)), (25, .c (.int .i64 i))], [], 0⟩) (fun i => s.length - i) ⟨0, ⟨by omega, rfl⟩, ?_⟩ ?_
  · (conv => whnf); refine ⟨rfl, ?_, ?_, ?_⟩ <;> (repeat' apply And.intro) <;> first | exact trivial | rfl | exact wr_succ _ (by omega) | assumption | exact decide_eq_false (by assumption) | exact decide_eq_true (by assumption)
  · rintro i ⟨hI1, hI2⟩
    conv => whnf
    refine ⟨fun h5 => ?_, fun h5 => ?_⟩
    · have h5 : i < s.length := by simp at h5; omega
      have hbi : bt s ((i : Nat) : Int) = ((s[i]).toNat : Int) := bt_nat s i h5
      rw [all_step h5] at hI2
      conv => whnf
      refine ⟨by omega, ?_⟩
      rw [hbi]
      conv => whnf
      refine ⟨fun h6 => ?_, fun h6 => ?_⟩
      · conv => whnf
        have : nameB s[i] = false := by rw [nameB_ok, h6]; rfl
        rw [← hI2, this, Bool.false_and]
      · conv => whnf
        have : nameB s[i] = true := by rw [nameB_ok, h6]; rfl
        refine ⟨i + 1, ⟨⟨by omega, ?_⟩, by omega⟩, ?_⟩
        · rw [← hI2, this, Bool.true_and]
        · (conv => whnf); refine ⟨rfl, ?_, ?_, ?_⟩ <;> (repeat' apply And.intro) <;> first | exact trivial | rfl | exact wr_succ _ (by omega) | assumption | exact decide_eq_false (by assumption) | exact decide_eq_true (by assumption)
    · conv => whnf
      rw [← hI2, all_end (by simp at h5; omega)]

theorem ref_Name (s : List UInt8) : FnD Tryd.prog 34 [.c (.str s)] (· = .c (.bool (.sym (nameS s)))) := by
  refine fn0 Tryd.func34 rfl rfl rfl ?_
  conv => whnf
  refine ⟨fun h1 => ?_, fun h1 => ?_⟩
  · conv => whnf
    rw [nameS_no (by simp at h1; omega)]
  have hlen : 0 < s.length ∧ s.length ≤ 16 := by simp at h1; omega
  have hS := nameS_eq hlen.1 hlen.2
  conv => whnf
  refine loop0 (α := Nat) (fun i => i ≤ s.length ∧ (0 < i → name1 s[0] = true) ∧ (s.drop i).all nameB = s.all nameB) (fun i => ⟨[(0, .c (.str s)), (3, .c (.int .i64 i))], [], 0⟩) (fun i => s.length - i) ⟨0, ⟨by omega, fun h => by omega, rfl⟩, ?_⟩ ?_
  · (conv => whnf); refine ⟨rfl, ?_, ?_, ?_⟩ <;> (repeat' apply And.intro) <;> first | exact trivial | rfl | exact wr_succ _ (by omega) | assumption | exact decide_eq_false (by assumption) | exact decide_eq_true (by assumption)
  · rintro i ⟨hI1, hI3, hI2⟩
    conv => whnf
    refine ⟨fun h5 => ?_, fun h5 => ?_⟩
    · have h5 : i < s.length := by simp at h5; omega
      have hbi : bt s ((i : Nat) : Int) = ((s[i]).toNat : Int) := bt_nat s i h5
      rw [all_step h5] at hI2
      conv => whnf
      refine ⟨by omega, ?_⟩
      rw [hbi]
      conv => whnf
      have key : (!((decide ((97 : Int) ≤ (s[i].toNat : Int)) && decide ((s[i].toNat : Int) ≤ 122)) || (decide ((0 : Int) < i) && ((decide ((48 : Int) ≤ (s[i].toNat : Int)) && decide ((s[i].toNat : Int) ≤ 57)) || decide ((s[i].toNat : Int) = 95))))) = !(if i = 0 then name1 s[i] else nameB s[i]) := by
        by_cases h : i = 0
        · subst h; rw [Bool.eq_iff_iff]; simp [name1]; omega
        · rw [Bool.eq_iff_iff]; simp [nameB, h]; omega
      refine ⟨fun h6 => ?_, fun h6 => ?_⟩
      · conv => whnf
        have h6 : (if i = 0 then name1 s[i] else nameB s[i]) = false := by rw [← Bool.not_eq_true', ← key]; exact h6
        by_cases h : i = 0
        · subst h
          rw [if_pos rfl] at h6
          rw [hS, h6, Bool.false_and]
        · rw [if_neg h] at h6
          rw [hS, ← hI2, h6, Bool.false_and, Bool.and_false]
      · conv => whnf
        have h6 : (if i = 0 then name1 s[i] else nameB s[i]) = true := by rw [← Bool.not_eq_false', ← key]; exact h6
        have hB : name1 s[0] = true ∧ nameB s[i] = true := by
          by_cases h : i = 0
          · subst h
            rw [if_pos rfl] at h6
            exact ⟨h6, by simp [name1] at h6; simp [nameB]; omega⟩
          · rw [if_neg h] at h6
            exact ⟨hI3 (by omega), h6⟩
        refine ⟨i + 1, ⟨⟨by omega, fun _ => hB.1, ?_⟩, by omega⟩, ?_⟩
        · rw [← hI2, hB.2, Bool.true_and]
        · (conv => whnf); refine ⟨rfl, ?_, ?_, ?_⟩ <;> (repeat' apply And.intro) <;> first | exact trivial | rfl | exact wr_succ _ (by omega) | assumption | exact decide_eq_false (by assumption) | exact decide_eq_true (by assumption)
    · conv => whnf
      rw [hS, hI3 (by simp at h5; omega), ← hI2, all_end (by simp at h5; omega)]
      rfl
end Go.Proofs.YtnldokebmfojeaaDoor
