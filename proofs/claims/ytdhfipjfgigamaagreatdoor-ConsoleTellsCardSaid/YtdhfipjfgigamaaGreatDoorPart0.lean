/- Several texts of the proof, one behind the other; put together by a program of the session (mrg.py). Own work. -/
import Derived.Lib.ParseIntBCases
import Derived.Lib.ParseIntBTie
import Derived.Lib.ItoaMem
import Derived.Lib.SlTrimSet
import Derived.Lib.Bytealg
import Derived.WalkKit
import GoSem.Claim
import Derived.Maps.Keyed
import Derived.DeepKeys4
import Derived.Laws.Strings
/- Numbers in decimal digits, cut words, hexadecimal texts; no program in sight. Own work. -/
set_option linter.unusedVariables false
set_option maxRecDepth 100000
namespace Go.Proofs.YtdhfipjfgigamaaGreatDoor.Con
open Go Go.Lib

/-! words -/
def wordsL : List UInt8 → List (List UInt8)
  | [] => [[]]
  | c :: s => if c = 32 then [] :: wordsL s else match wordsL s with
    | [] => [[c]]
    | w :: ws => (c :: w) :: ws
theorem wordsL_ne : ∀ s : List UInt8, wordsL s ≠ []
  | [] => by simp [wordsL]
  | c :: s => by
    unfold wordsL
    split
    · simp
    · split <;> simp
theorem wordsL_one : ∀ {a : List UInt8}, (∀ c ∈ a, c ≠ 32) → wordsL a = [a]
  | [], _ => rfl
  | c :: a, h => by
    unfold wordsL
    rw [if_neg (h c (List.mem_cons_self ..)), wordsL_one (a := a) fun d hd => h d (List.mem_cons_of_mem _ hd)]
theorem wordsL_cut : ∀ {a : List UInt8} (b : List UInt8), (∀ c ∈ a, c ≠ 32) → wordsL (a ++ 32 :: b) = a :: wordsL b
  | [], b, _ => by simp [wordsL]
  | c :: a, b, h => by
    show wordsL (c :: (a ++ 32 :: b)) = _
    rw [wordsL, if_neg (h c (List.mem_cons_self ..)), wordsL_cut (a := a) b fun d hd => h d (List.mem_cons_of_mem _ hd)]

/-! numbers -/
def digitB (c : UInt8) : Bool := decide (48 ≤ c.toNat ∧ c.toNat ≤ 57)
def valF (acc : Nat) (s : List UInt8) : Nat := s.foldl (fun n c => n * 10 + (c.toNat - 48)) acc
def valD (s : List UInt8) : Nat := valF 0 s
def numPre (s : List UInt8) : Bool := !decide (s = []) && decide (s.length ≤ 19) && !(decide (1 < s.length) && decide (s.head? = some 48)) && s.all digitB
def numOk (s : List UInt8) : Bool := numPre s && decide (valD s < 9223372036854775808)
/-- what is handed back, and whether it is one -/
def numP (s : List UInt8) : Int × Bool := if numPre s = true then (if valD s < 9223372036854775808 then ((valD s : Int), true) else (9223372036854775807, false)) else (0, false)
def numR (s : List UInt8) : Int := if numOk s = true then (valD s : Int) else -1
theorem valF_lt : ∀ (s : List UInt8) (acc : Nat), s.all digitB = true → valF acc s < (acc + 1) * 10 ^ s.length
  | [], acc, _ => by simp [valF]
  | c :: s, acc, h => by
    rw [List.all_cons, Bool.and_eq_true] at h
    have hc : 48 ≤ c.toNat ∧ c.toNat ≤ 57 := of_decide_eq_true h.1
    have := valF_lt s (acc * 10 + (c.toNat - 48)) h.2
    show valF (acc * 10 + (c.toNat - 48)) s < _
    rw [List.length_cons, Nat.pow_succ]
    refine Nat.lt_of_lt_of_le this ?_
    rw [show (acc + 1) * (10 ^ s.length * 10) = ((acc + 1) * 10) * 10 ^ s.length by rw [Nat.mul_comm (10 ^ s.length) 10, Nat.mul_assoc]]
    exact Nat.mul_le_mul_right _ (by omega)
theorem valD_lt {s : List UInt8} (h : s.all digitB = true) : valD s < 10 ^ s.length := by
  have := valF_lt s 0 h
  simpa [valD] using this
theorem valF_ge : ∀ (s : List UInt8) (acc : Nat), acc ≤ valF acc s
  | [], acc => Nat.le_refl _
  | c :: s, acc => Nat.le_trans (by omega) (valF_ge s (acc * 10 + (c.toNat - 48)))
theorem parseM_ok : ∀ (s : List UInt8) (acc : Nat), s.all digitB = true → valF acc s ≤ 18446744073709551615 → parseUintM 18446744073709551615 acc s = .ok (valF acc s)
  | [], acc, _, _ => rfl
  | c :: s, acc, h, hv => by
    rw [List.all_cons, Bool.and_eq_true] at h
    have hc : 48 ≤ c.toNat ∧ c.toNat ≤ 57 := of_decide_eq_true h.1
    have hv : valF (acc * 10 + (c.toNat - 48)) s ≤ 18446744073709551615 := hv
    have := valF_ge s (acc * 10 + (c.toNat - 48))
    unfold parseUintM
    rw [if_pos hc, if_neg (by omega), if_neg (by omega)]
    exact parseM_ok s _ h.2 hv
theorem len_of {s : List UInt8} (h : numPre s = true) : s ≠ [] ∧ s.length ≤ 19 ∧ s.all digitB = true ∧ ¬ (1 < s.length ∧ s.head? = some 48) := by
  unfold numPre at h
  simp only [Bool.and_eq_true, Bool.not_eq_true', decide_eq_false_iff_not, decide_eq_true_eq, Bool.and_eq_false_iff] at h
  obtain ⟨⟨⟨h1, h2⟩, h3⟩, h4⟩ := h
  exact ⟨h1, h2, h4, fun ⟨g1, g2⟩ => by rcases h3 with h3 | h3 <;> contradiction⟩
theorem valD_19 {s : List UInt8} (h : numPre s = true) : valD s < 10000000000000000000 := by
  obtain ⟨_, h2, h3, _⟩ := len_of h
  have h4 := valD_lt h3
  have h5 : 10 ^ s.length ≤ 10 ^ 19 := Nat.pow_le_pow_right (by omega) h2
  exact Nat.lt_of_lt_of_le h4 h5
theorem digit_ne {c : UInt8} (h : digitB c = true) : c.toNat ≠ 43 ∧ c.toNat ≠ 45 ∧ c ≠ 32 ∧ c ≠ 34 ∧ c ≠ 45 := by
  have h : 48 ≤ c.toNat ∧ c.toNat ≤ 57 := of_decide_eq_true h
  refine ⟨by omega, by omega, ?_, ?_, ?_⟩ <;> (intro e; subst e; revert h; decide)
theorem parseI_pre {s : List UInt8} (h : numPre s = true) : parseIntB 64 s = if valD s < 9223372036854775808 then .ok (valD s : Int) else .range := by
  have hv := valD_19 h
  obtain ⟨h1, h2, h3, _⟩ := len_of h
  cases s with
  | nil => exact absurd rfl h1
  | cons c r =>
    have hc : digitB c = true := by rw [List.all_cons, Bool.and_eq_true] at h3; exact h3.1
    have hne := digit_ne hc
    rw [parseIntB_plain 64 c r hne.1 hne.2.1]
    unfold parseUintB
    rw [if_neg (by simp), show (2 : Nat) ^ 64 - 1 = 18446744073709551615 by decide, parseM_ok _ 0 h3 (by unfold valD at hv; omega)]
    show signlessC (2 ^ (64 - 1)) (.ok (valD (c :: r))) = _
    rw [show (2 : Nat) ^ (64 - 1) = 9223372036854775808 by decide]
    unfold signlessC
    by_cases hlt : valD (c :: r) < 9223372036854775808
    · rw [if_pos hlt]; simp; omega
    · rw [if_neg hlt]; simp; omega
/-! the numeral of a number -/
theorem head_app {a : List UInt8} (b : List UInt8) (h : a ≠ []) : (a ++ b).head? = a.head? := by
  cases a with
  | nil => exact absurd rfl h
  | cons c a => rfl
theorem valF_app (a b : List UInt8) (acc : Nat) : valF acc (a ++ b) = valF (valF acc a) b := List.foldl_append ..
theorem u8_of (d : Nat) (h : d < 10) : (UInt8.ofNat (48 + d)).toNat = 48 + d := by
  rw [UInt8.toNat_ofNat']
  omega
theorem dec_val (u : Nat) : valD (decDigits u) = u ∧ (decDigits u).all digitB = true ∧ decDigits u ≠ [] ∧ ((decDigits u).head? = some 48 → u = 0) := by
  induction u using Nat.strongRecOn with
  | _ u ih =>
    rw [decDigits]
    by_cases h : u < 10
    · rw [dif_pos h]
      refine ⟨?_, ?_, by simp, ?_⟩
      · show 0 * 10 + ((UInt8.ofNat (48 + u)).toNat - 48) = u
        rw [u8_of u h]; omega
      · have := u8_of u h
        simp [digitB]; omega
      · intro e
        have e : UInt8.ofNat (48 + u) = 48 := by simpa using e
        have := u8_of u h
        rw [e] at this
        have h48 : (48 : UInt8).toNat = 48 := rfl
        omega
    · rw [dif_neg h]
      obtain ⟨h1, h2, h3, h4⟩ := ih (u / 10) (by omega)
      have h5 := u8_of (u % 10) (by omega)
      refine ⟨?_, ?_, by simp, ?_⟩
      · unfold valD
        rw [valF_app]
        show valF 0 (decDigits (u / 10)) * 10 + ((UInt8.ofNat (48 + u % 10)).toNat - 48) = u
        rw [show valF 0 (decDigits (u / 10)) = u / 10 from h1, h5]
        omega
      · rw [List.all_append, h2]
        simp [digitB]; omega
      · intro e
        rw [head_app _ h3] at e
        have := h4 e
        omega
theorem dec_len {u : Nat} (h : u < 10000000000000000000) : (decDigits u).length ≤ 19 := by
  rw [decDigits_length]
  apply Classical.byContradiction
  intro hn
  have h1 : 10 ^ 19 ≤ 10 ^ (nDigits u - 1) := Nat.pow_le_pow_right (by omega) (by omega)
  have : ∀ u, 10 ^ (nDigits u - 1) ≤ u ∨ u = 0 := by
    intro u
    induction u using Nat.strongRecOn with
    | _ u ih =>
      by_cases hu : u < 10
      · rw [nDigits_small hu]
        by_cases h0 : u = 0
        · right; exact h0
        · left; simp; omega
      · left
        rw [nDigits_big hu]
        have hp := nDigits_pos (u / 10)
        rcases ih (u / 10) (by omega) with h | h
        · rw [show nDigits (u / 10) + 1 - 1 = (nDigits (u / 10) - 1) + 1 by omega, Nat.pow_succ]
          omega
        · omega
  rcases this u with h2 | h2
  · have : (10 : Nat) ^ 19 = 10000000000000000000 := by decide
    omega
  · subst h2
    rw [nDigits_small (by omega)] at hn
    omega
theorem dec_pre {u : Nat} (h : u < 10000000000000000000) : numPre (decDigits u) = true := by
  obtain ⟨h1, h2, h3, h4⟩ := dec_val u
  have h5 := dec_len h
  unfold numPre
  rw [h2, decide_eq_true h5, decide_eq_false h3]
  have : ¬ (1 < (decDigits u).length ∧ (decDigits u).head? = some 48) := by
    rintro ⟨g1, g2⟩
    have := h4 g2
    subst this
    rw [decDigits] at g1
    simp at g1
  by_cases g1 : 1 < (decDigits u).length
  · have g2 : ¬ (decDigits u).head? = some 48 := fun g2 => this ⟨g1, g2⟩
    rw [decide_eq_true g1, decide_eq_false g2]; rfl
  · rw [decide_eq_false g1]; rfl
/-- digits are their number's digits -/
theorem dec_of : ∀ (n : Nat) (s : List UInt8), s.length = n → s ≠ [] → s.all digitB = true → ¬ (1 < s.length ∧ s.head? = some 48) → decDigits (valD s) = s := by
  intro n
  induction n with
  | zero => intro s hl h1; exact absurd (List.eq_nil_of_length_eq_zero hl) h1
  | succ n ih =>
    intro s hl h1 h2 h3
    obtain ⟨t, c, rfl⟩ : ∃ t c, s = t ++ [c] := ⟨s.dropLast, s.getLast h1, (List.dropLast_concat_getLast h1).symm⟩
    rw [List.all_append, Bool.and_eq_true] at h2
    have hc : 48 ≤ c.toNat ∧ c.toNat ≤ 57 := by have := h2.2; simp [digitB] at this; exact this
    have hv : valD (t ++ [c]) = valD t * 10 + (c.toNat - 48) := by unfold valD; rw [valF_app]; rfl
    have hcc : ∀ d, d = c.toNat - 48 → UInt8.ofNat (48 + d) = c := fun d hd => by
      rw [hd, show 48 + (c.toNat - 48) = c.toNat by omega]
      exact UInt8.ofNat_toNat
    by_cases ht : t = []
    · subst ht
      rw [hv]
      show decDigits (0 * 10 + (c.toNat - 48)) = [c]
      rw [decDigits, dif_pos (by omega), hcc _ (by omega)]
    · have hhead : (t ++ [c]).head? = t.head? := head_app _ ht
      have ht0 : ¬ t.head? = some 48 := by
        intro e
        refine h3 ⟨?_, by rw [hhead]; exact e⟩
        rw [List.length_append]
        have := List.length_pos_iff.2 ht
        simp; omega
      have hih := ih t (by simpa using hl) ht h2.1 (fun ⟨_, e⟩ => ht0 e)
      have hpos : 0 < valD t := by
        rcases Nat.eq_zero_or_pos (valD t) with e | e
        · rw [e] at hih
          exfalso
          apply ht0
          rw [← hih, decDigits]
          rfl
        · exact e
      rw [hv, decDigits, dif_neg (by omega), show (valD t * 10 + (c.toNat - 48)) / 10 = valD t by omega, hih, show (valD t * 10 + (c.toNat - 48)) % 10 = c.toNat - 48 by omega, hcc _ rfl]
theorem dec_canon {s : List UInt8} (h : numPre s = true) : decDigits (valD s) = s := by
  obtain ⟨h1, h2, h3, h4⟩ := len_of h
  exact dec_of s.length s rfl h1 h3 h4
end Go.Proofs.YtdhfipjfgigamaaGreatDoor.Con
/- Values' words: numbers, hexadecimal texts; no program in sight. Own work. -/
set_option linter.unusedVariables false
set_option maxRecDepth 100000
namespace Go.Proofs.YtdhfipjfgigamaaGreatDoor.Con
open Go Go.Lib

theorem numP_ok (s : List UInt8) : (numP s).2 = numOk s ∧ ((numP s).2 = true → (numP s).1 = numR s) ∧ ((numP s).2 = true ↔ 0 ≤ numR s) := by
  unfold numP numR numOk
  by_cases h : numPre s = true
  · by_cases h2 : valD s < 9223372036854775808
    · simp [h, h2]
    · simp [h, h2]
  · simp [h]
/-- the number of a numeral -/
def intV (s : List UInt8) : Option Int :=
  if s.head? = some 45 then (if numPre s.tail = true ∧ valD s.tail ≠ 0 ∧ valD s.tail ≤ 9223372036854775808 then some (-(valD s.tail : Int)) else none)
  else if numOk s = true then some (valD s : Int) else none
theorem itoa_pos {n : Int} (h : 0 ≤ n) : itoa n = decDigits n.toNat := by unfold itoa; rw [if_neg (by omega)]
theorem itoa_neg' {n : Int} (h : n < 0) : itoa n = 45 :: decDigits n.natAbs := by unfold itoa; rw [if_pos h]
theorem dec_head {u : Nat} : ¬ (decDigits u).head? = some 45 := by
  intro e
  obtain ⟨_, h2, h3, _⟩ := dec_val u
  cases h : decDigits u with
  | nil => exact h3 h
  | cons c t =>
    rw [h] at e h2
    have e : c = 45 := by simpa using e
    rw [List.all_cons, Bool.and_eq_true] at h2
    exact (digit_ne h2.1).2.2.2.2 e
theorem intV_itoa {n : Int} (h0 : -9223372036854775808 ≤ n) (h1 : n ≤ 9223372036854775807) : intV (itoa n) = some n := by
  by_cases h : n < 0
  · rw [itoa_neg' h]
    unfold intV
    rw [if_pos (by rfl), List.tail_cons, (dec_val n.natAbs).1, if_pos ⟨dec_pre (by omega), by omega, by omega⟩]
    congr 1
    omega
  · rw [itoa_pos (by omega)]
    unfold intV
    rw [if_neg dec_head]
    have : numOk (decDigits n.toNat) = true := by
      unfold numOk
      rw [dec_pre (by omega), (dec_val n.toNat).1, decide_eq_true (by omega)]
      rfl
    rw [if_pos this, (dec_val n.toNat).1]
    congr 1
    omega
theorem intV_some {s : List UInt8} {n : Int} (h : intV s = some n) : itoa n = s ∧ -9223372036854775808 ≤ n ∧ n ≤ 9223372036854775807 := by
  unfold intV at h
  split at h
  · rename_i hh
    split at h
    · rename_i h2
      obtain ⟨g1, g2, g3⟩ := h2
      cases h
      cases s with
      | nil => cases hh
      | cons c t =>
        have hh : c = 45 := by simpa using hh
        subst hh
        rw [List.tail_cons] at *
        refine ⟨?_, by omega, by omega⟩
        rw [itoa_neg' (by omega), show (-(valD t : Int)).natAbs = valD t by omega, dec_canon g1]
    · cases h
  · split at h
    · rename_i h2
      cases h
      unfold numOk at h2
      rw [Bool.and_eq_true, decide_eq_true_eq] at h2
      refine ⟨?_, by omega, by omega⟩
      rw [itoa_pos (by omega), show ((valD s : Int)).toNat = valD s by omega, dec_canon h2.1]
    · cases h
theorem parse_itoa {n : Int} (h0 : -9223372036854775808 ≤ n) (h1 : n ≤ 9223372036854775807) : parseIntB 64 (itoa n) = .ok n := by
  by_cases h : n < 0
  · rw [itoa_neg' h, parseIntB_minus]
    have hp := dec_pre (u := n.natAbs) (by omega)
    obtain ⟨g1, g2, g3, _⟩ := dec_val n.natAbs
    unfold parseUintB
    rw [if_neg g3, show (2 : Nat) ^ 64 - 1 = 18446744073709551615 by decide, parseM_ok _ 0 g2 (by show valD _ ≤ _; rw [g1]; omega)]
    show signedC (2 ^ (64 - 1)) (.ok (valD (decDigits n.natAbs))) = _
    rw [g1, show (2 : Nat) ^ (64 - 1) = 9223372036854775808 by decide]
    show (if 9223372036854775808 < n.natAbs then NumEnd.range else NumEnd.ok (-(n.natAbs : Int))) = NumEnd.ok n
    rw [if_neg (by omega), show -(n.natAbs : Int) = n by omega]
  · rw [itoa_pos (by omega), parseI_pre (dec_pre (by omega)), (dec_val n.toNat).1, if_pos (by omega)]
    congr 1
    omega
/-- a numeral that is written as it is read -/
theorem intV_parse (s : List UInt8) : (∀ n, parseIntB 64 s = .ok n → (itoa n = s ↔ intV s = some n)) ∧ ((∀ n, parseIntB 64 s ≠ .ok n) → intV s = none) := by
  refine ⟨fun n h => ⟨fun e => ?_, fun e => (intV_some e).1⟩, fun h => ?_⟩
  · have hb := parseIntB_bounds h
    rw [show (2 : Nat) ^ (64 - 1) = 9223372036854775808 by decide] at hb
    rw [← e]
    exact intV_itoa (by omega) (by omega)
  · cases e : intV s with
    | none => rfl
    | some n =>
      obtain ⟨g1, g2, g3⟩ := intV_some e
      rw [← g1] at h
      exact absurd (parse_itoa g2 g3) (h n)

/-! hexadecimal texts -/
def hexD : List UInt8 := [48, 49, 50, 51, 52, 53, 54, 55, 56, 57, 97, 98, 99, 100, 101, 102]
def hexI (c : UInt8) : Int := indexByte hexD c
def hexC (n : Nat) : UInt8 := hexD.getD n 0
def hexB (t : List UInt8) : Bool := decide (t.length % 2 = 0) && t.all (hexD.contains ·)
def unhex : List UInt8 → List UInt8
  | a :: b :: r => UInt8.ofNat (16 * (hexI a).toNat + (hexI b).toNat) :: unhex r
  | _ => []
def hexS : List UInt8 → List UInt8
  | [] => []
  | c :: r => hexC (c.toNat / 16) :: hexC (c.toNat % 16) :: hexS r
theorem hexI_C (n : Nat) (h : n < 16) : hexI (hexC n) = n ∧ hexD.contains (hexC n) = true := by
  have : ∀ n : Fin 16, hexI (hexC n.val) = (n.val : Int) ∧ hexD.contains (hexC n.val) = true := by decide
  exact this ⟨n, h⟩
theorem hexC_I (c : UInt8) (h : hexD.contains c = true) : 0 ≤ hexI c ∧ hexI c < 16 ∧ hexC (hexI c).toNat = c := by
  have : ∀ c ∈ hexD, 0 ≤ hexI c ∧ hexI c < 16 ∧ hexC (hexI c).toNat = c := by decide
  exact this c (by simpa using h)
theorem hexS_ok : ∀ s : List UInt8, hexB (hexS s) = true ∧ unhex (hexS s) = s
  | [] => ⟨rfl, rfl⟩
  | c :: r => by
    obtain ⟨h1, h2⟩ := hexS_ok r
    have hc : c.toNat < 256 := c.toNat_lt
    obtain ⟨a1, a2⟩ := hexI_C (c.toNat / 16) (by omega)
    obtain ⟨b1, b2⟩ := hexI_C (c.toNat % 16) (by omega)
    constructor
    · unfold hexB at h1 ⊢
      rw [Bool.and_eq_true, decide_eq_true_eq] at h1
      show (decide (((hexS r).length + 1 + 1) % 2 = 0) && (hexD.contains (hexC (c.toNat / 16)) && (hexD.contains (hexC (c.toNat % 16)) && (hexS r).all (hexD.contains ·)))) = true
      rw [a2, b2, h1.2, decide_eq_true (by omega)]
      rfl
    · show UInt8.ofNat (16 * (hexI (hexC (c.toNat / 16))).toNat + (hexI (hexC (c.toNat % 16))).toNat) :: unhex (hexS r) = c :: r
      rw [a1, b1, h2, Int.toNat_natCast, Int.toNat_natCast, show 16 * (c.toNat / 16) + c.toNat % 16 = c.toNat by omega, UInt8.ofNat_toNat]
theorem hex_un : ∀ (n : Nat) (t : List UInt8), t.length ≤ n → hexB t = true → hexS (unhex t) = t := by
  intro n
  induction n using Nat.strongRecOn with
  | _ n ih =>
    intro t hn h
    match t, hn, h with
    | [], _, _ => rfl
    | [a], _, h => exact absurd h (by unfold hexB; simp)
    | a :: b :: r, hn, h =>
      unfold hexB at h
      rw [Bool.and_eq_true, decide_eq_true_eq, List.all_cons, List.all_cons, Bool.and_eq_true, Bool.and_eq_true] at h
      obtain ⟨h1, ha, hb, hr⟩ := h
      obtain ⟨a1, a2, a3⟩ := hexC_I a ha
      obtain ⟨b1, b2, b3⟩ := hexC_I b hb
      have hn : r.length + 1 + 1 ≤ n := hn
      have h1 : (r.length + 1 + 1) % 2 = 0 := h1
      have hx : (UInt8.ofNat (16 * (hexI a).toNat + (hexI b).toNat)).toNat = 16 * (hexI a).toNat + (hexI b).toNat := by
        rw [UInt8.toNat_ofNat']
        omega
      show hexC ((UInt8.ofNat _).toNat / 16) :: hexC ((UInt8.ofNat _).toNat % 16) :: hexS (unhex r) = a :: b :: r
      rw [hx, show (16 * (hexI a).toNat + (hexI b).toNat) / 16 = (hexI a).toNat by omega, show (16 * (hexI a).toNat + (hexI b).toNat) % 16 = (hexI b).toNat by omega, a3, b3,
        ih r.length (by omega) r (Nat.le_refl _) (by unfold hexB; rw [decide_eq_true (by omega : r.length % 2 = 0), hr]; rfl)]
/-! a text without what is cut off is empty where it is made of that alone -/
theorem dw_nil {p : UInt8 → Bool} : ∀ l : List UInt8, l.dropWhile p = [] ↔ l.all p = true
  | [] => by simp
  | c :: l => by
    rw [List.dropWhile_cons]
    by_cases h : p c = true
    · rw [if_pos h, dw_nil l]; simp [h]
    · rw [if_neg h]; simp [h]
theorem trim_nil (s cs : List UInt8) : trimS s cs = [] ↔ s.all (cs.contains ·) = true := by
  unfold trimS trimLeftS
  rw [dw_nil]
  unfold trimRightS
  have key : ∀ l : List UInt8, ((l.dropWhile (cs.contains ·)).reverse.all (cs.contains ·) = true) ↔ l.all (cs.contains ·) = true := by
    intro l
    rw [List.all_reverse]
    induction l with
    | nil => simp
    | cons c l ih =>
      rw [List.dropWhile_cons]
      by_cases h : cs.contains c = true
      · rw [if_pos h, ih, List.all_cons, h]; simp
      · rw [if_neg h]
  rw [key, List.all_reverse]
def decD : List UInt8 := [48, 49, 50, 51, 52, 53, 54, 55, 56, 57]
theorem dec_has (c : UInt8) : decD.contains c = digitB c := by
  have : ∀ c : UInt8, decD.contains c = digitB c := by
    intro c
    have : ∀ n : Fin 256, decD.contains (UInt8.ofNat n.val) = digitB (UInt8.ofNat n.val) := by decide
    have h := this ⟨c.toNat, c.toNat_lt⟩
    simpa using h
  exact this c
end Go.Proofs.YtdhfipjfgigamaaGreatDoor.Con
/- OE, part 1: data, abstract cells and values, and what they stand for in a world. Own work; generic over the program. -/
namespace OE
open Go Go.RowKit

/-- Kinds of data: what a value in memory is read as. -/
inductive D where
  | int (k : IntKind) | bool | str | pair (a b : D) | list (a : D)
  deriving DecidableEq

@[reducible] def D.T : D → Type
  | .int _ => Int
  | .bool => Bool
  | .str => List UInt8
  | .pair a b => a.T × b.T
  | .list a => List a.T

def D.sz : D → Nat
  | .pair a b => a.sz + b.sz
  | _ => 1

theorem D.sz_pos : ∀ d : D, 0 < d.sz
  | .pair a b => by have := a.sz_pos; simp only [D.sz]; omega
  | .int _ | .bool | .str | .list _ => by simp [D.sz]

def D.df : (d : D) → d.T
  | .int _ => (0 : Int)
  | .bool => false
  | .str => ([] : List UInt8)
  | .pair a b => (a.df, b.df)
  | .list _ => []

/-- element i of a list of data -/
def gt {d : D} (xs : List d.T) (i : Int) : d.T := xs.getD i.toNat d.df

/-- a Bool: known, or not -/
inductive BE where
  | tt | ff | sym (b : Bool)
def BE.v : BE → Bool
  | .tt => true
  | .ff => false
  | .sym b => b
def BE.of : Bool → BE
  | true => .tt
  | false => .ff
def BE.not : BE → BE
  | .tt => .ff
  | .ff => .tt
  | .sym b => .sym (!b)
@[simp] theorem BE.v_sym (b : Bool) : (BE.sym b).v = b := rfl
@[simp] theorem BE.v_tt : BE.tt.v = true := rfl
@[simp] theorem BE.v_ff : BE.ff.v = false := rfl
theorem BE.of_v (b : Bool) : (BE.of b).v = b := by cases b <;> rfl
theorem BE.not_v (b : BE) : b.not.v = !b.v := by cases b <;> rfl

inductive C where
  | int (k : IntKind) (n : Int)
  | bool (b : BE)
  | str (s : List UInt8)
  | ptr (b off : Nat)
  | pel (d : D) (x : d.T) (off : Nat)
  | prw (b : Nat) (i : Int) (sz off : Nat)
  | row (b : Nat)
  | dat (d : D) (xs : List d.T)
  | val (v : Value)
  | fn (f : FuncId) (caps : List (Nat × Nat))
  | bm (f : FuncId) (b off : Nat)
  | mp (b : Nat)
  | chn (b : Nat)
  | csl (b n : Nat)
  | sub (b o sz n c : Nat)
  | glb (g : Nat)

inductive SV where
  | c (x : C)
  | agg (l : List C)
  | tup (l : List (Bool × List C))
  | un
  | arr (d : D) (xs : List d.T)

inductive Ob where
  | cells (T : TypeId) (l : List C)
  | row (T : TypeId) (d : D) (xs : List d.T)
  | lmp (T : TypeId) (k : IntKind) (es : List (Int × SV))
  | dmp (T : TypeId) (kd vd : D) (es : List (kd.T × vd.T))
  | itr (m n : Nat) (seen : List Nat)
  | wid (T : TypeId) (d : D) (xs : List d.T) (c : Nat)
  | chan (cap : Nat) (d : D) (xs : List d.T) (s r : Nat)
  | sit (s : List UInt8) (p : Nat)

/-- the cells of plain data -/
def D.vs : (d : D) → d.T → List Value
  | .int k, n => [.int k n]
  | .bool, b => [.bool b]
  | .str, s => [.string ⟨s.toArray⟩]
  | .pair a b, p => a.vs p.1 ++ b.vs p.2
  | .list _, _ => []
/-- plain data as one value -/
def D.v : (d : D) → d.T → Value
  | .int k, n => .int k n
  | .bool, b => .bool b
  | .str, s => .string ⟨s.toArray⟩
  | .pair a b, p => .agg ((D.pair a b).vs p).toArray
  | .list _, _ => .slice none 0 0
/-- what may be a key -/
def D.ok : (d : D) → d.T → Prop
  | .int k, n => (Lit.int k n).wf = true
  | .bool, _ => True
  | .str, s => s.length ≤ 9223372036854775807
  | .pair a b, p => a.ok p.1 ∧ b.ok p.2
  | .list _, _ => False

/-- no lists inside -/
def D.plain : D → Bool
  | .pair a b => a.plain && b.plain
  | .list _ => false
  | _ => true

/-- what a package's variable holds: data; some interface value that is not nil -/
inductive GV where
  | dat (d : D) (xs : List d.T)
  | ifc
/-- the package's variables, and what they hold (none; a program of the session puts a seat's own here) -/
def glS : Nat → Option GV
  | 0 => some (.dat (.pair .str (.pair (.int .i64) (.pair (.int .i64) .str))) [([98, 101, 103, 105, 110], 1, 0, []), ([99, 111, 109, 109, 105, 116], 2, 0, []), ([97, 98, 111, 114, 116], 3, 0, []), ([99, 97, 116, 97, 108, 111, 103], 20, 0, []), ([115, 97, 118, 101], 4, 0, [110]), ([98, 97, 99, 107], 5, 0, [110]), ([110, 111, 100, 101], 6, 1, [116]), ([100, 114, 111, 112], 6, 2, [105]), ([99, 97, 115, 99, 97, 100, 101], 6, 2, [105]), ([101, 100, 103, 101], 6, 3, [116, 97, 98]), ([99, 117, 116], 6, 4, [105]), ([115, 101, 116], 6, 5, [105, 110, 118]), ([103, 101, 116], 7, 0, [105]), ([97, 114, 99], 8, 0, [105]), ([111, 117, 116], 9, 0, [105, 101]), ([105, 110], 10, 0, [105, 101]), ([115, 99, 97, 110], 11, 0, [116]), ([102, 105, 110, 100], 12, 0, [116, 110, 118]), ([114, 97, 110, 103, 101], 13, 0, [116, 110, 118, 119]), ([116, 121, 112, 101], 14, 0, [116, 107]), ([110, 111, 116, 121, 112, 101], 15, 0, [116, 107]), ([117, 110, 105, 113, 117, 101], 16, 1, [116, 110]), ([101, 120, 105, 115, 116, 115], 16, 2, [116, 110]), ([101, 110, 100, 115], 16, 3, [116, 102, 103]), ([109, 111, 115, 116], 16, 4, [116, 107]), ([110, 111, 114, 117, 108, 101], 17, 0, [107]), ([105, 110, 100, 101, 120], 18, 0, [116, 110]), ([110, 111, 105, 110, 100, 101, 120], 19, 0, [116, 110])])
  | 1 => some (.dat .str [[], [], [], [], [110], [110], [111], [105], [105], [105, 101], [105, 101], [116], [116, 110, 118], [116, 110, 119, 120], [116, 107], [116, 107], [114], [109], [116, 110], [116, 110], []])
  | 2 => some (.dat (.int .u64) [1, 10, 100, 1000, 10000, 100000, 1000000, 10000000, 100000000, 1000000000, 10000000000, 100000000000, 1000000000000, 10000000000000, 100000000000000, 1000000000000000, 10000000000000000, 100000000000000000, 1000000000000000000, 10000000000000000000])
  | 4 => some (.ifc)
  | 5 => some (.ifc)
  | 6 => some (.dat .str [[], [116], [105, 99], [116, 97, 98], [105], [105, 110, 119]])
  | _ => none
def glC (d : D) (xs : List d.T) : List Value := xs.flatMap d.vs
def GV.holds : GV → List Value → Prop
  | .dat d xs, l => d.plain = true ∧ l = glC d xs
  | .ifc, l => ∃ t p, l = [.iface t p]
/-- the cells of a datum, as abstract cells -/
def D.cs : (d : D) → d.T → List C
  | .int k, n => [.int k n]
  | .bool, b => [.bool (.sym b)]
  | .str, s => [.str s]
  | .pair a b, p => a.cs p.1 ++ b.cs p.2
  | .list a, xs => [.dat a xs]

def C.asList (a : D) : C → Option (List a.T)
  | .dat a' xs => if h : a' = a then some (h ▸ xs) else none
  | .val (.slice none 0 0) => some []
  | _ => none

/-- a datum out of abstract cells -/
def D.ps : (d : D) → List C → Option (d.T × List C)
  | .int k, .int k' n :: l => if k = k' then some (n, l) else none
  | .bool, .bool b :: l => some (b.v, l)
  | .str, .str s :: l => some (s, l)
  | .pair a b, l => match a.ps l with
    | some (x, l) => match b.ps l with
      | some (y, l) => some ((x, y), l)
      | none => none
    | none => none
  | .list a, c :: l => match c.asList a with
    | some xs => some (xs, l)
    | none => none
  | _, _ => none

/-! ### what they stand for -/

structure Cx where
  w : World
  η : Nat → Option Nat × Value
  ok : Nat → Prop
  nm : Nat → Prop

def RL {α β : Type} (R : α → β → Prop) : List α → List β → Prop
  | [], [] => True
  | a :: as, b :: bs => R a b ∧ RL R as bs
  | _, _ => False

/-- a list of data stands one behind the other in cells -/
def RdF {α : Type} (R : α → List Value → Prop) : List α → List Value → Prop
  | [], cs => cs = []
  | x :: xs, cs => ∃ c1 c2, cs = c1 ++ c2 ∧ R x c1 ∧ RdF R xs c2

/-- what a row reads as, from an address on -/
def RdAt {α : Type} (w : World) (ok : Nat → Prop) (R : α → List Value → Prop) (sz : Nat) (A : Option Addr) (xs : List α) : Prop :=
  xs = [] ∨ ∃ k off cells T fz, A = some ⟨k, off, none⟩ ∧ ok k ∧ w.heap[k]? = some (.cells cells T fz) ∧
    RdF R xs ((cells.toList.drop off).take (xs.length * sz))

def Rd (w : World) (ok : Nat → Prop) : (d : D) → d.T → List Value → Prop
  | .int k, n, cs => cs = [.int k n]
  | .bool, b, cs => cs = [.bool b]
  | .str, s, cs => cs = [.string ⟨s.toArray⟩]
  | .pair a b, p, cs => ∃ c1 c2, cs = c1 ++ c2 ∧ Rd w ok a p.1 c1 ∧ Rd w ok b p.2 c2
  | .list a, xs, cs => ∃ A c, cs = [.slice A xs.length c] ∧ xs.length ≤ c ∧ c ≤ maxLen ∧ (A = none → c = 0) ∧ RdAt w ok (Rd w ok a) a.sz A xs

def RC (x : Cx) : C → Value → Prop
  | .int k n, v => v = .int k n
  | .bool b, v => v = .bool b.v
  | .str s, v => v = .string ⟨s.toArray⟩
  | .ptr b off, v => x.nm b ∧ ∃ k, (x.η b).1 = some k ∧ v = .pointer (some ⟨k, off, none⟩)
  | .pel d y off, v => ∃ k o cells T fz cs, v = .pointer (some ⟨k, o + off, none⟩) ∧ x.ok k ∧ x.w.heap[k]? = some (.cells cells T fz) ∧
      Rd x.w x.ok d y cs ∧ (cells.toList.drop o).take d.sz = cs
  | .prw b i sz off, v => x.nm b ∧ ∃ k, (x.η b).1 = some k ∧ v = .pointer (some ⟨k, i.toNat * sz + off, none⟩)
  | .row b, v => x.nm b ∧ v = (x.η b).2 ∧ ∃ A n c, v = .slice A n c
  | .dat d xs, v => Rd x.w x.ok (.list d) xs [v]
  | .val u, v => v = u ∧ u.oneCell' = true
  | .fn f caps, v => ∃ vs, v = .func (.func f) #[] vs ∧ RL (fun (p : Nat × Nat) u => x.nm p.1 ∧ ∃ k, (x.η p.1).1 = some k ∧ u = .pointer (some ⟨k, p.2, none⟩)) caps vs.toList
  | .bm f b off, v => x.nm b ∧ ∃ k, (x.η b).1 = some k ∧ v = .func (.func f) #[.pointer (some ⟨k, off, none⟩)] #[]
  | .mp b, v => x.nm b ∧ ∃ k, (x.η b).1 = some k ∧ v = .map (some k)
  | .chn b, v => x.nm b ∧ ∃ k, (x.η b).1 = some k ∧ v = .chan (some k)
  | .csl b n, v => x.nm b ∧ ∃ k, (x.η b).1 = some k ∧ v = .slice (some ⟨k, 0, none⟩) n n
  | .glb g, v => v = .pointer (some ⟨g, 0, none⟩)
  | .sub b o sz n c, v => x.nm b ∧ n ≤ c ∧ c ≤ maxLen ∧ ∃ k o', (x.η b).1 = some k ∧ v = .slice (some ⟨k, o', none⟩) n c ∧ ((0 < c ∨ o = 0) → o' = o * sz)

def RP (x : Cx) (p : Bool × List C) (v : Value) : Prop :=
  if p.1 then ∃ vs, v = .agg vs ∧ RL (RC x) p.2 vs.toList else ∃ y, p.2 = [y] ∧ RC x y v

def RS (x : Cx) : SV → Value → Prop
  | .c y, v => RC x y v
  | .agg l, v => ∃ vs, v = .agg vs ∧ RL (RC x) l vs.toList
  | .tup l, v => ∃ vs, v = .tuple vs ∧ RL (RP x) l vs.toList
  | .un, _ => True
  | .arr d xs, v => d.plain = true ∧ v = .agg (glC d xs).toArray

def RO (x : Cx) (b : Nat) : Ob → Prop
  | .cells T l => ∃ k vs, (x.η b).1 = some k ∧ x.w.heap[k]? = some (.cells vs T (0, 0)) ∧ RL (RC x) l vs.toList
  | .row T d xs => ∃ cs, (x.η b).1 = (x.η b).2.ownBlock ∧ x.w.ownsRow 0 T d.sz (x.η b).2 xs.length cs ∧ RdF (Rd x.w x.ok d) xs cs
  | .lmp _ k es => ∃ r arr, (x.η b).1 = some r ∧ x.w.heap[r]? = some (.map arr es.length) ∧ RL (fun p (e : MapEntry) => e.key = .int k p.1 ∧ RS x p.2 e.val) es arr.toList ∧ (∀ (i : Nat) (e : MapEntry), arr[i]? = some e → e.born = i) ∧ (∀ p ∈ es, (Lit.int k p.1).wf = true) ∧ es.Pairwise (fun p q => p.1 ≠ q.1)
  | .dmp _ kd vd es => ∃ r arr, (x.η b).1 = some r ∧ x.w.heap[r]? = some (.map arr es.length) ∧ RL (fun p (e : MapEntry) => e.key = kd.v p.1 ∧ e.val = vd.v p.2) es arr.toList ∧ (∀ (i : Nat) (e : MapEntry), arr[i]? = some e → e.born = i) ∧ es.Pairwise (fun p q => p.1 ≠ q.1) ∧ ∀ p ∈ es, kd.ok p.1
  | .wid T d xs c => ∃ k cur, (x.η b).1 = some k ∧ x.w.heap[k]? = some (.cells cur T (0, 0)) ∧ cur.size = c * d.sz ∧ xs.length ≤ c ∧ c ≤ maxLen ∧ RdF (Rd x.w x.ok d) xs (cur.toList.take (xs.length * d.sz))
  | .chan cap d xs s r => ∃ k, (x.η b).1 = some k ∧ x.w.heap[k]? = some (.chan cap (xs.map d.v).toArray false s r false)
  | .sit s p => ∃ k, (x.η b).1 = some k ∧ x.w.heap[k]? = some (.stringIter ⟨s.toArray⟩ p)
  | .itr m n seen => ∃ r q, (x.η b).1 = some r ∧ x.nm m ∧ (x.η m).1 = some q ∧ x.w.heap[r]? = some (.mapIter (some q) n seen.toArray n)

/-! ### association lists -/

def lk {α : Type} : List (Nat × α) → Nat → Option α
  | [], _ => none
  | (k, v) :: l, n => if n = k then some v else lk l n

def rm {α : Type} : List (Nat × α) → Nat → List (Nat × α)
  | [], _ => []
  | (k, v) :: l, n => if n = k then rm l n else (k, v) :: rm l n

theorem lk_rm {α : Type} : ∀ (l : List (Nat × α)) (n m : Nat), lk (rm l n) m = if m = n then none else lk l m
  | [], n, m => by simp [rm, lk]
  | (k, v) :: l, n, m => by
    simp only [rm]
    by_cases h : n = k
    · subst h
      rw [if_pos rfl, lk_rm l n m]
      by_cases hm : m = n
      · simp [hm]
      · simp [hm, lk]
    · rw [if_neg h]
      simp only [lk, lk_rm l n m]
      by_cases hm : m = k
      · subst hm
        simp [Ne.symm h]
      · simp [hm]

structure St where
  fr : List (Nat × SV)
  hp : List (Nat × Ob)
  nx : Nat

/-- the world at the call, and what of it may be read -/
structure W0 where
  w : World
  ok : Nat → Prop
  own : Nat → Prop
/-- what was there and was not given away -/
def W0.old (w0 : W0) (k : Nat) : Prop := k < w0.w.heap.size ∧ ¬ w0.own k
theorem W0.new {w0 : W0} {k : Nat} (h : w0.w.heap.size ≤ k) : ¬ w0.old k := fun h' => Nat.not_lt.2 h h'.1
/-- the package's variables are there, as told -/
def GOk (w0 : W0) : Prop := ∀ g l, glS g = some l → w0.old g ∧ w0.ok g ∧ ∃ arr T fz, w0.w.heap[g]? = some (.cells arr T fz) ∧ l.holds arr.toList
/-- what was there is as it was, but for what was given away -/
structure BelO (w0 : W0) (w : World) : Prop where
  os : w.os = w0.w.os
  tape : w.tape = w0.w.tape
  output : w.output = w0.w.output
  size : w0.w.heap.size ≤ w.heap.size
  block : ∀ k, w0.old k → w.heap[k]? = w0.w.heap[k]?
  gl : GOk w0
theorem BelO.refl (w0 : W0) (h : GOk w0) : BelO w0 w0.w := ⟨rfl, rfl, rfl, Nat.le_refl _, fun _ _ => rfl, h⟩
theorem BelO.trans {w0 : W0} {w w' : World} (h : BelO w0 w) (h1 : w'.os = w.os) (h2 : w'.tape = w.tape) (h3 : w'.output = w.output) (h4 : w.heap.size ≤ w'.heap.size) (h5 : ∀ k, w0.old k → w'.heap[k]? = w.heap[k]?) : BelO w0 w' :=
  ⟨h1.trans h.os, h2.trans h.tape, h3.trans h.output, Nat.le_trans h.size h4, fun k hk => (h5 k hk).trans (h.block k hk), h.gl⟩
theorem BelO.below {w0 : W0} {w w' : World} (h : BelO w0 w) (hb : Below w.heap.size w w') : BelO w0 w' :=
  h.trans hb.os hb.tape hb.output hb.size fun k hk => hb.block k (Nat.lt_of_lt_of_le hk.1 h.size)
/-- where nothing was given away -/
theorem BelO.out {w0 : W0} {w : World} (h : BelO w0 w) (hn : ∀ k, ¬ w0.own k) : Below w0.w.heap.size w0.w w :=
  ⟨h.os, h.tape, h.output, h.size, fun k hk => h.block k ⟨hk, hn k⟩⟩

def okS (w0 : W0) (hp : List (Nat × Ob)) (η : Nat → Option Nat × Value) (w : World) (k : Nat) : Prop :=
  (k < w.heap.size ∧ (w0.old k → w0.ok k)) ∧ ∀ b, lk hp b ≠ none → (η b).1 ≠ some k

def cxS (w0 : W0) (hp : List (Nat × Ob)) (nx : Nat → Prop) (η : Nat → Option Nat × Value) (w : World) : Cx := ⟨w, η, okS w0 hp η w, nx⟩

/-- the names below a bound -/
def lt (n : Nat) : Nat → Prop := fun b => b < n

/-- the heap's part -/
structure RepH (w0 : W0) (hp : List (Nat × Ob)) (nx : Nat → Prop) (η : Nat → Option Nat × Value) (w : World) : Prop where
  obs : ∀ b o, lk hp b = some o → RO (cxS w0 hp nx η w) b o
  sep : ∀ b c k, lk hp b ≠ none → lk hp c ≠ none → (η b).1 = some k → (η c).1 = some k → b = c
  new : ∀ b k, lk hp b ≠ none → (η b).1 = some k → ¬ w0.old k ∧ k < w.heap.size
  nxt : ∀ b, lk hp b ≠ none → nx b
  bel : BelO w0 w

/-- the variables, at a call -/
theorem GOk.inn {w0 : W0} {hp : List (Nat × Ob)} {nx : Nat → Prop} {η : Nat → Option Nat × Value} {w : World} {own : Nat → Prop} (hH : RepH w0 hp nx η w) (ho : ∀ k, own k → ∃ b, lk hp b ≠ none ∧ (η b).1 = some k) : GOk ⟨w, okS w0 hp η w, own⟩ := fun g l hg => by
  obtain ⟨h1, h2, arr, T, fz, h3, h4⟩ := hH.bel.gl g l hg
  have hlt : g < w.heap.size := Nat.lt_of_lt_of_le h1.1 hH.bel.size
  exact ⟨⟨hlt, fun h => by obtain ⟨b, hb, e⟩ := ho g h; exact (hH.new b g hb e).1 h1⟩, ⟨⟨hlt, fun _ => h2⟩, fun b hb e => (hH.new b g hb e).1 h1⟩, arr, T, fz, by show w.heap[g]? = _; rw [hH.bel.block g h1]; exact h3, h4⟩
/-- what may be read of a world, and that the variables are there -/
structure OkW (w : World) (ok : Nat → Prop) : Prop where
  lt : ∀ k, ok k → k < w.heap.size
  gl : GOk ⟨w, ok, fun _ => False⟩
theorem OkW.of {w0 : W0} {hp : List (Nat × Ob)} {nx : Nat → Prop} {η : Nat → Option Nat × Value} {w : World} (hH : RepH w0 hp nx η w) : OkW w (okS w0 hp η w) := ⟨fun _ hk => hk.1.1, GOk.inn hH fun _ h => h.elim⟩
theorem OkW.all {w0 : W0} {hp : List (Nat × Ob)} {nx : Nat → Prop} {η : Nat → Option Nat × Value} {w : World} (hH : RepH w0 hp nx η w) : OkW w (fun k => k < w.heap.size) :=
  ⟨fun _ h => h, fun g l hg => by
    obtain ⟨h1, _, h3⟩ := (OkW.of hH).gl g l hg
    exact ⟨h1, h1.1, h3⟩⟩
theorem OkW.below {w w' : World} {ok : Nat → Prop} (h : OkW w ok) (hb : Below w.heap.size w w') : OkW w' ok :=
  ⟨fun k hk => Nat.lt_of_lt_of_le (h.lt k hk) hb.size, fun g l hg => by
    obtain ⟨h1, h2, arr, T, fz, h3, h4⟩ := h.gl g l hg
    exact ⟨⟨Nat.lt_of_lt_of_le h1.1 hb.size, id⟩, h2, arr, T, fz, by show w'.heap[g]? = _; rw [hb.block g h1.1]; exact h3, h4⟩⟩

/-- only what is looked up counts -/
theorem okS_congr {w0 : W0} {hp hp' : List (Nat × Ob)} (h : ∀ b, lk hp' b = lk hp b) (η : Nat → Option Nat × Value) (w : World) : okS w0 hp' η w = okS w0 hp η w := by
  funext k
  simp only [okS, h]
theorem RepH.congr {w0 : W0} {hp hp' : List (Nat × Ob)} {nx : Nat → Prop} {η : Nat → Option Nat × Value} {w : World} (h : ∀ b, lk hp' b = lk hp b) (hH : RepH w0 hp nx η w) : RepH w0 hp' nx η w := by
  refine ⟨fun b o ho => ?_, fun b c k h1 h2 => hH.sep b c k (by rw [← h]; exact h1) (by rw [← h]; exact h2), fun b k h1 => hH.new b k (by rw [← h]; exact h1), fun b h1 => hH.nxt b (by rw [← h]; exact h1), hH.bel⟩
  have := hH.obs b o (by rw [← h]; exact ho)
  unfold cxS at this ⊢
  rw [okS_congr h]
  exact this

/-- a frame's part -/
structure RepF (x : Cx) (nt : Nat) (fr : List (Nat × SV)) (a : Act) : Prop where
  sl : ∀ t sv, lk fr t = some sv → ∃ v, a.tmps[t]? = some v ∧ RS x sv v
  siz : a.tmps.size = nt
  dfr : a.defers = []

/-! ### what is kept -/

structure Cx.le (x y : Cx) : Prop where
  eta : ∀ b, x.nm b → y.η b = x.η b
  nm : ∀ b, x.nm b → y.nm b
  ok : ∀ k, x.ok k → y.ok k
  heap : ∀ k, x.ok k → y.w.heap[k]? = x.w.heap[k]?

theorem Cx.le.refl (x : Cx) : x.le x := ⟨fun _ _ => rfl, fun _ h => h, fun _ h => h, fun _ _ => rfl⟩
theorem Cx.le.trans {x y z : Cx} (h : x.le y) (k : y.le z) : x.le z :=
  ⟨fun b hb => (k.eta b (h.nm b hb)).trans (h.eta b hb), fun b hb => k.nm b (h.nm b hb), fun b hb => k.ok b (h.ok b hb),
   fun b hb => (k.heap b (h.ok b hb)).trans (h.heap b hb)⟩

theorem RL.imp {α β : Type} {R R' : α → β → Prop} (h : ∀ a b, R a b → R' a b) : ∀ {l : List α} {m : List β}, RL R l m → RL R' l m
  | [], [], _ => trivial
  | _ :: _, _ :: _, ⟨h1, h2⟩ => ⟨h _ _ h1, RL.imp h h2⟩
  | [], _ :: _, h => h.elim
  | _ :: _, [], h => h.elim

theorem RL.len {α β : Type} {R : α → β → Prop} : ∀ {l : List α} {m : List β}, RL R l m → l.length = m.length
  | [], [], _ => rfl
  | _ :: _, _ :: _, h => by simp [RL.len h.2]
  | [], _ :: _, h => h.elim
  | _ :: _, [], h => h.elim

theorem RL.get {α β : Type} {R : α → β → Prop} : ∀ {l : List α} {m : List β} (_ : RL R l m) {i : Nat} {a : α}, l[i]? = some a → ∃ b, m[i]? = some b ∧ R a b
  | [], [], _, i, a, hi => by simp at hi
  | x :: xs, y :: ys, h, 0, a, hi => by simp at hi; subst hi; exact ⟨y, rfl, h.1⟩
  | x :: xs, y :: ys, h, i + 1, a, hi => by simpa using RL.get h.2 (by simpa using hi)
  | [], _ :: _, h, _, _, _ => h.elim
  | _ :: _, [], h, _, _, _ => h.elim

theorem RL.app {α β : Type} {R : α → β → Prop} : ∀ {l l' : List α} {m m' : List β}, RL R l m → RL R l' m' → RL R (l ++ l') (m ++ m')
  | [], _, [], _, _, h => h
  | _ :: _, _, _ :: _, _, ⟨h1, h2⟩, h => ⟨h1, RL.app h2 h⟩
  | [], _, _ :: _, _, h, _ => h.elim
  | _ :: _, _, [], _, h, _ => h.elim

theorem RL.drop {α β : Type} {R : α → β → Prop} : ∀ (n : Nat) {l : List α} {m : List β}, RL R l m → RL R (l.drop n) (m.drop n)
  | 0, _, _, h => h
  | n + 1, [], [], h => h
  | n + 1, _ :: _, _ :: _, h => by simpa using RL.drop n h.2
  | _ + 1, [], _ :: _, h => h.elim
  | _ + 1, _ :: _, [], h => h.elim

theorem RL.take {α β : Type} {R : α → β → Prop} : ∀ (n : Nat) {l : List α} {m : List β}, RL R l m → RL R (l.take n) (m.take n)
  | 0, _, _, _ => by simp [RL]
  | n + 1, [], [], h => h
  | n + 1, _ :: _, _ :: _, h => by simpa [RL] using ⟨h.1, RL.take n h.2⟩
  | _ + 1, [], _ :: _, h => h.elim
  | _ + 1, _ :: _, [], h => h.elim

theorem RL.set {α β : Type} {R : α → β → Prop} {a : α} {b : β} (hab : R a b) : ∀ (n : Nat) {l : List α} {m : List β}, RL R l m → RL R (l.set n a) (m.set n b)
  | 0, _ :: _, _ :: _, h => ⟨hab, h.2⟩
  | n + 1, _ :: _, _ :: _, h => ⟨h.1, RL.set hab n h.2⟩
  | _, [], [], h => by simpa using h
  | _, [], _ :: _, h => h.elim
  | _, _ :: _, [], h => h.elim

theorem Rd.len {w : World} {ok : Nat → Prop} : ∀ {d : D} {x : d.T} {cs : List Value}, Rd w ok d x cs → cs.length = d.sz
  | .int _, _, _, h => by simp only [Rd] at h; subst h; rfl
  | .bool, _, _, h => by simp only [Rd] at h; subst h; rfl
  | .str, _, _, h => by simp only [Rd] at h; subst h; rfl
  | .pair a b, _, _, h => by
    simp only [Rd] at h
    obtain ⟨c1, c2, rfl, h1, h2⟩ := h
    simp [D.sz, Rd.len h1, Rd.len h2]
  | .list _, _, _, h => by
    simp only [Rd] at h
    obtain ⟨A, c, rfl, _⟩ := h
    rfl

theorem RdF.imp {α : Type} {R R' : α → List Value → Prop} (h : ∀ x cs, R x cs → R' x cs) : ∀ {xs : List α} {cs : List Value}, RdF R xs cs → RdF R' xs cs
  | [], _, e => e
  | _ :: _, _, ⟨c1, c2, e, h1, h2⟩ => ⟨c1, c2, e, h _ _ h1, RdF.imp h h2⟩

theorem RdF.app {α : Type} {R : α → List Value → Prop} : ∀ {xs ys : List α} {cs ds : List Value}, RdF R xs cs → RdF R ys ds → RdF R (xs ++ ys) (cs ++ ds)
  | [], _, _, _, e, h => by simp only [RdF] at e; subst e; exact h
  | _ :: _, _, _, _, ⟨c1, c2, e, h1, h2⟩, h => ⟨c1, c2 ++ _, by rw [e, List.append_assoc], h1, RdF.app h2 h⟩

theorem RdF.len {α : Type} {R : α → List Value → Prop} {sz : Nat} (hs : ∀ x cs, R x cs → cs.length = sz) : ∀ {xs : List α} {cs : List Value}, RdF R xs cs → cs.length = xs.length * sz
  | [], _, e => by simp only [RdF] at e; subst e; simp
  | x :: xs, _, ⟨c1, c2, e, h1, h2⟩ => by
    subst e
    rw [List.length_append, hs _ _ h1, RdF.len hs h2, List.length_cons, Nat.add_mul, Nat.one_mul, Nat.add_comm]

theorem RdF.get {α : Type} {R : α → List Value → Prop} {sz : Nat} (hs : ∀ x cs, R x cs → cs.length = sz) : ∀ {xs : List α} {cs : List Value}, RdF R xs cs → ∀ {i : Nat} {x : α}, xs[i]? = some x → R x ((cs.drop (i * sz)).take sz)
  | [], _, _, i, x, hi => by simp at hi
  | y :: xs, _, ⟨c1, c2, e, h1, h2⟩, 0, x, hi => by
    simp at hi
    subst hi
    subst e
    have := hs _ _ h1
    simpa [List.take_append, this, List.take_of_length_le] using h1
  | y :: xs, _, ⟨c1, c2, e, h1, h2⟩, i + 1, x, hi => by
    subst e
    have h := hs _ _ h1
    have := RdF.get hs h2 (i := i) (x := x) (by simpa using hi)
    have e : (c1 ++ c2).drop ((i + 1) * sz) = c2.drop (i * sz) := by
      rw [Nat.add_mul, Nat.one_mul, Nat.add_comm, List.drop_append, h]
      simp [List.drop_of_length_le, h]
    rw [e]
    exact this

theorem RdF.drop {α : Type} {R : α → List Value → Prop} {sz : Nat} (hs : ∀ x cs, R x cs → cs.length = sz) : ∀ (n : Nat) {xs : List α} {cs : List Value}, RdF R xs cs → RdF R (xs.drop n) (cs.drop (n * sz))
  | 0, _, _, h => by simpa using h
  | n + 1, [], _, h => by simp only [RdF] at h; subst h; simp [RdF]
  | n + 1, y :: xs, _, ⟨c1, c2, e, h1, h2⟩ => by
    subst e
    have h := hs _ _ h1
    have e : (c1 ++ c2).drop ((n + 1) * sz) = c2.drop (n * sz) := by
      rw [Nat.add_mul, Nat.one_mul, Nat.add_comm, List.drop_append, h]
      simp [List.drop_of_length_le, h]
    rw [e]
    exact RdF.drop hs n h2

theorem RdF.take {α : Type} {R : α → List Value → Prop} {sz : Nat} (hs : ∀ x cs, R x cs → cs.length = sz) : ∀ (n : Nat) {xs : List α} {cs : List Value}, RdF R xs cs → RdF R (xs.take n) (cs.take (n * sz))
  | 0, _, _, h => by simp [RdF]
  | n + 1, [], _, h => by simp only [RdF] at h; subst h; simp [RdF]
  | n + 1, y :: xs, _, ⟨c1, c2, e, h1, h2⟩ => by
    subst e
    have h := hs _ _ h1
    refine ⟨c1, c2.take (n * sz), ?_, h1, RdF.take hs n h2⟩
    rw [Nat.add_mul, Nat.one_mul, Nat.add_comm, List.take_append, h]
    simp [List.take_of_length_le, h]

theorem Rd.mono {w w' : World} {ok ok' : Nat → Prop} (ho : ∀ k, ok k → ok' k) (hh : ∀ k, ok k → w'.heap[k]? = w.heap[k]?) :
    ∀ {d : D} {x : d.T} {cs : List Value}, Rd w ok d x cs → Rd w' ok' d x cs
  | .int _, _, _, h => h
  | .bool, _, _, h => h
  | .str, _, _, h => h
  | .pair a b, _, _, h => by
    simp only [Rd] at h ⊢
    obtain ⟨c1, c2, e, h1, h2⟩ := h
    exact ⟨c1, c2, e, Rd.mono ho hh h1, Rd.mono ho hh h2⟩
  | .list a, _, _, h => by
    simp only [Rd] at h ⊢
    obtain ⟨A, c, e, hc, hm, hn, hr⟩ := h
    refine ⟨A, c, e, hc, hm, hn, ?_⟩
    rcases hr with hr | ⟨k, off, cells, T, fz, hA, hk, hb, hx⟩
    · exact .inl hr
    · exact .inr ⟨k, off, cells, T, fz, hA, ho k hk, (hh k hk).trans hb, RdF.imp (fun _ _ h => Rd.mono ho hh h) hx⟩

theorem RC.mono {x y : Cx} (h : x.le y) : ∀ {c : C} {v : Value}, RC x c v → RC y c v
  | .int _ _, _, h' => h'
  | .bool _, _, h' => h'
  | .str _, _, h' => h'
  | .ptr b off, _, ⟨h1, k, h2, h3⟩ => ⟨h.nm _ h1, k, by rw [h.eta b h1]; exact h2, h3⟩
  | .pel d _ off, _, ⟨k, o, cells, T, fz, cs, h1, h2, h3, h4, h5⟩ => ⟨k, o, cells, T, fz, cs, h1, h.ok k h2, (h.heap k h2).trans h3, Rd.mono h.ok h.heap h4, h5⟩
  | .prw b _ _ _, _, ⟨h1, k, h2, h3⟩ => ⟨h.nm _ h1, k, by rw [h.eta b h1]; exact h2, h3⟩
  | .row b, _, ⟨h1, h2, h3⟩ => ⟨h.nm _ h1, by rw [h.eta b h1]; exact h2, h3⟩
  | .dat d _, _, h' => by
    have h' : Rd x.w x.ok (.list d) _ _ := h'
    exact (Rd.mono h.ok h.heap h' : Rd y.w y.ok (.list d) _ _)
  | .val _, _, h' => h'
  | .fn f caps, _, ⟨vs, e, h'⟩ => ⟨vs, e, RL.imp (fun p u ⟨h1, k, h2, h3⟩ => ⟨h.nm _ h1, k, by rw [h.eta _ h1]; exact h2, h3⟩) h'⟩
  | .bm f b off, _, ⟨h1, k, h2, h3⟩ => ⟨h.nm _ h1, k, by rw [h.eta b h1]; exact h2, h3⟩
  | .mp b, _, ⟨h1, k, h2, h3⟩ => ⟨h.nm _ h1, k, by rw [h.eta b h1]; exact h2, h3⟩
  | .chn b, _, ⟨h1, k, h2, h3⟩ => ⟨h.nm _ h1, k, by rw [h.eta b h1]; exact h2, h3⟩
  | .csl b _, _, ⟨h1, k, h2, h3⟩ => ⟨h.nm _ h1, k, by rw [h.eta b h1]; exact h2, h3⟩
  | .glb _, _, h' => h'
  | .sub b _ _ _ _, _, ⟨h1, g1, g2, k, o', h2, h3⟩ => ⟨h.nm _ h1, g1, g2, k, o', by rw [h.eta b h1]; exact h2, h3⟩

theorem RP.mono {x y : Cx} (h : x.le y) {p : Bool × List C} {v : Value} (h' : RP x p v) : RP y p v := by
  unfold RP at *
  by_cases hp : p.1 = true
  · rw [if_pos hp] at h' ⊢
    obtain ⟨vs, e, hl⟩ := h'
    exact ⟨vs, e, RL.imp (fun _ _ => RC.mono h) hl⟩
  · rw [if_neg hp] at h' ⊢
    obtain ⟨z, e, hl⟩ := h'
    exact ⟨z, e, RC.mono h hl⟩

theorem RS.mono {x y : Cx} (h : x.le y) : ∀ {s : SV} {v : Value}, RS x s v → RS y s v
  | .c _, _, h' => RC.mono (x := x) h h'
  | .agg _, _, ⟨vs, e, hl⟩ => ⟨vs, e, RL.imp (fun _ _ => RC.mono h) hl⟩
  | .tup _, _, ⟨vs, e, hl⟩ => ⟨vs, e, RL.imp (fun _ _ => RP.mono h) hl⟩
  | .un, _, _ => trivial
  | .arr _ _, _, h => h

theorem RO.mono {x y : Cx} (h : x.le y) {b : Nat} (hb : x.nm b) (hk : ∀ k, (x.η b).1 = some k → y.w.heap[k]? = x.w.heap[k]?) : ∀ {o : Ob}, RO x b o → RO y b o
  | .cells T l, ⟨k, vs, h1, h2, h3⟩ => ⟨k, vs, by rw [h.eta b hb]; exact h1, (hk k h1).trans h2, RL.imp (fun _ _ => RC.mono h) h3⟩
  | .lmp T k es, ⟨r, arr, h1, h2, h3, h4⟩ => ⟨r, arr, by rw [h.eta b hb]; exact h1, (hk r h1).trans h2, RL.imp (fun _ _ ⟨g1, g2⟩ => ⟨g1, RS.mono h g2⟩) h3, h4⟩
  | .dmp T kd vd es, ⟨r, arr, h1, h2, h3, h4⟩ => ⟨r, arr, by rw [h.eta b hb]; exact h1, (hk r h1).trans h2, h3, h4⟩
  | .wid T d xs c, ⟨k, cur, h1, h2, h3, h4, h5, h6⟩ => ⟨k, cur, by rw [h.eta b hb]; exact h1, (hk k h1).trans h2, h3, h4, h5, RdF.imp (fun _ _ => Rd.mono h.ok h.heap) h6⟩
  | .chan cap d xs s r, ⟨k, h1, h2⟩ => ⟨k, by rw [h.eta b hb]; exact h1, (hk k h1).trans h2⟩
  | .sit s p, ⟨k, h1, h2⟩ => ⟨k, by rw [h.eta b hb]; exact h1, (hk k h1).trans h2⟩
  | .itr m n seen, ⟨r, q, h1, h2, h3, h4⟩ => ⟨r, q, by rw [h.eta b hb]; exact h1, h.nm _ h2, by rw [h.eta m h2]; exact h3, (hk r h1).trans h4⟩
  | .row T d xs, ⟨cs, h1, h2, h3⟩ => by
    refine ⟨cs, by rw [h.eta b hb]; exact h1, ?_, RdF.imp (fun _ _ => Rd.mono h.ok h.heap) h3⟩
    rw [h.eta b hb]
    refine ⟨h2.1, ?_⟩
    rcases h2.2 with hn | ⟨g, cap, cur, hv, hb0, hg, hr⟩
    · exact .inl hn
    · exact .inr ⟨g, cap, cur, hv, hb0, (hk g (by rw [h1, hv]; rfl)).trans hg, hr⟩

theorem RepF.mono {x y : Cx} (h : x.le y) {nt : Nat} {fr : List (Nat × SV)} {a : Act} (h' : RepF x nt fr a) : RepF y nt fr a :=
  ⟨fun t sv ht => let ⟨v, h1, h2⟩ := h'.sl t sv ht; ⟨v, h1, RS.mono h h2⟩, h'.siz, h'.dfr⟩

/-- memory is made, nothing that was there is turned -/
theorem cx_below {w0 : W0} {hp : List (Nat × Ob)} {nx : Nat → Prop} {η : Nat → Option Nat × Value} {w w' : World} (h : Below w.heap.size w w') : (cxS w0 hp nx η w).le (cxS w0 hp nx η w') :=
  ⟨fun _ _ => rfl, fun _ h => h, fun _ ⟨h1, h2⟩ => ⟨⟨Nat.lt_of_lt_of_le h1.1 h.size, h1.2⟩, h2⟩, fun k ⟨h1, _⟩ => h.block k h1.1⟩

theorem RepH.below {w0 : W0} {hp : List (Nat × Ob)} {nx : Nat → Prop} {η : Nat → Option Nat × Value} {w w' : World} (h : RepH w0 hp nx η w) (hb : Below w.heap.size w w') : RepH w0 hp nx η w' :=
  ⟨fun b o ho => RO.mono (cx_below hb) (h.nxt b (by rw [ho]; simp)) (fun k hk => hb.block k (h.new b k (by rw [ho]; simp) hk).2) (h.obs b o ho),
   h.sep, fun b k h1 h2 => let ⟨p, q⟩ := h.new b k h1 h2; ⟨p, Nat.lt_of_lt_of_le q hb.size⟩, h.nxt, h.bel.below hb⟩

end OE

/- OE, part 3a: plain data as keys and values of maps: told equal, found, put. Own work. -/
set_option linter.unusedVariables false
namespace OE
open Go Go.RowKit

def eqL {α : Type} (f : α → α → Bool) : List α → List α → Bool
  | [], [] => true
  | a :: l, b :: m => f a b && eqL f l m
  | _, _ => false
theorem eqL_iff {α : Type} {f : α → α → Bool} (h : ∀ a b, f a b = true ↔ a = b) : ∀ {l m : List α}, eqL f l m = true ↔ l = m
  | [], [] => by simp [eqL]
  | a :: l, b :: m => by simp [eqL, h, eqL_iff h]
  | [], _ :: _ => by simp [eqL]
  | _ :: _, [] => by simp [eqL]
def D.eqb : (d : D) → d.T → d.T → Bool
  | .int _, a, b => decide ((a : Int) = b)
  | .bool, a, b => decide ((a : Bool) = b)
  | .str, a, b => decide ((a : List UInt8) = b)
  | .pair a b, p, q => a.eqb p.1 q.1 && b.eqb p.2 q.2
  | .list a, xs, ys => eqL a.eqb xs ys
theorem D.eqb_iff : ∀ (d : D) (x y : d.T), d.eqb x y = true ↔ x = y
  | .int _, a, b => by simp [D.eqb]
  | .bool, a, b => by simp [D.eqb]
  | .str, a, b => by simp [D.eqb]
  | .pair a b, p, q => by
    simp only [D.eqb, Bool.and_eq_true, D.eqb_iff a, D.eqb_iff b]
    constructor
    · rintro ⟨h1, h2⟩; exact Prod.ext h1 h2
    · rintro rfl; exact ⟨rfl, rfl⟩
  | .list a, xs, ys => eqL_iff (D.eqb_iff a)

instance D.decEq (d : D) : DecidableEq d.T := fun a b => decidable_of_iff (d.eqb a b = true) (d.eqb_iff a b)

theorem D.vs_len : ∀ {d : D} (y : d.T), d.plain = true → (d.vs y).length = d.sz
  | .int _, _, _ => rfl
  | .bool, _, _ => rfl
  | .str, _, _ => rfl
  | .pair a b, p, h => by
    simp only [D.plain, Bool.and_eq_true] at h
    simp [D.vs, D.sz, D.vs_len p.1 h.1, D.vs_len p.2 h.2]
  | .list _, _, h => by simp [D.plain] at h
theorem D.vs_inj : ∀ {d : D} {x y : d.T}, d.plain = true → d.vs x = d.vs y → x = y
  | .int _, x, y, _, h => by simpa [D.vs] using h
  | .bool, x, y, _, h => by simpa [D.vs] using h
  | .str, x, y, _, h => by
    simp only [D.vs, List.cons.injEq, and_true, Value.string.injEq, ByteArray.mk.injEq] at h
    exact List.toArray_inj h
  | .pair a b, p, q, hp, h => by
    simp only [D.plain, Bool.and_eq_true] at hp
    simp only [D.vs] at h
    have := List.append_inj h (by rw [D.vs_len _ hp.1, D.vs_len _ hp.1])
    exact Prod.ext (D.vs_inj hp.1 this.1) (D.vs_inj hp.2 this.2)
  | .list _, _, _, h, _ => by simp [D.plain] at h
theorem D.v_inj : ∀ {d : D} {x y : d.T}, d.plain = true → d.v x = d.v y → x = y
  | .int _, x, y, _, h => by simpa [D.v] using h
  | .bool, x, y, _, h => by simpa [D.v] using h
  | .str, x, y, _, h => by
    simp only [D.v, Value.string.injEq, ByteArray.mk.injEq] at h
    exact List.toArray_inj h
  | .pair a b, p, q, hp, h => by
    simp only [D.v, Value.agg.injEq] at h
    exact D.vs_inj (d := .pair a b) hp (List.toArray_inj h)
  | .list _, _, _, h, _ => by simp [D.plain] at h
theorem glC_len {d : D} (hp : d.plain = true) : ∀ {xs : List d.T}, (glC d xs).length = xs.length * d.sz
  | [] => by simp [glC]
  | x :: xs => by
    show (d.vs x ++ glC d xs).length = _
    rw [List.length_append, D.vs_len x hp, glC_len hp, List.length_cons, Nat.succ_mul, Nat.add_comm]
theorem glC_get {d : D} (hp : d.plain = true) : ∀ {xs : List d.T} {i : Nat} {y : d.T}, xs[i]? = some y → ((glC d xs).drop (i * d.sz)).take d.sz = d.vs y
  | [], _, _, h => by simp at h
  | x :: xs, 0, y, h => by
    have h : x = y := by simpa using h
    subst h
    rw [Nat.zero_mul, List.drop_zero]
    show (d.vs x ++ glC d xs).take d.sz = _
    rw [List.take_append_of_le_length (Nat.le_of_eq (D.vs_len x hp).symm), List.take_of_length_le (Nat.le_of_eq (D.vs_len x hp))]
  | x :: xs, i + 1, y, h => by
    show ((d.vs x ++ glC d xs).drop ((i + 1) * d.sz)).take d.sz = _
    rw [show (i + 1) * d.sz = (d.vs x).length + i * d.sz by rw [D.vs_len x hp, Nat.succ_mul, Nat.add_comm], List.drop_append, List.drop_eq_nil_of_le (Nat.le_add_right _ _), List.nil_append, Nat.add_sub_cancel_left]
    exact glC_get hp (by simpa using h)
theorem D.vs_rd {w : World} {ok : Nat → Prop} : ∀ {d : D} (y : d.T), d.plain = true → Rd w ok d y (d.vs y)
  | .int _, _, _ => rfl
  | .bool, _, _ => rfl
  | .str, _, _ => rfl
  | .pair a b, p, h => by
    simp only [D.plain, Bool.and_eq_true] at h
    exact ⟨_, _, rfl, D.vs_rd p.1 h.1, D.vs_rd p.2 h.2⟩
  | .list _, _, h => by simp [D.plain] at h
theorem rd_vs {w : World} {ok : Nat → Prop} : ∀ {d : D} {y : d.T} {cs : List Value}, d.plain = true → Rd w ok d y cs → cs = d.vs y
  | .int _, _, _, _, h => h
  | .bool, _, _, _, h => h
  | .str, _, _, _, h => h
  | .pair a b, p, _, h, hr => by
    simp only [D.plain, Bool.and_eq_true] at h
    obtain ⟨c1, c2, rfl, h1, h2⟩ := hr
    rw [rd_vs h.1 h1, rd_vs h.2 h2]; rfl
  | .list _, _, _, h, _ => by simp [D.plain] at h

section
variable {kd vd : D}
def midx : List (kd.T × vd.T) → kd.T → Option Nat
  | [], _ => none
  | p :: l, k => if kd.eqb p.1 k = true then some 0 else (midx l k).map (· + 1)
def mset (es : List (kd.T × vd.T)) (k : kd.T) (v : vd.T) : List (kd.T × vd.T) := match midx es k with
  | some i => es.set i (k, v)
  | none => es ++ [(k, v)]
def mval (es : List (kd.T × vd.T)) (k : kd.T) : vd.T := match midx es k with
  | some i => ((es[i]?).map (·.2)).getD vd.df
  | none => vd.df
def mhas (es : List (kd.T × vd.T)) (k : kd.T) : Bool := (midx es k).isSome

theorem midx_some : ∀ {es : List (kd.T × vd.T)} {k : kd.T} {i : Nat}, midx es k = some i → ∃ v, es[i]? = some (k, v)
  | p :: l, k, i, h => by
    simp only [midx] at h
    split at h
    · rename_i e
      cases h
      exact ⟨p.2, by simp [← (D.eqb_iff kd _ _).1 e]⟩
    · simp only [Option.map_eq_some_iff] at h
      obtain ⟨j, h1, rfl⟩ := h
      obtain ⟨v, hv⟩ := midx_some h1
      exact ⟨v, by simpa using hv⟩
  | [], _, _, h => by simp [midx] at h
theorem midx_none : ∀ {es : List (kd.T × vd.T)} {k : kd.T}, midx es k = none → ∀ p ∈ es, p.1 ≠ k
  | p :: l, k, h, q, hq => by
    simp only [midx] at h
    split at h
    · cases h
    · rename_i e
      simp only [Option.map_eq_none_iff] at h
      rcases List.mem_cons.1 hq with rfl | hq
      · intro e'; exact e ((D.eqb_iff kd _ _).2 e')
      · exact midx_none h q hq
  | [], _, _, _, hq => by simp at hq
theorem midx_at : ∀ {es : List (kd.T × vd.T)} {k : kd.T} {i : Nat} {v : vd.T}, es.Pairwise (fun p q => p.1 ≠ q.1) → es[i]? = some (k, v) → midx es k = some i
  | p :: l, k, 0, v, hd, h => by
    simp at h; subst h
    simp [midx, (D.eqb_iff kd _ _).2 rfl]
  | p :: l, k, i + 1, v, hd, h => by
    rw [List.pairwise_cons] at hd
    have hi : l[i]? = some (k, v) := by simpa using h
    have hne : ¬ kd.eqb p.1 k = true := fun e => hd.1 (k, v) (List.mem_of_getElem? hi) ((D.eqb_iff kd _ _).1 e)
    simp [midx, hne, midx_at hd.2 hi]
  | [], _, _, _, _, h => by simp at h

theorem mset_pairwise {es : List (kd.T × vd.T)} (h : es.Pairwise (fun p q => p.1 ≠ q.1)) (k : kd.T) (v : vd.T) : (mset es k v).Pairwise (fun p q => p.1 ≠ q.1) := by
  unfold mset
  split
  · rename_i i hi
    obtain ⟨u, hu⟩ := midx_some hi
    rw [List.pairwise_iff_getElem] at h ⊢
    intro a b ha hb hab
    have e1 : ∀ c (hc : c < (es.set i (k, v)).length), ((es.set i (k, v))[c]).1 = (es[c]'(by simpa using hc)).1 := by
      intro c hc
      rw [List.getElem_set]
      split
      · rename_i e; subst e
        rw [List.getElem?_eq_some_iff] at hu
        obtain ⟨h1, h2⟩ := hu
        rw [h2]
      · rfl
    rw [e1, e1]
    exact h a b (by simpa using ha) (by simpa using hb) hab
  · rename_i hn
    rw [List.pairwise_append]
    exact ⟨h, by simp, fun p hp q hq => by
      simp at hq; subst hq
      exact midx_none hn p hp⟩
end

end OE

/- OE, part 3b: which types' values may be keys, and that the model finds them. Own work. -/
set_option linter.unusedVariables false
namespace OE
open Go Go.RowKit

/-- parts, one behind the other -/
def partsB (P : Program) (f : TypeId → D → Bool) : List (TypeId × Nat) → Nat → D → Bool
  | [], _, _ => false
  | [(t, o)], p, d => o == p && P.cellsOf t == d.sz && f t d
  | (t, o) :: r, p, d => match d with
    | .pair a b => o == p && P.cellsOf t == a.sz && f t a && partsB P f r (p + a.sz) b
    | _ => false
def klB (P : Program) : Nat → TypeId → D → Bool
  | 0, _, _ => false
  | n + 1, t, d => match P.underlying t with
    | some (.int k) => decide (d = .int k)
    | some .bool => decide (d = .bool)
    | some .string => decide (d = .str)
    | some (.struct fs) => d.plain && P.cellsOf t == d.sz && fs.all (fun f => f.name != "_") && partsB P (klB P n) (fs.toList.map fun f => (f.type, f.offset)) 0 d
    | _ => false

theorem mapM_all {α β : Type} {f : α → Option β} : ∀ {l : List α}, (∀ x ∈ l, ∃ y, f x = some y) → ∃ r, l.mapM f = some r
  | [], _ => ⟨[], rfl⟩
  | a :: l, h => by
    obtain ⟨y, hy⟩ := h a (by simp)
    obtain ⟨r, hr⟩ := mapM_all (l := l) (fun x hx => h x (by simp [hx]))
    exact ⟨y :: r, by simp [hy, hr]⟩

theorem parts_keys {P : Program} {n : Nat} (ih : ∀ {t : TypeId} {d : D} {y : d.T}, klB P n t d = true → d.ok y → ∃ ls, P.keyLits n t (d.vs y) = some ls) :
    ∀ {pl : List (TypeId × Nat)} {p : Nat} {d : D} {y : d.T} {cs : List Value}, d.plain = true → partsB P (klB P n) pl p d = true → d.ok y → (cs.drop p).take d.sz = d.vs y →
      ∀ q ∈ pl, ∃ ls, P.keyLits n q.1 ((cs.drop q.2).take (P.cellsOf q.1)) = some ls
  | [], _, _, _, _, _, h, _, _ => by simp [partsB] at h
  | [(t, o)], p, d, y, cs, hp, h, hok, hc => by
    simp only [partsB, Bool.and_eq_true, beq_iff_eq] at h
    obtain ⟨⟨rfl, h1⟩, h2⟩ := h
    intro q hq
    simp at hq; subst hq
    rw [h1, hc]
    exact ih h2 hok
  | (t, o) :: q2 :: r, p, d, y, cs, hp, h, hok, hc => by
    simp only [partsB] at h
    split at h
    · rename_i a b
      simp only [Bool.and_eq_true, beq_iff_eq] at h
      obtain ⟨⟨⟨rfl, h1⟩, h2⟩, h3⟩ := h
      simp only [D.plain, Bool.and_eq_true] at hp
      simp only [D.sz, D.vs, List.take_add, List.drop_drop] at hc
      have hl : ((cs.drop o).take a.sz).length = (a.vs y.1).length := by
        have := congrArg List.length hc
        have ha := D.vs_len y.1 hp.1
        have hb := D.vs_len y.2 hp.2
        simp only [List.length_append, List.length_take, List.length_drop, ha, hb] at this ⊢
        have := b.sz_pos
        omega
      have hc' := List.append_inj hc hl
      intro q hq
      rcases List.mem_cons.1 hq with rfl | hq
      · rw [h1, hc'.1]; exact ih h2 hok.1
      · exact parts_keys ih (p := o + a.sz) (d := b) (y := y.2) hp.2 h3 hok.2 hc'.2 q hq
    · cases h

theorem kl_keys {P : Program} : ∀ (n : Nat) {t : TypeId} {d : D} {y : d.T}, klB P n t d = true → d.ok y → ∃ ls, P.keyLits n t (d.vs y) = some ls
  | 0, _, _, _, h, _ => by simp [klB] at h
  | n + 1, t, d, y, h, hok => by
    unfold klB at h
    split at h
    · rename_i k hu
      simp only [decide_eq_true_eq] at h; subst h
      have hok : (Lit.int k y).wf = true := hok
      exact ⟨[.int k y], by simp [Program.keyLits, hu, D.vs, hok]⟩
    · rename_i hu
      simp only [decide_eq_true_eq] at h; subst h
      exact ⟨[.bool y], by simp [Program.keyLits, hu, D.vs]⟩
    · rename_i hu
      simp only [decide_eq_true_eq] at h; subst h
      have hok : y.length ≤ 9223372036854775807 := hok
      have : (ByteArray.mk y.toArray).size ≤ maxLen := by simpa [ByteArray.size, maxLen] using hok
      exact ⟨[.string y], by simp [Program.keyLits, hu, D.vs, this]⟩
    · rename_i fs hu
      simp only [Bool.and_eq_true, beq_iff_eq] at h
      obtain ⟨⟨⟨h0, h1⟩, h2⟩, h3⟩ := h
      have hlen := D.vs_len y h0
      have hm : ∃ r, (fs.toList.mapM fun f => P.keyLits n f.type (((d.vs y).drop f.offset).take (P.cellsOf f.type))) = some r := by
        refine mapM_all fun f hf => ?_
        exact parts_keys (fun h1 h2 => kl_keys n h1 h2) (p := 0) (d := d) (y := y) (cs := d.vs y) h0 h3 hok (by rw [List.drop_zero, List.take_of_length_le (by omega)]) (f.type, f.offset) (List.mem_map.2 ⟨f, hf, rfl⟩)
      obtain ⟨r, hr⟩ := hm
      exact ⟨r.flatten, by
        unfold Program.keyLits
        rw [hu]
        have hc : (d.vs y).length = P.cellsOf t ∧ fs.all (fun f => f.name != "_") = true := ⟨by omega, h2⟩
        cases hv : d.vs y with
        | nil => rw [hv] at hlen; have := d.sz_pos; simp at hlen; omega
        | cons a l =>
          rw [hv] at hc hr
          simp only [hc, and_self, if_true, hr, Option.map_some]⟩
    · cases h

/-- a type whose values may be keys, of this kind of data -/
def keyB (P : Program) (t : TypeId) (d : D) : Bool := match P.underlying t with
  | some (.struct _) => (match d with | .pair _ _ => true | _ => false) && (P.keyTypeAt 9 t && P.tiled 9 t && P.keyType t && klB P (P.types.size + 1) t d)
  | some (.int k) => decide (d = .int k)
  | some .bool => decide (d = .bool)
  | some .string => decide (d = .str)
  | _ => false

theorem keyB_plain {P : Program} {t : TypeId} {d : D} (h : keyB P t d = true) : d.plain = true := by
  unfold keyB at h
  split at h
  · rename_i fs hu
    simp only [Bool.and_eq_true] at h
    have h := h.2.2
    unfold klB at h
    rw [hu] at h
    simp only [Bool.and_eq_true] at h
    exact h.1.1.1
  · simp only [decide_eq_true_eq] at h; subst h; rfl
  · simp only [decide_eq_true_eq] at h; subst h; rfl
  · simp only [decide_eq_true_eq] at h; subst h; rfl
  · cases h

theorem keyB_keyed {P : Program} {t : TypeId} {d : D} (h : keyB P t d = true) : Go.Maps.Keyed P t := by
  unfold keyB at h
  split at h
  · rename_i fs hu
    simp only [Bool.and_eq_true] at h
    exact Go.Maps.Keyed.of_law (deep_law (m := 9) (by omega) h.2.1.1.1 h.2.1.1.2 (by rw [hu]))
  · rename_i k hu; exact Go.Maps.int_keyed hu
  · rename_i hu; exact Go.Maps.bool_keyed hu
  · rename_i hu; exact Go.Maps.string_keyed hu
  · cases h

theorem keyB_of {P : Program} {t : TypeId} {d : D} (h : keyB P t d = true) {y : d.T} (hok : d.ok y) : ∃ l, keyOf P t (d.v y) = some l := by
  have hpl := keyB_plain h
  unfold keyB at h
  split at h
  · rename_i fs hu
    simp only [Bool.and_eq_true] at h
    obtain ⟨hpair, ⟨⟨h1, h2⟩, h3⟩, h4⟩ := h
    obtain ⟨ls, hls⟩ := kl_keys _ h4 hok
    have h5 := h4
    unfold klB at h5
    rw [hu] at h5
    simp only [Bool.and_eq_true, beq_iff_eq] at h5
    have hlen := D.vs_len y hpl
    cases d with
    | pair a b =>
      have hf : (Value.agg ((D.pair a b).vs y).toArray).formed P t = true := by
        simp only [Value.formed, hu, List.size_toArray, beq_iff_eq]; omega
      refine ⟨.string (keyBytes ls), ?_⟩
      show keyOf P t (.agg ((D.pair a b).vs y).toArray) = _
      unfold keyOf
      rw [hu]
      simp only [h3, hf, Bool.and_self, if_true, Value.cells, hls, Option.map_some]
    | _ => simp at hpair
  · rename_i k hu
    simp only [decide_eq_true_eq] at h; subst h
    exact ⟨_, Go.Maps.keyOf_int_mk hu hok⟩
  · rename_i hu
    simp only [decide_eq_true_eq] at h; subst h
    exact ⟨_, Go.Maps.keyOf_bool_mk hu y⟩
  · rename_i hu
    simp only [decide_eq_true_eq] at h; subst h
    have hok : y.length ≤ 9223372036854775807 := hok
    exact ⟨_, Go.WideMaps.keyOf_string_mk hu (by simpa [ByteArray.size, maxLen] using hok)⟩
  · cases h

end OE

/- OE, part 2: the quiet operations: what each yields, and that the model's operation yields just that. Own work; generic over the program. -/
namespace OE
open Go Go.RowKit

inductive TK where
  | int (k : IntKind) | bool | str | strct (fs : List (Nat × Nat × Bool)) | slice (e : TypeId) | ptr (e : TypeId) | array (n : Nat) (e : TypeId) | map (k e : TypeId) (kd : D) | iface | other
structure TI where
  tk : TK
  sz : Nat
  byt : Nat
  zero : List C
  d : D

def TK.agg : TK → Bool
  | .strct _ => true
  | .array _ _ => true
  | _ => false

/-- a plain value's abstract cell -/
def cv : Value → SV
  | .int k n => .c (.int k n)
  | .bool b => .c (.bool (BE.of b))
  | .string s => .c (.str s.data.toList)
  | .slice none 0 0 => .c (.val (.slice none 0 0))
  | .pointer none => .c (.val (.pointer none))
  | .nilFunc => .c (.val .nilFunc)
  | .nilIface => .c (.val .nilIface)
  | .map none => .c (.val (.map none))
  | .chan none => .c (.val (.chan none))
  | _ => .un

def valIs : C → Value → Bool
  | .int k n, .int k' n' => k == k' && n == n'
  | .bool b, .bool b' => b.v == b'
  | .str s, .string s' => s'.data.toList == s
  | .val (.slice none 0 0), .slice none 0 0 => true
  | .val (.pointer none), .pointer none => true
  | .val .nilFunc, .nilFunc => true
  | .val .nilIface, .nilIface => true
  | .val (.map none), .map none => true
  | .val (.chan none), .chan none => true
  | _, _ => false

def allIs : List C → List Value → Bool
  | [], [] => true
  | c :: cs, v :: vs => valIs c v && allIs cs vs
  | _, _ => false

def isAggD : Option TypeDesc → Bool
  | some (.struct _) => true
  | some (.array _ _) => true
  | _ => false

def fldIs (P : Program) : List (Nat × Nat × Bool) → List Field → Bool
  | [], [] => true
  | (o, s, ag) :: fs, f :: gs => f.offset == o && P.cellsOf f.type == s && (P.info? f.type).isSome && (P.underlying f.type).isSome && isAggD (P.underlying f.type) == ag && decide (0 < s) && fldIs P fs gs
  | _, _ => false

def tkIs (P : Program) (t : TypeId) : TK → Bool
  | .int k => match P.underlying t with | some (.int k') => k == k' | _ => false
  | .bool => match P.underlying t with | some .bool => true | _ => false
  | .str => match P.underlying t with | some .string => true | _ => false
  | .strct fs => match P.underlying t with | some (.struct fl) => fldIs P fs fl.toList | _ => false
  | .slice e => match P.underlying t with | some (.slice e') => e == e' && (P.info? e).isSome | _ => false
  | .ptr e => match P.underlying t with | some (.pointer e') => e == e' | _ => false
  | .array n e => match P.underlying t with | some (.array n' e') => n == n' && e == e' | _ => false
  | .map k e kd => match P.underlying t with | some (.map k' e') => k == k' && e == e' && keyB P k kd | _ => false
  | .iface => match P.underlying t with | some (.interface _) => true | _ => false
  | .other => (P.underlying t).isSome && !isAggD (P.underlying t)

/-- a row of the table is right -/
def tiIs (P : Program) (t : TypeId) (i : TI) : Bool :=
  (match P.info? t with
    | some j => j.size == i.sz && j.bytes == i.byt && decide (0 < i.byt) && (match j.zero with | some z => (match i.tk, z with | .strct _, .agg cs => allIs i.zero cs.toList | .strct _, _ => false | .array _ _, .agg cs => allIs i.zero cs.toList | .array _ _, _ => false | _, z => allIs i.zero [z]) | none => false)
    | none => false) && (tkIs P t i.tk && i.zero.length == i.sz)

def TabOk (P : Program) (ti : Nat → Option TI) : Prop := ∀ t i, ti t = some i → tiIs P t i = true

theorem tab_of {P : Program} {l : List (Nat × TI)} (h : (l.all fun p => tiIs P p.1 p.2) = true) : TabOk P (lk l) := by
  intro t i hi
  induction l with
  | nil => simp [lk] at hi
  | cons p l ih =>
    obtain ⟨k, v⟩ := p
    simp only [List.all_cons, Bool.and_eq_true] at h
    simp only [lk] at hi
    split at hi
    · rename_i e; subst e; cases hi; exact h.1
    · exact ih h.2 hi

/-! ### what a table's row tells -/

structure Is (P : Program) (t : TypeId) (i : TI) : Prop where
  info : ∃ j, P.info? t = some j ∧ j.size = i.sz ∧ j.bytes = i.byt
  byt : 0 < i.byt
  tk : tkIs P t i.tk = true
  agg : ∃ u, P.underlying t = some u ∧ isAggD (some u) = i.tk.agg
  zlen : i.zero.length = i.sz
  zero : ∃ j z, P.info? t = some j ∧ j.zero = some z ∧ (if i.tk.agg then ∃ cs, z = .agg cs ∧ allIs i.zero cs.toList = true else allIs i.zero [z] = true)

theorem tk_agg {P : Program} {t : TypeId} {k : TK} (h : tkIs P t k = true) : ∃ u, P.underlying t = some u ∧ isAggD (some u) = k.agg := by
  cases k <;> simp only [tkIs] at h
  case other =>
    cases hu : P.underlying t with
    | none => simp [hu] at h
    | some u => rw [hu] at h; exact ⟨u, rfl, by simpa [TK.agg] using h⟩
  all_goals
    cases hu : P.underlying t with
    | none => simp [hu] at h
    | some u =>
      rw [hu] at h
      refine ⟨u, rfl, ?_⟩
      cases u <;> simp_all [isAggD, TK.agg]

theorem TabOk.is {P : Program} {ti : Nat → Option TI} (h : TabOk P ti) {t : Nat} {i : TI} (hi : ti t = some i) : Is P t i := by
  have := h t i hi
  simp only [tiIs, Bool.and_eq_true, beq_iff_eq] at this
  obtain ⟨h1, h2, hzl⟩ := this
  have hag := tk_agg h2
  cases hj : P.info? t with
  | none => simp [hj] at h1
  | some j =>
    rw [hj] at h1
    simp only [Bool.and_eq_true, beq_iff_eq, decide_eq_true_eq] at h1
    obtain ⟨⟨⟨h3, h4⟩, h5⟩, h6⟩ := h1
    refine ⟨⟨j, hj, h3, h4⟩, h5, h2, hag, hzl, ?_⟩
    cases hz : j.zero with
    | none => simp [hz] at h6
    | some z =>
      rw [hz] at h6
      refine ⟨j, z, hj, hz, ?_⟩
      cases hk : i.tk with
      | strct fs =>
        rw [hk] at h6
        cases z <;> simp_all [TK.agg]
      | array n e =>
        rw [hk] at h6
        cases z <;> simp_all [TK.agg]
      | _ => rw [hk] at h6; simpa [TK.agg] using h6

theorem rc_of_valIs {x : Cx} : ∀ {c : C} {v : Value}, valIs c v = true → RC x c v := by
  intro c v h
  unfold valIs at h
  split at h <;> simp_all [RC, Value.oneCell']
  rename_i s s'
  cases s' with | mk d => cases d; simp at h; subst h; rfl

theorem rl_of_allIs {x : Cx} : ∀ {l : List C} {m : List Value}, allIs l m = true → RL (RC x) l m
  | [], [], _ => trivial
  | c :: cs, v :: vs, h => by
    simp only [allIs, Bool.and_eq_true] at h
    exact ⟨rc_of_valIs h.1, rl_of_allIs h.2⟩
  | [], _ :: _, h => by simp [allIs] at h
  | _ :: _, [], h => by simp [allIs] at h

theorem rs_cv {x : Cx} (v : Value) : RS x (cv v) v := by
  unfold cv
  split <;> simp [RS, RC, Value.oneCell', BE.of_v]

/-- no cell of an abstract list stands for an aggregate -/
theorem RC.one {x : Cx} : ∀ {c : C} {v : Value}, RC x c v → v.oneCell' = true
  | .int _ _, _, h => by simp only [RC] at h; subst h; rfl
  | .bool _, _, h => by simp only [RC] at h; subst h; rfl
  | .str _, _, h => by simp only [RC] at h; subst h; rfl
  | .ptr _ _, _, ⟨_, _, _, h⟩ => by subst h; rfl
  | .pel _ _ _, _, ⟨_, _, _, _, _, _, h, _⟩ => by subst h; rfl
  | .prw _ _ _ _, _, ⟨_, _, _, h⟩ => by subst h; rfl
  | .row _, _, ⟨_, _, _, _, _, h⟩ => by subst h; rfl
  | .dat _ _, _, h => by
    simp only [RC, Rd] at h
    obtain ⟨A, c, h, _⟩ := h
    simp only [List.cons.injEq, and_true] at h
    subst h; rfl
  | .val _, _, h => by obtain ⟨rfl, h⟩ := h; exact h
  | .bm _ _ _, _, ⟨_, _, _, h⟩ => by subst h; rfl
  | .mp _, _, ⟨_, _, _, h⟩ => by subst h; rfl
  | .chn _, _, ⟨_, _, _, h⟩ => by subst h; rfl
  | .csl _ _, _, ⟨_, _, _, h⟩ => by subst h; rfl
  | .glb _, _, h => by simp only [RC] at h; subst h; rfl
  | .sub _ _ _ _ _, _, ⟨_, _, _, _, _, _, h, _⟩ => by subst h; rfl
  | .fn _ _, _, ⟨_, h, _⟩ => by subst h; rfl

/-! ### the quiet operations -/

/-- a condition, or none -/
def OP : Option Prop → Prop
  | none => True
  | some p => p
@[simp] theorem OP_none : OP none = True := rfl
@[simp] theorem OP_some (p : Prop) : OP (some p) = p := rfl

structure Q where
  hyp : Option Prop
  pre : Option Prop
  v : SV

/-- a byte of a text -/
def bt (s : List UInt8) (i : Int) : Int := (s.getD i.toNat 0).toNat

def binI (op : BinOp) (k : IntKind) (a b : Int) : Option Q :=
  match op with
  | .add => some ⟨none, none, .c (.int k (k.wrap (a + b)))⟩
  | .sub => some ⟨none, none, .c (.int k (k.wrap (a - b)))⟩
  | .mul => some ⟨none, none, .c (.int k (k.wrap (a * b)))⟩
  | .quo => some ⟨none, some (b ≠ 0), .c (.int k (k.wrap (a.tdiv b)))⟩
  | .rem => some ⟨none, some (b ≠ 0), .c (.int k (a.tmod b))⟩
  | .and => some ⟨none, none, .c (.int k (bits .and k a b))⟩
  | .or => some ⟨none, none, .c (.int k (bits .or k a b))⟩
  | .xor => some ⟨none, none, .c (.int k (bits .xor k a b))⟩
  | .andNot => some ⟨none, none, .c (.int k (bits .andNot k a b))⟩
  | .eql => some ⟨none, none, .c (.bool (.sym (decide (a = b))))⟩
  | .neq => some ⟨none, none, .c (.bool (.sym (!decide (a = b))))⟩
  | .lss => some ⟨none, none, .c (.bool (.sym (decide (a < b))))⟩
  | .leq => some ⟨none, none, .c (.bool (.sym (decide (a ≤ b))))⟩
  | .gtr => some ⟨none, none, .c (.bool (.sym (decide (b < a))))⟩
  | .geq => some ⟨none, none, .c (.bool (.sym (decide (b ≤ a))))⟩
  | _ => none

def shf (op : BinOp) (k : IntKind) (a b : Int) : Option Q :=
  match op with
  | .shl => some ⟨none, some (0 ≤ b), .c (.int k (k.wrap (a * 2 ^ (min b.toNat k.bits))))⟩
  | .shr => some ⟨none, some (0 ≤ b), .c (.int k (a / 2 ^ (min b.toNat k.bits)))⟩
  | _ => none

def isShift : BinOp → Bool
  | .shl | .shr => true
  | _ => false

def binS (op : BinOp) (a b : List UInt8) : Option Q :=
  match op with
  | .add => some ⟨none, some (a.length + b.length ≤ 9223372036854775807), .c (.str (a ++ b))⟩
  | .eql => some ⟨none, none, .c (.bool (.sym (decide (a = b))))⟩
  | .neq => some ⟨none, none, .c (.bool (.sym (!decide (a = b))))⟩
  | .lss => some ⟨none, none, .c (.bool (.sym (Op.bytesLess a b)))⟩
  | .leq => some ⟨none, none, .c (.bool (.sym (Op.bytesLess a b || decide (a = b))))⟩
  | .gtr => some ⟨none, none, .c (.bool (.sym (!(Op.bytesLess a b || decide (a = b)))))⟩
  | .geq => some ⟨none, none, .c (.bool (.sym (!Op.bytesLess a b)))⟩
  | _ => none

def binV (op : BinOp) : SV → SV → Option Q
  | .c (.int k a), .c (.int k' b) => if isShift op then shf op k a b else if k = k' then binI op k a b else none
  | .c (.str a), .c (.str b) => binS op a b
  | _, _ => none

def unV (op : UnOp) : SV → Option Q
  | .c (.bool b) => match op with | .not => some ⟨none, none, .c (.bool b.not)⟩ | _ => none
  | .c (.int k a) => match op with | .neg => some ⟨none, none, .c (.int k (k.wrap (0 - a)))⟩ | .xor => some ⟨none, none, .c (.int k (bits .xor k (if k.signed then -1 else k.max) a))⟩ | _ => none
  | _ => none

/-- numbers as bytes -/
def byl (xs : List Int) : List UInt8 := xs.map fun n => UInt8.ofNat n.toNat

def isB (ti : Nat → Option TI) (s : TypeId) : Bool := match ti s with
  | some ⟨.slice e, _, _, _, _⟩ => match ti e with
    | some ⟨.int .u8, _, _, _, _⟩ => true
    | _ => false
  | _ => false
def isS (ti : Nat → Option TI) (s : TypeId) : Bool := match ti s with
  | some ⟨.str, _, _, _, _⟩ => true
  | _ => false

/-- bytes as a text -/
def cbsV (ti : Nat → Option TI) (hp : List (Nat × Ob)) (s d : TypeId) : SV → Option Q
  | .c (.dat (.int .u8) xs) => if isB ti s && isS ti d then some ⟨none, none, .c (.str (byl xs))⟩ else none
  | .c (.row b) => match lk hp b with
    | some (.row _ (.int .u8) xs) => if isB ti s && isS ti d then some ⟨none, none, .c (.str (byl xs))⟩ else none
    | _ => none
  | _ => none

def convV (s d : Option TI) : SV → Option Q
  | .c (.int _ a) => match s, d with | some ⟨.int _, _, _, _, _⟩, some ⟨.int k', _, _, _, _⟩ => some ⟨none, none, .c (.int k' (k'.wrap a))⟩ | _, _ => none
  | .c (.str a) => match s, d with | some ⟨.str, _, _, _, _⟩, some ⟨.str, _, _, _, _⟩ => some ⟨none, none, .c (.str a)⟩ | _, _ => none
  | _ => none

def extV (i : Nat) : SV → Option Q
  | .tup l => match l[i]? with
    | some (true, cs) => some ⟨none, none, .agg cs⟩
    | some (false, [c]) => some ⟨none, none, .c c⟩
    | _ => none
  | _ => none

/-- cells out of cells, as a value of a type -/
def ldV (i : TI) (l : List C) (o : Nat) : Option Q :=
  if i.tk.agg then (if o + i.sz ≤ l.length then some ⟨none, none, .agg ((l.drop o).take i.sz)⟩ else none)
  else match l[o]? with
    | some c => some ⟨none, none, .c c⟩
    | none => none

def loadV (i : Option TI) (hp : List (Nat × Ob)) : SV → Option Q
  | .c (.ptr b o) => match i, lk hp b with
    | some i, some (.cells _ l) => ldV i l o
    | _, _ => none
  | .c (.pel d x o) => match i with
    | some i => ldV i (d.cs x) o
    | _ => none
  | .c (.prw b j s o) => match i, lk hp b with
    | some i, some (.row _ d xs) => if s = d.sz then (match ldV i (d.cs (gt xs j)) o with
      | some q => some ⟨none, some (0 ≤ j ∧ j < xs.length), q.v⟩
      | none => none) else none
    | some i, some (.wid _ d xs _) => if s = d.sz then (match ldV i (d.cs (gt xs j)) o with
      | some q => some ⟨none, some (0 ≤ j ∧ j < xs.length), q.v⟩
      | none => none) else none
    | _, _ => none
  | .c (.glb g) => match i, glS g with
    | some i, some (.dat d xs) => match i.tk with
      | .array _ _ => if i.sz = xs.length * d.sz then some ⟨none, none, .arr d xs⟩ else none
      | _ => none
    | _, _ => none
  | _ => none

def fadV (i : Option TI) (f : Nat) : SV → Option Q
  | .c (.ptr b o) => match i with
    | some ⟨.strct fs, _, _, _, _⟩ => match fs[f]? with | some (o', _, _) => some ⟨none, none, .c (.ptr b (o + o'))⟩ | none => none
    | _ => none
  | .c (.pel d x o) => match i with
    | some ⟨.strct fs, _, _, _, _⟩ => match fs[f]? with | some (o', _, _) => some ⟨none, none, .c (.pel d x (o + o'))⟩ | none => none
    | _ => none
  | .c (.prw b j s o) => match i with
    | some ⟨.strct fs, _, _, _, _⟩ => match fs[f]? with | some (o', _, _) => some ⟨none, none, .c (.prw b j s (o + o'))⟩ | none => none
    | _ => none
  | _ => none

def fldV (i : Option TI) (f : Nat) : SV → Option Q
  | .agg l => match i with
    | some ⟨.strct fs, _, _, _, _⟩ => match fs[f]? with
      | some (o, s, true) => if o + s ≤ l.length then some ⟨none, none, .agg ((l.drop o).take s)⟩ else none
      | some (o, _, false) => match l[o]? with | some c => some ⟨none, none, .c c⟩ | none => none
      | none => none
    | _ => none
  | _ => none

def idxV (i : Option TI) : SV → SV → Option Q
  | .c (.str s), .c (.int _ j) => match i with
    | some ⟨.str, _, _, _, _⟩ => some ⟨none, some (0 ≤ j ∧ j < s.length), .c (.int .u8 (bt s j))⟩
    | _ => none
  | _, _ => none
/-- an element of an array -/
def idxA (ti : Nat → Option TI) (T : TypeId) : SV → SV → Option Q
  | .arr d xs, .c (.int _ j) => match ti T with
    | some ⟨.array n e, _, _, _, _⟩ => match ti e with
      | some i => if n = xs.length ∧ i.sz = d.sz ∧ i.tk.agg = true then some ⟨none, some (0 ≤ j ∧ j < xs.length), .agg (d.cs (gt xs j))⟩ else none
      | none => none
    | _ => none
  | _, _ => none

def sz? (ti : Nat → Option TI) (e : TypeId) : Option Nat := match ti e with | some i => some i.sz | none => none

/-- the place of an element of an array -/
def arrV (ti : Nat → Option TI) (T : TypeId) : Int → Option Nat
  | .ofNat j => match ti T with
    | some ⟨.array n e, _, _, _, _⟩ => match sz? ti e with
      | some s => if j < n then some (j * s) else none
      | none => none
    | _ => none
  | _ => none

/-- Bools told equal -/
def eqB (op : BinOp) (i : Option TI) : SV → SV → Option Q
  | .c (.bool a), .c (.bool b) => match i with
    | some ⟨.bool, _, _, _, _⟩ => match op with
      | .eql => some ⟨none, none, .c (.bool (.sym (a.v == b.v)))⟩
      | .neq => some ⟨none, none, .c (.bool (.sym (!(a.v == b.v))))⟩
      | _ => none
    | _ => none
  | _, _ => none

/-- pointers, one of them nil, told equal -/
def nlB : SV → SV → Option Bool
  | .c (.ptr _ _), .c (.val (.pointer none)) => some false
  | .c (.val (.pointer none)), .c (.ptr _ _) => some false
  | .c (.pel _ _ _), .c (.val (.pointer none)) => some false
  | .c (.val (.pointer none)), .c (.pel _ _ _) => some false
  | .c (.val (.pointer none)), .c (.val (.pointer none)) => some true
  | _, _ => none
/-- interface values, one of them nil, told equal -/
def nlI : SV → SV → Option Bool
  | .c (.val .nilIface), .c (.val .nilIface) => some true
  | .c (.val (.iface _ _)), .c (.val .nilIface) => some false
  | _, _ => none
def nilB (op : BinOp) (i : Option TI) (x y : SV) : Option Q :=
  match i with
  | some ⟨.ptr _, _, _, _, _⟩ => match nlB x y with
    | some b => match op with
      | .eql => match b with
        | true => some ⟨none, none, .c (.bool .tt)⟩
        | false => some ⟨none, none, .c (.bool .ff)⟩
      | .neq => match b with
        | true => some ⟨none, none, .c (.bool .ff)⟩
        | false => some ⟨none, none, .c (.bool .tt)⟩
      | _ => none
    | none => none
  | _ => none
def nilIB (op : BinOp) (i : Option TI) (z : Operand) (x y : SV) : Option Q :=
  match z with
  | .const _ => match i with
    | some ⟨.iface, _, _, _, _⟩ => match nlI x y with
      | some b => match op with
        | .eql => match b with
          | true => some ⟨none, none, .c (.bool .tt)⟩
          | false => some ⟨none, none, .c (.bool .ff)⟩
        | .neq => match b with
          | true => some ⟨none, none, .c (.bool .ff)⟩
          | false => some ⟨none, none, .c (.bool .tt)⟩
        | _ => none
      | none => none
    | _ => none
  | _ => none

def iadV (ti : Nat → Option TI) (T : TypeId) (hp : List (Nat × Ob)) : SV → SV → Option Q
  | .c (.dat d xs), .c (.int _ j) => match ti T with
    | some ⟨.slice e, _, _, _, _⟩ => if sz? ti e = some d.sz then some ⟨some (xs.length ≤ 9223372036854775807), some (0 ≤ j ∧ j < xs.length), .c (.pel d (gt xs j) 0)⟩ else none
    | _ => none
  | .c (.row b), .c (.int _ j) => match ti T, lk hp b with
    | some ⟨.slice e, _, _, _, _⟩, some (.row _ d xs) => if sz? ti e = some d.sz then some ⟨some (xs.length ≤ 9223372036854775807), some (0 ≤ j ∧ j < xs.length), .c (.prw b j d.sz 0)⟩ else none
    | _, _ => none
  | .c (.ptr b o), .c (.int _ j) => match lk hp b with
    | some (.wid _ d _ _) => match ti T with
      | some ⟨.array n e, _, _, _, _⟩ => match Nat.beq o 0 with
        | true => if sz? ti e = some d.sz then some ⟨none, some (0 ≤ j ∧ j < n), .c (.prw b j d.sz 0)⟩ else none
        | false => none
      | _ => none
    | _ => match arrV ti T j with
      | some p => some ⟨none, none, .c (.ptr b (o + p))⟩
      | none => none
  | .c (.csl b n), .c (.int _ j) => match ti T with
    | some ⟨.slice e, _, _, _, _⟩ => match j with
      | .ofNat m => match Nat.blt m n with
        | true => match sz? ti e with
          | some s => some ⟨none, none, .c (.ptr b (m * s))⟩
          | none => none
        | false => none
      | _ => none
    | _ => none
  | .c (.pel d y o), .c (.int _ j) => match arrV ti T j with
    | some p => some ⟨none, none, .c (.pel d y (o + p))⟩
    | none => none
  | .c (.sub b o sz n _), .c (.int _ j) => match ti T with
    | some ⟨.slice e, _, _, _, _⟩ => if sz? ti e = some sz then some ⟨none, some (0 ≤ j ∧ j < n), .c (.prw b (o + j) sz 0)⟩ else none
    | _ => none
  | .c (.glb g), .c (.int _ j) => match ti T, glS g with
    | some ⟨.array n e, _, _, _, _⟩, some (.dat d l) => if sz? ti e = some d.sz then some ⟨none, some ((0 ≤ j ∧ j < n) ∧ j < l.length), .c (.pel d (gt l j) 0)⟩ else none
    | _, _ => none
  | _, _ => none

/-- the bounds of a cut -/
def cutB (n : Nat) (lo hi : Option SV) : Option (Prop × Nat × Nat) :=
  match lo, hi with
  | none, none => some (True, 0, n)
  | some (.c (.int _ a)), none => some (0 ≤ a ∧ a ≤ n, a.toNat, n)
  | none, some (.c (.int _ b)) => some (0 ≤ b ∧ b ≤ n, 0, b.toNat)
  | some (.c (.int _ a)), some (.c (.int _ b)) => some ((0 ≤ b ∧ b ≤ n) ∧ 0 ≤ a ∧ a ≤ b, a.toNat, b.toNat)
  | _, _ => none

def cutV (ti : Nat → Option TI) (T : TypeId) (lo hi : Option SV) : SV → Option Q
  | .c (.str s) => match ti T, cutB s.length lo hi with
    | some ⟨.str, _, _, _, _⟩, some (p, a, b) => some ⟨none, some (p), .c (.str ((s.take b).drop a))⟩
    | _, _ => none
  | .c (.dat d xs) => match ti T, cutB xs.length lo hi with
    | some ⟨.slice e, _, _, _, _⟩, some (p, a, b) => if sz? ti e = some d.sz then some ⟨none, some (p), .c (.dat d ((xs.take b).drop a))⟩ else none
    | _, _ => none
  | _ => none

/-- a cut with three bounds: only whether it may be -/
def cut3 (hp : List (Nat × Ob)) (i : Option TI) (ti : Nat → Option TI) : SV → SV → SV → SV → Option Q
  | .c x, .c (.int _ a), .c (.int _ h), .c (.int _ m) => match i with
    | some ⟨.slice e, _, _, _, _⟩ => match sz? ti e with
      | some _ => match x with
        | .dat _ xs => some ⟨none, some (0 ≤ a ∧ a ≤ h ∧ h ≤ m ∧ m ≤ xs.length), .un⟩
        | .sub _ _ _ n _ => some ⟨none, some (0 ≤ a ∧ a ≤ h ∧ h ≤ m ∧ m ≤ n), .un⟩
        | .row b => match lk hp b with
          | some (.row _ _ xs) => some ⟨none, some (0 ≤ a ∧ a ≤ h ∧ h ≤ m ∧ m ≤ xs.length), .un⟩
          | _ => none
        | _ => none
      | none => none
    | _ => none
  | _, _, _, _ => none

/-- cuts of a row of the call's own whose capacity is known, and of nil -/
def cutS (ti : Nat → Option TI) (T : TypeId) (lo hi : Option SV) : SV → Option Q
  | .c (.sub b o sz n c) => match ti T with
    | some ⟨.slice e, _, _, _, _⟩ => if sz? ti e = some sz then (match hi with
      | none => match cutB n lo none with
        | some (p, a, h) => some ⟨none, some p, .c (.sub b (o + a) sz (h - a) (c - a))⟩
        | none => none
      | some s => match cutB c lo (some s) with
        | some (p, a, h) => some ⟨none, some p, .c (.sub b (o + a) sz (h - a) (c - a))⟩
        | none => none) else none
    | _ => none
  | .c (.val (.slice none 0 0)) => match ti T with
    | some ⟨.slice e, _, _, _, _⟩ => match sz? ti e with
      | some _ => match cutB 0 lo hi with
        | some (p, _, _) => some ⟨none, some p, .c (.val (.slice none 0 0))⟩
        | none => none
      | none => none
    | _ => none
  | _ => none

def capV (i : Option TI) : SV → Option Q
  | .c (.sub _ _ _ n c) => match i with | some ⟨.slice _, _, _, _, _⟩ => some ⟨some (n ≤ c ∧ c ≤ 9223372036854775807), none, .c (.int .i64 c)⟩ | _ => none
  | .c (.val (.slice none 0 0)) => match i with | some ⟨.slice _, _, _, _, _⟩ => some ⟨none, none, .c (.int .i64 0)⟩ | _ => none
  | _ => none

def lenV (hp : List (Nat × Ob)) (i : Option TI) : SV → Option Q
  | .c (.str s) => match i with | some ⟨.str, _, _, _, _⟩ => some ⟨none, none, .c (.int .i64 s.length)⟩ | _ => none
  | .c (.dat _ xs) => match i with | some ⟨.slice _, _, _, _, _⟩ => some ⟨some (xs.length ≤ 9223372036854775807), none, .c (.int .i64 xs.length)⟩ | _ => none
  | .c (.row b) => match i, lk hp b with
    | some ⟨.slice _, _, _, _, _⟩, some (.row _ _ xs) => some ⟨some (xs.length ≤ 9223372036854775807), none, .c (.int .i64 xs.length)⟩
    | _, _ => none
  | .c (.val (.slice none 0 0)) => match i with | some ⟨.slice _, _, _, _, _⟩ => some ⟨none, none, .c (.int .i64 0)⟩ | _ => none
  | .c (.csl _ n) => match i with | some ⟨.slice _, _, _, _, _⟩ => some ⟨none, none, .c (.int .i64 n)⟩ | _ => none
  | .c (.sub _ _ _ n c) => match i with | some ⟨.slice _, _, _, _, _⟩ => some ⟨some (n ≤ c ∧ c ≤ 9223372036854775807), none, .c (.int .i64 n)⟩ | _ => none
  | _ => none

def caps : List SV → Option (List (Nat × Nat))
  | [] => some []
  | .c (.ptr b o) :: l => match caps l with | some m => some ((b, o) :: m) | none => none
  | _ => none

/-- parts laid into a struct's cells -/
def fillC (fs : List (Nat × Nat × Bool)) : List C → List (Nat × SV) → Option (List C)
  | cells, [] => some cells
  | cells, (i, v) :: r => match fs[i]? with
    | some (o, s, _) => match v with
      | .c y => if s = 1 ∧ o < cells.length then fillC fs (cells.set o y) r else none
      | .agg l => if l.length = s ∧ o + s ≤ cells.length then fillC fs (cells.take o ++ l ++ cells.drop (o + s)) r else none
      | _ => none
    | none => none

def bldV (i : Option TI) (parts : List (Nat × SV)) : Option Q :=
  match i with
  | some ⟨.strct fs, _, _, z, _⟩ => match fillC fs z parts with | some l => some ⟨none, none, .agg l⟩ | none => none
  | _ => none

def qv (ti : Nat → Option TI) (hp : List (Nat × Ob)) (g : Operand → SV) : Op → Option Q
  | .move x => some ⟨none, none, g x⟩
  | .assign x => some ⟨none, none, g x⟩
  | .pick c a b => match g c with
    | .c (.bool t) => match t with
      | .tt => some ⟨none, none, g a⟩
      | .ff => some ⟨none, none, g b⟩
      | .sym t => some ⟨none, none, if t = true then g a else g b⟩
    | _ => none
  | .binOp op t x y _ => match binV op (g x) (g y) with
    | some q => some q
    | none => match eqB op (ti t) (g x) (g y) with
      | some q => some q
      | none => match nilB op (ti t) (g x) (g y) with
        | some q => some q
        | none => nilIB op (ti t) y (g x) (g y)
  | .unOp op _ x => unV op (g x)
  | .convert s d x => match convV (ti s) (ti d) (g x) with
    | some q => some q
    | none => cbsV ti hp s d (g x)
  | .extract x i => extV i (g x)
  | .fieldAddr T x f => fadV (ti T) f (g x)
  | .field T x f => fldV (ti T) f (g x)
  | .load T x => loadV (ti T) hp (g x)
  | .index T x i => match idxV (ti T) (g x) (g i) with
    | some q => some q
    | none => idxA ti T (g x) (g i)
  | .indexAddr T x i => iadV ti T hp (g x) (g i)
  | .slice T x lo hi none => match cutV ti T (lo.map g) (hi.map g) (g x) with
    | some q => some q
    | none => cutS ti T (lo.map g) (hi.map g) (g x)
  | .slice T x (some lo) (some hi) (some m) => cut3 hp (ti T) ti (g x) (g lo) (g hi) (g m)
  | .nilCheck x => match g x with
    | .c (.ptr b o) => some ⟨none, none, .c (.ptr b o)⟩
    | .c (.pel d y o) => some ⟨none, none, .c (.pel d y o)⟩
    | _ => none
  | .makeFunc (.func f) first captured => match first.toList, caps (captured.toList.map g) with
    | [], some l => some ⟨none, none, .c (.fn f l)⟩
    | [x], some [] => match g x with
      | .c (.ptr b o) => some ⟨none, none, .c (.bm f b o)⟩
      | _ => none
    | _, _ => none
  | .build T parts => bldV (ti T) (parts.toList.map fun p => (p.1, g p.2))
  | .call c => match c.callee, c.args.toList, c.argTypes.toList with
    | .builtin .len, [x], [t] => lenV hp (ti t) (g x)
    | .builtin .cap, [x], [t] => capV (ti t) (g x)
    | .builtin .min, [x, y], _ => match g x, g y with
      | .c (.int k a), .c (.int _ b) => some ⟨none, none, .c (.int k (if b < a then b else a))⟩
      | _, _ => none
    | _, _, _ => none
  | _ => none

end OE
/- OE, part 3: the quiet operations are right. Own work; generic over the program. -/
namespace OE
open Go Go.RowKit

variable {P : Program}

/-- what a quiet operation's run must be -/
def Yields (P : Program) (w : World) (v : Value) (s : Sem Next) : Prop := ∀ w', Below w.heap.size w w' → s.run P w' = .ok (.value v) w'

theorem run_eqGuard {op : BinOp} {t : TypeId} {x y : Operand} {a b : Value} {w : World} (ha : ∀ l, a ≠ .agg l) (hi : a ≠ .nilIface) : (eqGuard op t x y a b).run P w = .ok () w := by
  unfold eqGuard
  cases op <;> simp only [Bool.not_true, Bool.not_false, if_true, Bool.false_eq_true, if_false] <;> try rfl
  all_goals
    cases a <;> first | rfl | exact (hi rfl).elim | exact (ha _ rfl).elim

theorem bin_yields {op : BinOp} {t u : TypeId} {x y : Operand} {ρ : Operand → Value} {w : World} {v : Value} (ha : ∀ l, ρ x ≠ .agg l) (hi : ρ x ≠ .nilIface)
    (h : ∀ w, (binOp op t (ρ x) (ρ y)).run P w = .ok v w) {o : Oper} (ho : o.op = .binOp op t x y u) : Yields P w v (execOp ρ o) := by
  intro w' _
  simp [execOp, ho, run_eqGuard ha hi, h]

theorem binI_sound {op : BinOp} {k : IntKind} {a b : Int} {q : Q} (h : binI op k a b = some q) (hs : isShift op = false) (t : TypeId) :
    OP q.hyp ∧ (OP q.pre → ∃ c, q.v = .c c ∧ ∃ v, (∀ x, RC x c v) ∧ ∀ w, (binOp op t (.int k a) (.int k b)).run P w = .ok v w) := by
  cases op <;> simp only [binI, isShift, Option.some.injEq, reduceCtorEq] at h hs <;> subst h <;> refine ⟨trivial, fun hp => ⟨_, rfl, _, fun x => rfl, fun w => ?_⟩⟩
  case quo => simp at hp; simp [binOp, Op.intDiv, hp]
  case rem => simp at hp; simp [binOp, Op.intDiv, hp]
  all_goals simp [binOp, Op.intArith, Op.intCmp, intBits_and, intBits_or, intBits_xor, intBits_andNot, BEq.beq, bne]

theorem shf_sound {op : BinOp} {k k' : IntKind} {a b : Int} {q : Q} (h : shf op k a b = some q) (t : TypeId) :
    OP q.hyp ∧ (OP q.pre → ∃ c, q.v = .c c ∧ ∃ v, (∀ x, RC x c v) ∧ ∀ w, (binOp op t (.int k a) (.int k' b)).run P w = .ok v w) := by
  cases op <;> simp only [shf, Option.some.injEq, reduceCtorEq] at h <;> subst h <;> refine ⟨trivial, fun hp => ⟨_, rfl, _, fun x => rfl, fun w => ?_⟩⟩
  case shl =>
    have : ¬ b < 0 := by simp at hp; omega
    simp [binOp, Op.shift, this]
  case shr =>
    have : ¬ b < 0 := by simp at hp; omega
    have hp2 : (0 : Int) ≤ 2 ^ (min b.toNat k.bits) := Int.pow_nonneg (by decide)
    simp [binOp, Op.shift, this, Int.fdiv_eq_ediv_of_nonneg _ hp2]

theorem beq_dec (a b : List UInt8) : (a == b) = decide (a = b) := by
  by_cases h : a = b <;> simp [h]

theorem binS_sound {op : BinOp} {a b : List UInt8} {q : Q} (h : binS op a b = some q) (t : TypeId) :
    OP q.hyp ∧ (OP q.pre → ∃ c, q.v = .c c ∧ ∃ v, (∀ x, RC x c v) ∧ ∀ w, (binOp op t (.string ⟨a.toArray⟩) (.string ⟨b.toArray⟩)).run P w = .ok v w) := by
  cases op <;> simp only [binS, Option.some.injEq, reduceCtorEq] at h <;> subst h <;> refine ⟨trivial, fun hp => ⟨_, rfl, _, fun x => rfl, fun w => ?_⟩⟩
  case add =>
    have e : (ByteArray.mk a.toArray ++ ByteArray.mk b.toArray) = ByteArray.mk (a ++ b).toArray := by
      apply ByteArray.ext
      simp
    have hs : ¬ (((ByteArray.mk a.toArray).size + (ByteArray.mk b.toArray).size : Nat) : Int) > IntKind.i64.max := by
      simp only [ByteArray.size, List.size_toArray]
      have : IntKind.i64.max = 9223372036854775807 := by decide
      rw [this]
      simp at hp
      omega
    simp only [binOp, Op.stringOp]
    rw [if_neg hs, e]
    rfl
  all_goals simp only [binOp, Op.stringOp, ByteArray.toList_mk, beq_dec, Sem.run_pure, BE.v_sym]

theorem rs_int {x : Cx} {k : IntKind} {a : Int} {v : Value} (h : RS x (.c (.int k a)) v) : v = .int k a := h
theorem rs_str {x : Cx} {a : List UInt8} {v : Value} (h : RS x (.c (.str a)) v) : v = .string ⟨a.toArray⟩ := h
theorem rs_bool {x : Cx} {a : BE} {v : Value} (h : RS x (.c (.bool a)) v) : v = .bool a.v := h

theorem binV_sound {x : Cx} {op : BinOp} {s s' : SV} {q : Q} {t u : TypeId} {X Y : Operand} {ρ : Operand → Value} {w : World} (h : binV op s s' = some q)
    (hx : RS x s (ρ X)) (hy : RS x s' (ρ Y)) {o : Oper} (ho : o.op = .binOp op t X Y u) : OP q.hyp ∧ (OP q.pre → ∃ v, RS x q.v v ∧ Yields P w v (execOp ρ o)) := by
  unfold binV at h
  split at h
  · rename_i k a k' b
    have ex := rs_int hx
    have ey := rs_int hy
    have key : ∀ q : Q, OP q.hyp ∧ (OP q.pre → ∃ c, q.v = .c c ∧ ∃ v, (∀ x, RC x c v) ∧ ∀ w, (binOp op t (.int k a) (.int k' b)).run P w = .ok v w) →
        OP q.hyp ∧ (OP q.pre → ∃ v, RS x q.v v ∧ Yields P w v (execOp ρ o)) := fun q hq => ⟨hq.1, fun hp => by
      obtain ⟨c, e, v, h1, h2⟩ := hq.2 hp
      refine ⟨v, by rw [e]; exact h1 x, bin_yields (by rw [ex]; simp) (by rw [ex]; simp) (by rw [ex, ey]; exact h2) ho⟩⟩
    split at h
    · exact key q (shf_sound h t)
    · rename_i hs
      split at h
      · rename_i hk
        subst hk
        exact key q (binI_sound h (by simpa using hs) t)
      · cases h
  · rename_i a b
    have ex := rs_str hx
    have ey := rs_str hy
    obtain ⟨h1, h2⟩ := binS_sound (P := P) h t
    refine ⟨h1, fun hp => ?_⟩
    obtain ⟨c, e, v, h1, h2⟩ := h2 hp
    exact ⟨v, by rw [e]; exact h1 x, bin_yields (by rw [ex]; simp) (by rw [ex]; simp) (by rw [ex, ey]; exact h2) ho⟩
  · cases h

theorem unV_sound {x : Cx} {op : UnOp} {s : SV} {q : Q} {t : TypeId} {X : Operand} {ρ : Operand → Value} {w : World} (h : unV op s = some q)
    (hx : RS x s (ρ X)) {o : Oper} (ho : o.op = .unOp op t X) : OP q.hyp ∧ (OP q.pre → ∃ v, RS x q.v v ∧ Yields P w v (execOp ρ o)) := by
  unfold unV at h
  split at h
  · have ex := rs_bool hx
    split at h
    · cases h
      exact ⟨trivial, fun _ => ⟨_, rfl, fun w' _ => by simp [execOp, ho, ex, Op.unary, BE.not_v]⟩⟩
    · cases h
  · have ex := rs_int hx
    split at h
    · cases h
      exact ⟨trivial, fun _ => ⟨_, rfl, fun w' _ => by simp [execOp, ho, ex, Op.unary, Op.intArith]⟩⟩
    · cases h
      exact ⟨trivial, fun _ => ⟨_, rfl, fun w' _ => by simp [execOp, ho, ex, Op.unary, intBits_xor]⟩⟩
    · cases h
  · cases h

theorem tk_int {t : TypeId} {k : IntKind} (h : tkIs P t (.int k) = true) : P.underlying t = some (.int k) := by
  simp only [tkIs] at h
  split at h
  · rename_i k' hu; simp at h; subst h; exact hu
  · cases h
theorem tk_str {t : TypeId} (h : tkIs P t .str = true) : P.underlying t = some .string := by
  simp only [tkIs] at h
  split at h
  · rename_i hu; exact hu
  · cases h
theorem tk_slice {t e : TypeId} (h : tkIs P t (.slice e) = true) : P.underlying t = some (.slice e) := by
  simp only [tkIs] at h
  split at h
  · rename_i e' hu; simp at h; rw [h.1]; exact hu
  · cases h
theorem tk_array {t e : TypeId} {n : Nat} (h : tkIs P t (.array n e) = true) : P.underlying t = some (.array n e) := by
  simp only [tkIs] at h
  split at h
  · rename_i n' e' hu; simp at h; rw [h.1, h.2]; exact hu
  · cases h
theorem tk_bool {t : TypeId} (h : tkIs P t .bool = true) : P.underlying t = some .bool := by
  simp only [tkIs] at h
  split at h
  · rename_i hu; exact hu
  · cases h
theorem tk_strct {t : TypeId} {fs : List (Nat × Nat × Bool)} (h : tkIs P t (.strct fs) = true) : ∃ fl, P.underlying t = some (.struct fl) ∧ fldIs P fs fl.toList = true := by
  simp only [tkIs] at h
  split at h
  · rename_i fl hu; exact ⟨fl, hu, h⟩
  · cases h

theorem und_run {t : TypeId} {d : TypeDesc} (h : P.underlying t = some d) (w : World) : (underlying t).run P w = .ok d w := run_underlying h w

theorem eqB_sound {ti : Nat → Option TI} (ht : TabOk P ti) {x : Cx} {op : BinOp} {s s' : SV} {q : Q} {t u : TypeId} {X Y : Operand} {ρ : Operand → Value} {w : World} (h : eqB op (ti t) s s' = some q)
    (hx : RS x s (ρ X)) (hy : RS x s' (ρ Y)) {o : Oper} (ho : o.op = .binOp op t X Y u) : OP q.hyp ∧ (OP q.pre → ∃ v, RS x q.v v ∧ Yields P w v (execOp ρ o)) := by
  unfold eqB at h
  split at h
  · rename_i a b
    have ex := rs_bool hx
    have ey := rs_bool hy
    split at h
    · rename_i hi
      have hu := tk_bool (ht.is hi).tk
      have he : ∀ w, (Op.equal t (.bool a.v) (.bool b.v)).run P w = .ok (a.v == b.v) w := by
        intro w
        show (Op.equalIn (9999 + 1) t (.bool a.v) (.bool b.v)).run P w = _
        unfold Op.equalIn
        simp only [Sem.run_bind, und_run hu, Result.andThen_ok, Sem.run_pure]
      split at h
      · cases h
        exact ⟨trivial, fun _ => ⟨_, rfl, bin_yields (by rw [ex]; simp) (by rw [ex]; simp) (fun w => by rw [ex, ey]; simp only [binOp, Sem.run_bind, he, Result.andThen_ok]; rfl) ho⟩⟩
      · cases h
        exact ⟨trivial, fun _ => ⟨_, rfl, bin_yields (by rw [ex]; simp) (by rw [ex]; simp) (fun w => by rw [ex, ey]; simp only [binOp, Sem.run_bind, he, Result.andThen_ok]; rfl) ho⟩⟩
      · cases h
    · cases h
  · cases h

theorem tk_ptr {t e : TypeId} (h : tkIs P t (.ptr e) = true) : P.underlying t = some (.pointer e) := by
  simp only [tkIs] at h
  split at h
  · rename_i e' hu; simp at h; subst h; exact hu
  · cases h
theorem tk_iface {t : TypeId} (h : tkIs P t .iface = true) : ∃ e, P.underlying t = some (.interface e) := by
  simp only [tkIs] at h
  split at h
  · rename_i e' hu; exact ⟨_, hu⟩
  · cases h
theorem nilB_sound {ti : Nat → Option TI} (ht : TabOk P ti) {x : Cx} {op : BinOp} {s s' : SV} {q : Q} {t u : TypeId} {X Y : Operand} {ρ : Operand → Value} {w : World} (h : nilB op (ti t) s s' = some q)
    (hx : RS x s (ρ X)) (hy : RS x s' (ρ Y)) {o : Oper} (ho : o.op = .binOp op t X Y u) : OP q.hyp ∧ (OP q.pre → ∃ v, RS x q.v v ∧ Yields P w v (execOp ρ o)) := by
  unfold nilB at h
  split at h
  · rename_i e _ _ _ _ hi
    have hu := tk_ptr (ht.is hi).tk
    split at h
    · rename_i b hb
      have key : ∃ a c : Option Addr, ρ X = .pointer a ∧ ρ Y = .pointer c ∧ ∀ w, (Op.equal t (.pointer a) (.pointer c)).run P w = .ok b w := by
        have nn : ∀ (c : Option Addr) w, (Op.equal t (.pointer none) (.pointer c)).run P w = .ok c.isNone w := by
          intro c w
          show (Op.equalIn (9999 + 1) t (.pointer none) (.pointer c)).run P w = _
          unfold Op.equalIn
          simp only [Sem.run_bind, und_run hu, Result.andThen_ok, Sem.run_pure]
        have sn : ∀ (a : Addr) w, (Op.equal t (.pointer (some a)) (.pointer none)).run P w = .ok false w := by
          intro a w
          show (Op.equalIn (9999 + 1) t (.pointer (some a)) (.pointer none)).run P w = _
          unfold Op.equalIn
          simp only [Sem.run_bind, und_run hu, Result.andThen_ok, Sem.run_pure]
        unfold nlB at hb
        split at hb
        · cases hb; obtain ⟨_, k, _, e1⟩ := hx; obtain ⟨e2, _⟩ := hy; exact ⟨_, _, e1, e2, fun w => sn _ w⟩
        · cases hb; obtain ⟨_, k, _, e1⟩ := hy; obtain ⟨e2, _⟩ := hx; exact ⟨_, _, e2, e1, fun w => nn _ w⟩
        · cases hb; obtain ⟨_, _, _, _, _, _, e1, _⟩ := hx; obtain ⟨e2, _⟩ := hy; exact ⟨_, _, e1, e2, fun w => sn _ w⟩
        · cases hb; obtain ⟨_, _, _, _, _, _, e1, _⟩ := hy; obtain ⟨e2, _⟩ := hx; exact ⟨_, _, e2, e1, fun w => nn _ w⟩
        · cases hb; obtain ⟨e1, _⟩ := hx; obtain ⟨e2, _⟩ := hy; exact ⟨_, _, e1, e2, fun w => nn _ w⟩
        · cases hb
      obtain ⟨a, c, ex, ey, he⟩ := key
      split at h
      · split at h
        all_goals
          cases h
          exact ⟨trivial, fun _ => ⟨_, rfl, bin_yields (by rw [ex]; simp) (by rw [ex]; simp) (fun w => by rw [ex, ey]; simp only [binOp, Sem.run_bind, he, Result.andThen_ok]; rfl) ho⟩⟩
      · split at h
        all_goals
          cases h
          exact ⟨trivial, fun _ => ⟨_, rfl, bin_yields (by rw [ex]; simp) (by rw [ex]; simp) (fun w => by rw [ex, ey]; simp only [binOp, Sem.run_bind, he, Result.andThen_ok]; rfl) ho⟩⟩
      · cases h
    · cases h
  · cases h
theorem nilIB_sound {ti : Nat → Option TI} (ht : TabOk P ti) {x : Cx} {op : BinOp} {s s' : SV} {q : Q} {t u : TypeId} {X Y : Operand} {ρ : Operand → Value} {w : World} (h : nilIB op (ti t) Y s s' = some q)
    (hx : RS x s (ρ X)) (hy : RS x s' (ρ Y)) {o : Oper} (ho : o.op = .binOp op t X Y u) : OP q.hyp ∧ (OP q.pre → ∃ v, RS x q.v v ∧ Yields P w v (execOp ρ o)) := by
  unfold nilIB at h
  split at h
  · split at h
    · rename_i z _ _ _ _ _ hi
      obtain ⟨ms, hu⟩ := tk_iface (ht.is hi).tk
      split at h
      · rename_i b hb
        have key : ∃ a : Value, ρ X = a ∧ ρ (.const z) = .nilIface ∧ (∀ w, (Op.equal t a .nilIface).run P w = .ok b w) ∧ ∀ op w, (eqGuard op t X (.const z) a .nilIface).run P w = .ok () w := by
          unfold nlI at hb
          split at hb
          · cases hb
            obtain ⟨e1, _⟩ := hx
            obtain ⟨e2, _⟩ := hy
            refine ⟨_, e1, e2, fun w => ?_, fun op w => ?_⟩
            · show (Op.equalIn (9999 + 1) t .nilIface .nilIface).run P w = _
              unfold Op.equalIn
              simp only [Sem.run_bind, und_run hu, Result.andThen_ok, Sem.run_pure]
            · unfold eqGuard
              cases op <;> simp
          · cases hb
            obtain ⟨e1, _⟩ := hx
            obtain ⟨e2, _⟩ := hy
            refine ⟨_, e1, e2, fun w => ?_, fun op w => ?_⟩
            · show (Op.equalIn (9999 + 1) t (.iface _ _) .nilIface).run P w = _
              unfold Op.equalIn
              simp only [Sem.run_bind, und_run hu, Result.andThen_ok, Sem.run_pure]
            · exact run_eqGuard (fun _ h => by cases h) (fun h => by cases h)
          · cases hb
        obtain ⟨a, ex, ey, he, hgd⟩ := key
        split at h
        · split at h
          all_goals
            cases h
            refine ⟨trivial, fun _ => ⟨_, rfl, fun w' _ => ?_⟩⟩
            simp only [execOp, ho, ex, ey, Sem.run_bind, hgd, Result.andThen_ok, binOp, he]
            rfl
        · split at h
          all_goals
            cases h
            refine ⟨trivial, fun _ => ⟨_, rfl, fun w' _ => ?_⟩⟩
            simp only [execOp, ho, ex, ey, Sem.run_bind, hgd, Result.andThen_ok, binOp, he]
            rfl
        · cases h
      · cases h
    · cases h
  · cases h

theorem convV_sound {ti : Nat → Option TI} (ht : TabOk P ti) {x : Cx} {s : SV} {q : Q} {a d : TypeId} {X : Operand} {ρ : Operand → Value} {w : World} (h : convV (ti a) (ti d) s = some q)
    (hx : RS x s (ρ X)) {o : Oper} (ho : o.op = .convert a d X) : OP q.hyp ∧ (OP q.pre → ∃ v, RS x q.v v ∧ Yields P w v (execOp ρ o)) := by
  unfold convV at h
  split at h
  · have ex := rs_int hx
    split at h
    · rename_i h1 h2
      cases h
      have u1 := tk_int (ht.is h1).tk
      have u2 := tk_int (ht.is h2).tk
      exact ⟨trivial, fun _ => ⟨_, rfl, fun w' _ => by simp [execOp, ho, ex, convert, und_run u1, und_run u2, Conv.intToInt]⟩⟩
    · cases h
  · have ex := rs_str hx
    split at h
    · rename_i h1 h2
      cases h
      have u1 := tk_str (ht.is h1).tk
      have u2 := tk_str (ht.is h2).tk
      exact ⟨trivial, fun _ => ⟨_, rfl, fun w' _ => by simp [execOp, ho, ex, convert, und_run u1, und_run u2]⟩⟩
    · cases h
  · cases h

theorem extV_sound {x : Cx} {i : Nat} {s : SV} {q : Q} {X : Operand} {ρ : Operand → Value} {w : World} (h : extV i s = some q)
    (hx : RS x s (ρ X)) {o : Oper} (ho : o.op = .extract X i) : OP q.hyp ∧ (OP q.pre → ∃ v, RS x q.v v ∧ Yields P w v (execOp ρ o)) := by
  unfold extV at h
  split at h
  · rename_i l
    obtain ⟨vs, ex, hl⟩ := hx
    have run : ∀ u, vs[i]? = some u → Yields P w u (execOp ρ o) := fun u hu w' _ => by
      simp [execOp, ho, ex, Instr.extract, hu]
    split at h
    · rename_i cs hi
      cases h
      obtain ⟨u, h1, h2⟩ := RL.get hl hi
      simp only [RP, if_true] at h2
      exact ⟨trivial, fun _ => ⟨u, h2, run u (by simpa using h1)⟩⟩
    · rename_i c hi
      cases h
      obtain ⟨u, h1, h2⟩ := RL.get hl hi
      simp only [RP, Bool.false_eq_true, if_false] at h2
      obtain ⟨y, e, h2⟩ := h2
      simp at e
      subst e
      exact ⟨trivial, fun _ => ⟨u, h2, run u (by simpa using h1)⟩⟩
    · cases h
  · cases h

/-! ### loads -/

theorem run_loadCells_run {w : World} {a : Addr} {cs : List Value} (h : ∀ j v, cs[j]? = some v → w.cell? (a.add j) = some v) :
    (loadCells a cs.length).run P w = .ok cs.toArray w := run_loadCells_list w a cs h

theorem cell_of {w : World} {k o : Nat} {cells : Array Value} {T : TypeId} {fz : Nat × Nat} (h : w.heap[k]? = some (.cells cells T fz)) : w.cell? ⟨k, o, none⟩ = cells[o]? := by
  simp [World.cell?, h]

theorem add_plain' (k o j : Nat) : (⟨k, o, none⟩ : Addr).add j = ⟨k, o + j, none⟩ := by
  unfold Addr.add
  split <;> simp_all

/-- a load of a type from an address whose cells are known -/
theorem run_loadVar {ti : Nat → Option TI} (ht : TabOk P ti) {x : Cx} {t : TypeId} {i : TI} (hi : ti t = some i) {l : List C} {o : Nat} {q : Q} (hq : ldV i l o = some q)
    {w : World} {k p : Nat} {T : TypeId} {fz : Nat × Nat} {cells : Array Value} {vs : List Value} (hb : w.heap[k]? = some (.cells cells T fz))
    (hl : RL (RC x) l vs) (hv : ∀ j v, vs[j]? = some v → cells[p + j]? = some v) :
    OP q.hyp ∧ (OP q.pre ↔ True) ∧ ∃ v, RS x q.v v ∧ ∀ w', w'.heap[k]? = w.heap[k]? → (loadVar t ⟨k, p + o, none⟩).run P w' = .ok v w' := by
  have is := ht.is hi
  obtain ⟨u, hu, hag⟩ := is.agg
  obtain ⟨j, hj, hsz, _⟩ := is.info
  unfold ldV at hq
  have hisAgg : ∀ w', (isAgg t).run P w' = .ok i.tk.agg w' := fun w' => by
    unfold isAgg
    simp only [Sem.run_bind, und_run hu, Result.andThen_ok]
    rw [← hag]
    cases u <;> rfl
  have hsize : ∀ w', (Go.sizeOf t).run P w' = .ok i.sz w' := fun w' => by simp [Go.sizeOf, typeInfo, hj, hsz]
  split at hq
  · rename_i ha
    split at hq
    · rename_i hle
      cases hq
      refine ⟨trivial, Iff.rfl, .agg ((vs.drop o).take i.sz).toArray, ⟨_, rfl, ?_⟩, fun w' hw' => ?_⟩
      · simpa using RL.take i.sz (RL.drop o hl)
      · have hlen : ((vs.drop o).take i.sz).length = i.sz := by
          rw [List.length_take, List.length_drop, ← RL.len hl]; omega
        have hc : ∀ (j : Nat) v, ((vs.drop o).take i.sz)[j]? = some v → w'.cell? ((⟨k, p + o, none⟩ : Addr).add j) = some v := by
          intro j v hjv
          rw [add_plain', cell_of (hw'.trans hb), Nat.add_assoc]
          apply hv
          rw [List.getElem?_take] at hjv
          split at hjv
          · simpa using hjv
          · cases hjv
        have := run_loadCells_run (P := P) (w := w') (a := ⟨k, p + o, none⟩) hc
        rw [hlen] at this
        simp [loadVar, hisAgg, ha, hsize, this]
    · cases hq
  · rename_i ha
    split at hq
    · rename_i c hc
      cases hq
      obtain ⟨v, h1, h2⟩ := RL.get hl hc
      refine ⟨trivial, Iff.rfl, v, h2, fun w' hw' => ?_⟩
      have : w'.cell? ⟨k, p + o, none⟩ = some v := by rw [cell_of (hw'.trans hb)]; exact hv _ _ h1
      have ha' : i.tk.agg = false := by simpa using ha
      simp [loadVar, hisAgg, ha', this]
    · cases hq

/-- a datum's abstract cells stand for its cells -/
theorem rl_cs {x : Cx} : ∀ {d : D} {y : d.T} {cs : List Value}, Rd x.w x.ok d y cs → RL (RC x) (d.cs y) cs
  | .int _, _, _, h => by simp only [Rd] at h; subst h; exact ⟨rfl, trivial⟩
  | .bool, _, _, h => by simp only [Rd] at h; subst h; exact ⟨rfl, trivial⟩
  | .str, _, _, h => by simp only [Rd] at h; subst h; exact ⟨rfl, trivial⟩
  | .pair a b, _, _, h => by
    simp only [Rd] at h
    obtain ⟨c1, c2, rfl, h1, h2⟩ := h
    exact RL.app (rl_cs h1) (rl_cs h2)
  | .list a, _, _, h => by
    have h' := h
    simp only [Rd] at h
    obtain ⟨A, c, rfl, _⟩ := h
    exact ⟨h', trivial⟩

theorem gt_get {d : D} {xs : List d.T} {j : Int} (h0 : 0 ≤ j) (h1 : j < xs.length) : xs[j.toNat]? = some (gt xs j) := by
  have hlt : j.toNat < xs.length := by omega
  simp [gt, hlt]

theorem run_loadAt {t : TypeId} {k o : Nat} {w : World} {r : Result Value} (h : (loadVar t ⟨k, o, none⟩).run P w = r) : (Instr.loadAt t (.pointer (some ⟨k, o, none⟩))).run P w = r := by
  simpa [Instr.loadAt, Instr.sureAddr] using h

theorem heap_below {w w' : World} (h : Below w.heap.size w w') {k : Nat} {o : Obj} (hk : w.heap[k]? = some o) : w'.heap[k]? = w.heap[k]? :=
  h.block k (Array.getElem?_eq_some_iff.1 hk).1

theorem loadV_sound {ti : Nat → Option TI} (ht : TabOk P ti) {w0 : W0} {hp hq : List (Nat × Ob)} {nx : Nat → Prop} {η : Nat → Option Nat × Value} {w : World} (hH : RepH w0 hp nx η w) (hs : ∀ b o, lk hq b = some o → lk hp b = some o) {t : TypeId} {s : SV} {q : Q}
    {X : Operand} {ρ : Operand → Value} (h : loadV (ti t) hq s = some q) (hx : RS (cxS w0 hp nx η w) s (ρ X)) {o : Oper} (ho : o.op = .load t X) :
    OP q.hyp ∧ (OP q.pre → ∃ v, RS (cxS w0 hp nx η w) q.v v ∧ Yields P w v (execOp ρ o)) := by
  have run : ∀ k p v, ρ X = .pointer (some ⟨k, p, none⟩) → (∃ ob, w.heap[k]? = some ob) → (∀ w', w'.heap[k]? = w.heap[k]? → (loadVar t ⟨k, p, none⟩).run P w' = .ok v w') → Yields P w v (execOp ρ o) :=
    fun k p v e ⟨ob, hob⟩ hr w' hw' => by simp [execOp, ho, e, run_loadAt (hr w' (heap_below hw' hob))]
  unfold loadV at h
  split at h
  · rename_i b off
    obtain ⟨hb, k, hk, e⟩ := hx
    split at h
    · rename_i i T l hi hlk
      obtain ⟨k', vs, h1, h2, h3⟩ := hH.obs b _ (hs _ _ hlk)
      have hkk : k' = k := by have : some k' = some k := h1.symm.trans hk; simpa using this
      subst hkk
      obtain ⟨g1, g2, v, g3, g4⟩ := run_loadVar ht hi h h2 (p := 0) h3 (fun j v hj => by simpa using hj)
      rw [Nat.zero_add] at g4
      exact ⟨g1, fun _ => ⟨v, g3, run _ _ v e ⟨_, h2⟩ g4⟩⟩
    · cases h
  · rename_i d y off
    obtain ⟨k, p, cells, T, fz, cs, e, hok, hb, hr, hcs⟩ := hx
    split at h
    · rename_i i hi
      obtain ⟨g1, g2, v, g3, g4⟩ := run_loadVar ht hi h hb (p := p) (rl_cs hr) (fun j v hj => by
        rw [← hcs, List.getElem?_take] at hj
        split at hj
        · simpa using hj
        · cases hj)
      exact ⟨g1, fun _ => ⟨v, g3, run _ _ v e ⟨_, hb⟩ g4⟩⟩
    · cases h
  · rename_i b j sz off
    obtain ⟨hb, k, hk, e⟩ := hx
    split at h
    · rename_i i T d xs hi hlk
      split at h
      · rename_i hsz
        split at h
        · rename_i q' hq'
          cases h
          refine ⟨trivial, fun hp => ?_⟩
          simp only [OP_some] at hp
          obtain ⟨cs, r1, r2, r3⟩ := hH.obs b _ (hs _ _ hlk)
          rcases r2.2 with ⟨_, hn⟩ | ⟨g, cap, cur, hv, _, hg, hc1, hc2, hc3, hc4⟩
          · omega
          · have hgk : g = k := by
              rw [hv] at r1
              have : some k = some g := hk.symm.trans r1
              simpa using this.symm
            subst hgk
            have hget := RdF.get (fun _ _ => Rd.len) r3 (gt_get hp.1 hp.2)
            obtain ⟨g1, g2, v, g3, g4⟩ := run_loadVar ht hi hq' hg (p := j.toNat * sz) (rl_cs hget) (fun i v hi => by
              rw [List.getElem?_take] at hi
              split at hi
              · rw [List.getElem?_drop, ← hc4, List.getElem?_take] at hi
                split at hi
                · rw [hsz]; simpa using hi
                · cases hi
              · cases hi)
            exact ⟨v, g3, run _ _ v e ⟨_, hg⟩ g4⟩
        · cases h
      · cases h
    · rename_i i T d xs c0 hi hlk
      split at h
      · rename_i hsz
        split at h
        · rename_i q' hq'
          cases h
          refine ⟨trivial, fun hp => ?_⟩
          simp only [OP_some] at hp
          obtain ⟨k3, cur, hk3, hg, hcs, hlc, hcm', hf⟩ := hH.obs b _ (hs _ _ hlk)
          have hgk : k3 = k := by have : some k3 = some k := hk3.symm.trans hk; simpa using this
          subst hgk
          have hget := RdF.get (fun _ _ => Rd.len) hf (gt_get hp.1 hp.2)
          obtain ⟨g1, g2, v, g3, g4⟩ := run_loadVar ht hi hq' hg (p := j.toNat * sz) (rl_cs hget) (fun i v hi => by
            rw [List.getElem?_take] at hi
            split at hi
            · rw [List.getElem?_drop, List.getElem?_take] at hi
              split at hi
              · rw [hsz]; simpa using hi
              · cases hi
            · cases hi)
          exact ⟨v, g3, run _ _ v e ⟨_, hg⟩ g4⟩
        · cases h
      · cases h
    · cases h
  · rename_i g
    have e : ρ X = .pointer (some ⟨g, 0, none⟩) := hx
    split at h
    · rename_i i d xs hi hg
      split at h
      · rename_i n e' htk
        split at h
        · rename_i hsz
          cases h
          have is := ht.is hi
          obtain ⟨u, hu, hag⟩ := is.agg
          obtain ⟨j, hj, hsz2, _⟩ := is.info
          have hisAgg : ∀ w', (isAgg t).run P w' = .ok true w' := fun w' => by
            unfold isAgg
            simp only [Sem.run_bind, und_run hu, Result.andThen_ok]
            have : i.tk.agg = true := by rw [htk]; rfl
            rw [← this, ← hag]
            cases u <;> rfl
          have hsize : ∀ w', (Go.sizeOf t).run P w' = .ok i.sz w' := fun w' => by simp [Go.sizeOf, typeInfo, hj, hsz2]
          obtain ⟨g1, g2, arr, T, fz, g3, g5, g4⟩ := hH.bel.gl g _ hg
          have hb : w.heap[g]? = some (.cells arr T fz) := by rw [hH.bel.block g g1]; exact g3
          have hlen : arr.toList.length = i.sz := by rw [g4, glC_len g5, hsz]
          refine ⟨trivial, fun _ => ⟨.agg arr, ⟨g5, ?_⟩, run _ _ _ e ⟨_, hb⟩ fun w' hw' => ?_⟩⟩
          · show Value.agg arr = _
            rw [← g4]
          · have hc : ∀ (j : Nat) v, arr.toList[j]? = some v → w'.cell? ((⟨g, 0, none⟩ : Addr).add j) = some v := by
              intro j v hjv
              rw [add_plain', cell_of (hw'.trans hb), Nat.zero_add]
              simpa using hjv
            have := run_loadCells_run (P := P) (w := w') (a := ⟨g, 0, none⟩) hc
            rw [hlen] at this
            simp [loadVar, hisAgg, hsize, this]
        · cases h
      · cases h
    · cases h
  · cases h

theorem idxA_sound {ti : Nat → Option TI} (ht : TabOk P ti) {x : Cx} {t : TypeId} {s s' : SV} {q : Q} {X Y : Operand} {ρ : Operand → Value} {w : World} (h : idxA ti t s s' = some q)
    (hx : RS x s (ρ X)) (hy : RS x s' (ρ Y)) {o : Oper} (ho : o.op = .index t X Y) : OP q.hyp ∧ (OP q.pre → ∃ v, RS x q.v v ∧ Yields P w v (execOp ρ o)) := by
  unfold idxA at h
  split at h
  · rename_i d xs k j
    obtain ⟨hp, ex⟩ := hx
    have ey := rs_int hy
    split at h
    · rename_i n e _ _ _ _ hi
      have hu := tk_array (ht.is hi).tk
      split at h
      · rename_i i hi2
        split at h
        · rename_i hc
          obtain ⟨hn, hsz, hagg⟩ := hc
          cases h
          have is := ht.is hi2
          obtain ⟨u, hu2, hag⟩ := is.agg
          obtain ⟨jj, hj, hsz2, _⟩ := is.info
          refine ⟨trivial, fun hpre => ?_⟩
          simp only [OP_some] at hpre
          have hget := gt_get (d := d) (xs := xs) hpre.1 hpre.2
          have hcs := glC_get hp hget
          have hisAgg : ∀ w', (isAgg e).run P w' = .ok true w' := fun w' => by
            unfold isAgg
            simp only [Sem.run_bind, und_run hu2, Result.andThen_ok]
            rw [← hagg, ← hag]
            cases u <;> rfl
          have hsize : ∀ w', (Go.sizeOf e).run P w' = .ok d.sz w' := fun w' => by simp [Go.sizeOf, typeInfo, hj, hsz2, hsz]
          refine ⟨.agg (d.vs (gt xs j)).toArray, ⟨_, rfl, rl_cs (D.vs_rd _ hp)⟩, fun w' _ => ?_⟩
          have hjn : 0 ≤ j ∧ j < (n : Int) := by rw [hn]; exact hpre
          have hext : ((glC d xs).toArray.extract (j.toNat * d.sz) (j.toNat * d.sz + d.sz)) = (d.vs (gt xs j)).toArray := by
            rw [← hcs]
            simp [List.extract_toArray]
          simp only [execOp, ho, ex, ey, Instr.index, asIntOf, pure_bind, Sem.run_bind, und_run hu, Result.andThen_ok, Sem.run_pure, hjn, and_self, if_true, hsize, part, hisAgg, hext]
        · cases h
      · cases h
    · cases h
  · cases h

/-! ### addresses of fields and elements -/

theorem fld_get : ∀ {fs : List (Nat × Nat × Bool)} {gs : List Field} {i o s : Nat} {ag : Bool}, fldIs P fs gs = true → fs[i]? = some (o, s, ag) →
    ∃ g, gs[i]? = some g ∧ g.offset = o ∧ 0 < s ∧ (∃ j, P.info? g.type = some j ∧ j.size = s) ∧ ∃ u, P.underlying g.type = some u ∧ isAggD (some u) = ag
  | [], _, _, _, _, _, _, hi => by simp at hi
  | _ :: _, [], _, _, _, _, h, _ => by simp [fldIs] at h
  | (o', s', ag') :: fs, g :: gs, 0, o, s, ag, h, hi => by
    simp only [List.getElem?_cons_zero, Option.some.injEq, Prod.mk.injEq] at hi
    obtain ⟨rfl, rfl, rfl⟩ := hi
    simp only [fldIs, Bool.and_eq_true, beq_iff_eq, decide_eq_true_eq] at h
    obtain ⟨⟨⟨⟨⟨⟨h1, h2⟩, h3⟩, h4⟩, h5⟩, h6⟩, h7⟩ := h
    obtain ⟨j, hj⟩ := Option.isSome_iff_exists.1 h3
    obtain ⟨u, hu⟩ := Option.isSome_iff_exists.1 h4
    refine ⟨g, rfl, h1, h6, ⟨j, hj, by simpa [Program.cellsOf, hj] using h2⟩, u, hu, by rw [← h5, hu]⟩
  | (_, _, _) :: fs, g :: gs, i + 1, o, s, ag, h, hi => by
    simp only [fldIs, Bool.and_eq_true] at h
    simpa using fld_get h.2 (by simpa using hi)

theorem run_fieldAt {ti : Nat → Option TI} (ht : TabOk P ti) {t : TypeId} {fs : List (Nat × Nat × Bool)} {s b : Nat} {z : List C} {dd : D} (hi : ti t = some ⟨.strct fs, s, b, z, dd⟩) {f o' s' : Nat} {ag : Bool}
    (hf : fs[f]? = some (o', s', ag)) (k p : Nat) (w : World) : (Instr.fieldAt t (.pointer (some ⟨k, p, none⟩)) f).run P w = .ok (.pointer (some ⟨k, p + o', none⟩)) w := by
  obtain ⟨fl, hu, hfl⟩ := tk_strct (ht.is hi).tk
  obtain ⟨g, hg, ho, hs, ⟨j, hj, hjs⟩, _⟩ := fld_get hfl hf
  have hg' : fl[f]? = some g := by simpa using hg
  have h0 : ¬ s' = 0 := by omega
  simp [Instr.fieldAt, und_run hu, hg', Instr.sureAddr, fieldPlace, Go.sizeOf, typeInfo, hj, hjs, h0, add_plain', ho]

theorem fadV_sound {ti : Nat → Option TI} (ht : TabOk P ti) {x : Cx} {t : TypeId} {f : Nat} {s : SV} {q : Q} {X : Operand} {ρ : Operand → Value} {w : World} (h : fadV (ti t) f s = some q)
    (hx : RS x s (ρ X)) {o : Oper} (ho : o.op = .fieldAddr t X f) : OP q.hyp ∧ (OP q.pre → ∃ v, RS x q.v v ∧ Yields P w v (execOp ρ o)) := by
  unfold fadV at h
  split at h
  · rename_i b off
    obtain ⟨hb, k, hk, e⟩ := hx
    split at h
    · rename_i fs _ _ _ _ hi
      split at h
      · rename_i o' _ _ hf
        cases h
        exact ⟨trivial, fun _ => ⟨_, ⟨hb, k, hk, rfl⟩, fun w' _ => by simp [execOp, ho, e, run_fieldAt ht hi hf]⟩⟩
      · cases h
    · cases h
  · rename_i d y off
    obtain ⟨k, p, cells, T, fz, cs, e, hr⟩ := hx
    split at h
    · rename_i fs _ _ _ _ hi
      split at h
      · rename_i o' _ _ hf
        cases h
        exact ⟨trivial, fun _ => ⟨_, ⟨k, p, cells, T, fz, cs, rfl, hr⟩, fun w' _ => by simp [execOp, ho, e, run_fieldAt ht hi hf, Nat.add_assoc]⟩⟩
      · cases h
    · cases h
  · rename_i b j sz off
    obtain ⟨hb, k, hk, e⟩ := hx
    split at h
    · rename_i fs _ _ _ _ hi
      split at h
      · rename_i o' _ _ hf
        cases h
        exact ⟨trivial, fun _ => ⟨_, ⟨hb, k, hk, rfl⟩, fun w' _ => by simp [execOp, ho, e, run_fieldAt ht hi hf, Nat.add_assoc]⟩⟩
      · cases h
    · cases h
  · cases h

theorem run_part {t : TypeId} {u : TypeDesc} {s : Nat} {j : TypeInfo} (hu : P.underlying t = some u) (hj : P.info? t = some j) (hs : j.size = s) (cs : Array Value) (o : Nat) (w : World) :
    (part t cs o).run P w = if isAggD (some u) = true then .ok (.agg (cs.extract o (o + s))) w else match cs[o]? with | some v => .ok v w | none => .halt (.stuck "part: no such cell") w := by
  have h1 : (isAgg t).run P w = .ok (isAggD (some u)) w := by
    unfold isAgg
    simp only [Sem.run_bind, und_run hu, Result.andThen_ok]
    cases u <;> rfl
  have h2 : (Go.sizeOf t).run P w = .ok s w := by simp [Go.sizeOf, typeInfo, hj, hs]
  simp only [part, Sem.run_bind, h1, Result.andThen_ok, Sem.run_ite]
  split
  · simp [h2]
  · cases cs[o]? <;> rfl

theorem fldV_sound {ti : Nat → Option TI} (ht : TabOk P ti) {x : Cx} {t : TypeId} {f : Nat} {s : SV} {q : Q} {X : Operand} {ρ : Operand → Value} {w : World} (h : fldV (ti t) f s = some q)
    (hx : RS x s (ρ X)) {o : Oper} (ho : o.op = .field t X f) : OP q.hyp ∧ (OP q.pre → ∃ v, RS x q.v v ∧ Yields P w v (execOp ρ o)) := by
  unfold fldV at h
  split at h
  · rename_i l
    obtain ⟨vs, e, hl⟩ := hx
    split at h
    · rename_i fs _ _ _ _ hi
      obtain ⟨fl, hu, hfl⟩ := tk_strct (ht.is hi).tk
      have step : ∀ {o' s' : Nat} {ag : Bool} (v : Value), fs[f]? = some (o', s', ag) → (if ag = true then v = .agg (vs.extract o' (o' + s')) else vs[o']? = some v) → Yields P w v (execOp ρ o) := by
        intro o' s' ag v hf hv w' _
        obtain ⟨g, hg, hgo, hs, ⟨j, hj, hjs⟩, u, hgu, hag⟩ := fld_get hfl hf
        have hg' : fl[f]? = some g := by simpa using hg
        have hp := run_part hgu hj hjs vs g.offset w'
        rw [hag, hgo] at hp
        cases ag with
        | true => simp at hv hp; simp [execOp, ho, e, Instr.field, und_run hu, hg', asAgg, hgo, hp, hv]
        | false => simp at hv hp; simp [execOp, ho, e, Instr.field, und_run hu, hg', asAgg, hgo, hp, hv]
      split at h
      · rename_i o' s' hf
        split at h
        · cases h
          refine ⟨trivial, fun _ => ⟨_, ⟨vs.extract o' (o' + s'), rfl, ?_⟩, step _ hf (by simp)⟩⟩
          have := RL.take s' (RL.drop o' hl)
          simpa [List.take_drop, Nat.add_comm] using this
        · cases h
      · rename_i o' s' hf
        split at h
        · rename_i c hc
          cases h
          obtain ⟨v, h1, h2⟩ := RL.get hl hc
          exact ⟨trivial, fun _ => ⟨v, h2, step v hf (by simpa using h1)⟩⟩
        · cases h
      · cases h
    · cases h
  · cases h

theorem idxV_sound {ti : Nat → Option TI} (ht : TabOk P ti) {x : Cx} {t : TypeId} {s s' : SV} {q : Q} {X Y : Operand} {ρ : Operand → Value} {w : World} (h : idxV (ti t) s s' = some q)
    (hx : RS x s (ρ X)) (hy : RS x s' (ρ Y)) {o : Oper} (ho : o.op = .index t X Y) : OP q.hyp ∧ (OP q.pre → ∃ v, RS x q.v v ∧ Yields P w v (execOp ρ o)) := by
  unfold idxV at h
  split at h
  · rename_i s k j
    have ex := rs_str hx
    have ey := rs_int hy
    split at h
    · rename_i hi
      cases h
      have hu := tk_str (ht.is hi).tk
      refine ⟨trivial, fun hp => ⟨_, rfl, fun w' _ => ?_⟩⟩
      simp only [OP_some] at hp
      have hlt : j.toNat < s.length := by omega
      have hb : (if 0 ≤ j then (ByteArray.mk s.toArray)[j.toNat]? else none) = some (s[j.toNat]'hlt) := by
        rw [if_pos hp.1]
        have : j.toNat < (ByteArray.mk s.toArray).size := by simpa [ByteArray.size] using hlt
        rw [getElem?_pos (ByteArray.mk s.toArray) j.toNat this]
        rfl
      have e2 : (s[j.toNat]? : Option UInt8) = some (s[j.toNat]'hlt) := List.getElem?_eq_getElem hlt
      simp only [execOp, ho, ex, ey, Instr.index, asIntOf, pure_bind, Sem.run_bind, und_run hu, Result.andThen_ok, hb, Sem.run_pure, bt, List.getD, e2, Option.getD_some]
    · cases h
  · cases h

theorem run_indexAt {t e : TypeId} {n c : Nat} {a : Addr} {j : Int} {kk : IntKind} {s : Nat} {i : TypeInfo} (hu : P.underlying t = some (.slice e)) (hi : P.info? e = some i) (hs : i.size = s)
    (h0 : 0 ≤ j) (h1 : j < n) (w : World) : (Instr.indexAt t (.slice (some a) n c) (.int kk j)).run P w = .ok (.pointer (some (a.add (j.toNat * s)))) w := by
  simp [Instr.indexAt, und_run hu, asIntOf, h0, h1, Go.sizeOf, typeInfo, hi, hs]

theorem sz_some {ti : Nat → Option TI} {e s : Nat} (h : sz? ti e = some s) : ∃ i, ti e = some i ∧ i.sz = s := by
  unfold sz? at h
  split at h
  · rename_i i hi; cases h; exact ⟨i, hi, rfl⟩
  · cases h

theorem run_arrAt {t e : TypeId} {n j s k p : Nat} {kk : IntKind} {i : TypeInfo} (hu : P.underlying t = some (.array n e)) (hi : P.info? e = some i) (hs : i.size = s)
    (h1 : j < n) (w : World) : (Instr.indexAt t (.pointer (some ⟨k, p, none⟩)) (.int kk (Int.ofNat j))).run P w = .ok (.pointer (some ⟨k, p + j * s, none⟩)) w := by
  have h0 : (0 : Int) ≤ (j : Int) := by omega
  simp [Instr.indexAt, h1, und_run hu, asIntOf, Go.sizeOf, typeInfo, hi, hs, Instr.sureAddr, add_plain']

theorem arrV_run {ti : Nat → Option TI} (ht : TabOk P ti) {t : TypeId} {j : Int} {p : Nat} (h : arrV ti t j = some p) (k o : Nat) (kk : IntKind) (w : World) :
    (Instr.indexAt t (.pointer (some ⟨k, o, none⟩)) (.int kk j)).run P w = .ok (.pointer (some ⟨k, o + p, none⟩)) w := by
  unfold arrV at h
  split at h
  · split at h
    · rename_i j n e _ _ _ _ hi
      split at h
      · rename_i s hs
        split at h
        · rename_i hlt
          cases h
          have hu := tk_array (ht.is hi).tk
          obtain ⟨i, hi', rfl⟩ := sz_some hs
          obtain ⟨j', hj1, hj2, _⟩ := (ht.is hi').info
          rw [← hj2]
          exact run_arrAt hu hj1 rfl hlt w
        · cases h
      · cases h
    · cases h
  · cases h

theorem maxLen_eq : maxLen = 9223372036854775807 := rfl

theorem iadV_sound {ti : Nat → Option TI} (ht : TabOk P ti) {w0 : W0} {hp hq : List (Nat × Ob)} {nx : Nat → Prop} {η : Nat → Option Nat × Value} {w : World} (hH : RepH w0 hp nx η w) (hs : ∀ b o, lk hq b = some o → lk hp b = some o) {t : TypeId} {s s' : SV} {q : Q}
    {X Y : Operand} {ρ : Operand → Value} (h : iadV ti t hq s s' = some q) (hx : RS (cxS w0 hp nx η w) s (ρ X)) (hy : RS (cxS w0 hp nx η w) s' (ρ Y)) {o : Oper} (ho : o.op = .indexAddr t X Y) :
    OP q.hyp ∧ (OP q.pre → ∃ v, RS (cxS w0 hp nx η w) q.v v ∧ Yields P w v (execOp ρ o)) := by
  unfold iadV at h
  split at h
  · rename_i d xs kk j
    have ey := rs_int hy
    have hx' : Rd w (okS w0 hp η w) (.list d) xs [ρ X] := hx
    simp only [Rd] at hx'
    obtain ⟨A, c, e, hc, hm, hn, hr⟩ := hx'
    simp only [List.cons.injEq, and_true] at e
    split at h
    · rename_i e' _ _ _ _ hi
      have hu := tk_slice (ht.is hi).tk
      split at h
      · rename_i hsz
        cases h
        obtain ⟨ie, hie, hie2⟩ := sz_some hsz
        obtain ⟨j', hj', hj2, _⟩ := (ht.is hie).info
        refine ⟨by simp only [maxLen_eq] at hm; simp only [OP_some]; omega, fun hp => ?_⟩
        simp only [OP_some] at hp
        rcases hr with hr | ⟨k, off, cells, T, fz, hA, hok, hb, hf⟩
        · subst hr; simp at hp; omega
        · subst hA
          have hget := RdF.get (fun _ _ => Rd.len) hf (gt_get hp.1 hp.2)
          refine ⟨.pointer (some ⟨k, off + j.toNat * d.sz + 0, none⟩), ⟨k, off + j.toNat * d.sz, cells, T, fz, _, rfl, hok, hb, hget, ?_⟩, fun w' _ => ?_⟩
          · have hlt : j.toNat < xs.length := by omega
            have : (j.toNat + 1) * d.sz ≤ xs.length * d.sz := Nat.mul_le_mul_right _ (by omega)
            rw [List.drop_take, List.drop_drop, List.take_take]
            congr 1
            rw [Nat.add_mul] at this
            omega
          · simp [execOp, ho, e, ey, run_indexAt hu hj' hj2 hp.1 hp.2, add_plain', hie2]
      · cases h
    · cases h
  · rename_i b kk j
    have ey := rs_int hy
    obtain ⟨hb, e, _⟩ := hx
    split at h
    · rename_i e' _ _ _ _ _ d xs hi hlk
      have hu := tk_slice (ht.is hi).tk
      split at h
      · rename_i hsz
        cases h
        obtain ⟨ie, hie, hie2⟩ := sz_some hsz
        obtain ⟨j', hj', hj2, _⟩ := (ht.is hie).info
        obtain ⟨cs, r1, r2, r3⟩ := hH.obs b _ (hs _ _ hlk)
        rcases r2.2 with ⟨hv, hn⟩ | ⟨g, cap, cur, hv, _, hg, hc1, hc2, hc3, hc4⟩
        · refine ⟨by simp only [OP_some]; omega, fun hp => ?_⟩
          simp only [OP_some] at hp
          omega
        · refine ⟨by simp only [maxLen_eq] at hc2; simp only [OP_some]; omega, fun hp => ?_⟩
          simp only [OP_some] at hp
          have hv' : ρ X = .slice (some ⟨g, 0, none⟩) xs.length cap := e.trans hv
          have hk : (η b).1 = some g := by
            have : (η b).1 = (η b).2.ownBlock := r1
            rw [this]
            have hv2 : (η b).2 = .slice (some ⟨g, 0, none⟩) xs.length cap := hv
            rw [hv2]; rfl
          exact ⟨_, ⟨hb, g, hk, rfl⟩, fun w' _ => by simp [execOp, ho, hv', ey, run_indexAt hu hj' hj2 hp.1 hp.2, add_plain', hie2]⟩
      · cases h
    · cases h
  · rename_i b off kk j
    have ey := rs_int hy
    obtain ⟨hb, k, hk, e⟩ := hx
    split at h
    · rename_i T d xs c0 hlk
      split at h
      · rename_i n e' _ _ _ _ hi
        split at h
        · rename_i ho0
          have ho0 := Nat.eq_of_beq_eq_true ho0
          subst ho0
          split at h
          · rename_i hsz
            cases h
            refine ⟨trivial, fun hp => ?_⟩
            simp only [OP_some] at hp
            have hu := tk_array (ht.is hi).tk
            obtain ⟨i, hi', hi2⟩ := sz_some hsz
            obtain ⟨j', hj1, hj2, _⟩ := (ht.is hi').info
            have hjn : ((j.toNat : Nat) : Int) = j := by omega
            have hr := fun w => run_arrAt (P := P) (t := t) (kk := kk) (k := k) (p := 0) (j := j.toNat) hu hj1 (show j'.size = d.sz by rw [hj2, hi2]) (by omega) w
            refine ⟨_, ⟨hb, k, hk, rfl⟩, fun w' _ => ?_⟩
            have hr' := hr w'
            rw [show Int.ofNat j.toNat = j from hjn] at hr'
            simp only [execOp, ho, e, ey, hr', Sem.run_bind, Result.andThen_ok, Sem.run_pure, Nat.zero_add, Nat.add_zero]
          · cases h
        · cases h
      · cases h
    · split at h
      · rename_i p hp
        cases h
        exact ⟨trivial, fun _ => ⟨_, ⟨hb, k, hk, rfl⟩, fun w' _ => by simp [execOp, ho, e, ey, arrV_run ht hp]⟩⟩
      · cases h
  · rename_i b n kk j
    have ey := rs_int hy
    obtain ⟨hb, k, hk, e⟩ := hx
    split at h
    · rename_i e' _ _ _ _ hi
      have hu := tk_slice (ht.is hi).tk
      split at h
      · rename_i m
        split at h
        · rename_i hlt
          have hlt : m < n := by simpa [Nat.blt_eq] using hlt
          split at h
          · rename_i sz hsz
            cases h
            obtain ⟨ie, hie, hie2⟩ := sz_some hsz
            obtain ⟨j', hj', hj2, _⟩ := (ht.is hie).info
            exact ⟨trivial, fun _ => ⟨_, ⟨hb, k, hk, rfl⟩, fun w' _ => by simp [execOp, ho, e, ey, run_indexAt hu hj' hj2 (j := (m : Int)) (n := n) (Int.natCast_nonneg m) (Int.ofNat_lt.2 hlt), add_plain', hie2]⟩⟩
          · cases h
        · cases h
      · cases h
    · cases h
  · rename_i d y off kk j
    have ey := rs_int hy
    obtain ⟨k, q0, cells, T, fz, cs, e, hr⟩ := hx
    split at h
    · rename_i p hp
      cases h
      exact ⟨trivial, fun _ => ⟨_, ⟨k, q0, cells, T, fz, cs, rfl, hr⟩, fun w' _ => by simp [execOp, ho, e, ey, arrV_run ht hp, Nat.add_assoc]⟩⟩
    · cases h
  · rename_i b o1 sz n c kk j
    have ey := rs_int hy
    obtain ⟨hb, hnc, hcm, k, o', hk, e, ho'⟩ := hx
    split at h
    · rename_i e' _ _ _ _ hi
      have hu := tk_slice (ht.is hi).tk
      split at h
      · rename_i hsz
        cases h
        obtain ⟨ie, hie, hie2⟩ := sz_some hsz
        obtain ⟨j', hj', hj2, _⟩ := (ht.is hie).info
        refine ⟨trivial, fun hp => ?_⟩
        simp only [OP_some] at hp
        have e2 : ((o1 : Int) + j).toNat * sz + 0 = o' + j.toNat * sz := by
          rw [ho' (.inl (by omega)), show ((o1 : Int) + j).toNat = o1 + j.toNat by omega, Nat.add_mul, Nat.add_zero]
        exact ⟨_, ⟨hb, k, hk, rfl⟩, fun w' _ => by simp only [execOp, ho, e, ey, run_indexAt hu hj' hj2 hp.1 hp.2, add_plain', hie2, e2, Sem.run_bind, Result.andThen_ok, Sem.run_pure]⟩
      · cases h
    · cases h
  · rename_i g kk j
    have ey := rs_int hy
    have e : ρ X = .pointer (some ⟨g, 0, none⟩) := hx
    split at h
    · rename_i n e' _ _ _ _ d l hi hg
      split at h
      · rename_i hsz
        cases h
        refine ⟨trivial, fun hp => ?_⟩
        simp only [OP_some] at hp
        obtain ⟨⟨hp0, hp1⟩, hp2⟩ := hp
        have hu := tk_array (ht.is hi).tk
        obtain ⟨i, hi', hi2⟩ := sz_some hsz
        obtain ⟨j', hj1, hj2, _⟩ := (ht.is hi').info
        have hjn : ((j.toNat : Nat) : Int) = j := by omega
        have hr := fun w => run_arrAt (P := P) (t := t) (kk := kk) (k := g) (p := 0) (j := j.toNat) hu hj1 (show j'.size = d.sz by rw [hj2, hi2]) (by omega) w
        obtain ⟨g1, g2, arr, T, fz, g3, g5, g4⟩ := hH.bel.gl g _ hg
        have hlt : g < w.heap.size := Nat.lt_of_lt_of_le g1.1 hH.bel.size
        have hget := gt_get (d := d) (xs := l) hp0 hp2
        refine ⟨_, ⟨g, 0 + j.toNat * d.sz, arr, T, fz, d.vs (gt l j), rfl, ⟨⟨hlt, fun _ => g2⟩, fun b hb eb => (hH.new b g hb eb).1 g1⟩, by show w.heap[g]? = _; rw [hH.bel.block g g1]; exact g3, D.vs_rd _ g5, ?_⟩, fun w' _ => ?_⟩
        · rw [g4, Nat.zero_add]
          exact glC_get g5 hget
        · have hr' := hr w'
          rw [show Int.ofNat j.toNat = j from hjn] at hr'
          simp only [execOp, ho, e, ey, hr', Sem.run_bind, Result.andThen_ok, Sem.run_pure, Nat.zero_add, Nat.add_zero]
      · cases h
    · cases h
  · cases h

end OE

/- OE, part 3b: cuts, lengths, function values, structs out of parts; all quiet operations together. Own work; generic over the program. -/
namespace OE
open Go Go.RowKit

variable {P : Program}

theorem run_bound {v : Value} {kk : IntKind} {a : Int} (hv : v = .int kk a) {y : Nat} {code : BoundsCode} (h0 : 0 ≤ a) (h1 : a ≤ y) (w : World) : (Instr.sliceBound v y code).run P w = .ok a.toNat w := by
  subst hv
  simp [Instr.sliceBound, asIntOf, h0, h1]

theorem run_bounds {x : Cx} {n cap : Nat} (hn : n ≤ cap) {lo hi : Option SV} {lv hv : Option Value} {p : Prop} {a b : Nat} (h : cutB n lo hi = some (p, a, b))
    (hl : ∀ s, lo = some s → ∃ v, lv = some v ∧ RS x s v) (hl' : lo = none → lv = none) (hh : ∀ s, hi = some s → ∃ v, hv = some v ∧ RS x s v) (hh' : hi = none → hv = none) (hp : p) (isS : Bool) :
    a ≤ b ∧ b ≤ n ∧ ∀ w, (Instr.sliceBounds isS n cap lv hv none).run P w = .ok (a, b, cap) w := by
  unfold cutB at h
  split at h
  · cases h
    rw [hl' rfl, hh' rfl]
    exact ⟨Nat.zero_le _, Nat.le_refl _, fun w => by simp [Instr.sliceBounds]⟩
  · rename_i k a
    cases h
    obtain ⟨v, e, hv⟩ := hl _ rfl
    have hv := rs_int hv
    rw [e, hh' rfl]
    refine ⟨by omega, Nat.le_refl _, fun w => ?_⟩
    simp [Instr.sliceBounds, run_bound hv hp.1 hp.2]
  · rename_i k b
    cases h
    obtain ⟨v, e, hv⟩ := hh _ rfl
    have hv := rs_int hv
    rw [e, hl' rfl]
    refine ⟨Nat.zero_le _, by omega, fun w => ?_⟩
    have : b ≤ (cap : Int) := by omega
    simp [Instr.sliceBounds, run_bound hv hp.1 this]
  · rename_i k a k' b
    cases h
    obtain ⟨v, e, hv⟩ := hh _ rfl
    obtain ⟨u, e', hu⟩ := hl _ rfl
    have hv := rs_int hv
    have hu := rs_int hu
    obtain ⟨⟨h1, h2⟩, h3, h4⟩ := hp
    rw [e, e']
    refine ⟨by omega, by omega, fun w => ?_⟩
    have hb : b ≤ (cap : Int) := by omega
    have ha : a ≤ (b.toNat : Int) := by omega
    simp [Instr.sliceBounds, run_bound hv h1 hb, run_bound hu h3 ha]
  · cases h

theorem map_g {x : Cx} {g : Operand → SV} {ρ : Operand → Value} (hg : ∀ o, RS x (g o) (ρ o)) (lo : Option Operand) : (∀ s, lo.map g = some s → ∃ v, lo.map ρ = some v ∧ RS x s v) ∧ (lo.map g = none → lo.map ρ = none) := by
  cases lo with
  | none => exact ⟨fun s h => (by simp at h), fun _ => rfl⟩
  | some o => exact ⟨fun s h => ⟨_, rfl, by simp at h; subst h; exact hg o⟩, fun h => by simp at h⟩

theorem cutV_sound {ti : Nat → Option TI} (ht : TabOk P ti) {x : Cx} {g : Operand → SV} {ρ : Operand → Value} (hg : ∀ o, RS x (g o) (ρ o)) {t : TypeId} {lo hi : Option Operand} {X : Operand} {q : Q} {w : World}
    (h : cutV ti t (lo.map g) (hi.map g) (g X) = some q) {o : Oper} (ho : o.op = .slice t X lo hi none) : OP q.hyp ∧ (OP q.pre → ∃ v, RS x q.v v ∧ Yields P w v (execOp ρ o)) := by
  have hX := hg X
  unfold cutV at h
  split at h
  · rename_i s hs
    rw [hs] at hX
    have ex := rs_str hX
    split at h
    · rename_i p a b hi' hc
      cases h
      have hu := tk_str (ht.is hi').tk
      refine ⟨trivial, fun hp => ?_⟩
      obtain ⟨h1, h2, hr⟩ := run_bounds (P := P) (cap := s.length) (Nat.le_refl _) hc (map_g hg lo).1 (map_g hg lo).2 (map_g hg hi).1 (map_g hg hi).2 hp false
      refine ⟨_, rfl, fun w' _ => ?_⟩
      have e1 : (ByteArray.mk s.toArray).size = s.length := by simp [ByteArray.size]
      have e2 : (ByteArray.mk s.toArray).extract a b = ByteArray.mk ((s.take b).drop a).toArray := by
        apply ByteArray.ext
        simp [List.drop_take]
      simp [execOp, ho, ex, Instr.sliceAt, Instr.slice, und_run hu, e1, hr, e2]
    · cases h
  · rename_i d xs hs
    rw [hs] at hX
    have hx' : Rd x.w x.ok (.list d) xs [ρ X] := hX
    simp only [Rd] at hx'
    obtain ⟨A, c, e, hc, hm, hn, hr⟩ := hx'
    simp only [List.cons.injEq, and_true] at e
    split at h
    · rename_i e' _ _ _ _ p a b hi' hcb
      have hu := tk_slice (ht.is hi').tk
      split at h
      · rename_i hsz
        cases h
        obtain ⟨ie, hie, hie2⟩ := sz_some hsz
        obtain ⟨j', hj', hj2, _⟩ := (ht.is hie).info
        refine ⟨trivial, fun hp => ?_⟩
        obtain ⟨h1, h2, hrun⟩ := run_bounds (P := P) (cap := c) hc hcb (map_g hg lo).1 (map_g hg lo).2 (map_g hg hi).1 (map_g hg hi).2 hp true
        refine ⟨.slice (if c = a then A else A.map (·.add (a * d.sz))) (b - a) (c - a), ?_, fun w' _ => ?_⟩
        · have hlen : ((xs.take b).drop a).length = b - a := by simp; omega
          refine (show Rd x.w x.ok (.list d) _ [_] from ?_)
          simp only [Rd]
          refine ⟨_, c - a, by rw [hlen], by omega, by omega, fun hA => ?_, ?_⟩
          · split at hA
            · rw [hn hA]; omega
            · simp at hA; rw [hn hA]; omega
          · rcases hr with hr | ⟨k, off, cells, T, fz, hA, hok', hb, hf⟩
            · subst hr; left; simp
            · by_cases hca : c = a
              · left
                apply List.eq_nil_of_length_eq_zero
                omega
              · right
                refine ⟨k, off + a * d.sz, cells, T, fz, by rw [if_neg hca, hA]; simp [add_plain'], hok', hb, ?_⟩
                have := RdF.drop (fun _ _ => Rd.len) a (RdF.take (fun _ _ => Rd.len) b hf)
                rw [hlen]
                have e3 : (((cells.toList.drop off).take (xs.length * d.sz)).take (b * d.sz)).drop (a * d.sz) = (cells.toList.drop (off + a * d.sz)).take ((b - a) * d.sz) := by
                  have hbx : b * d.sz ≤ xs.length * d.sz := Nat.mul_le_mul_right _ h2
                  rw [List.take_take, Nat.min_eq_left hbx, List.drop_take, List.drop_drop, Nat.sub_mul]
                rw [← e3]
                exact this
        · simp [execOp, ho, e, Instr.sliceAt, Instr.slice, und_run hu, hrun, Go.sizeOf, typeInfo, hj', hj2, hie2]
      · cases h
    · cases h
  · cases h

theorem bounds_hi (isS : Bool) (n c : Nat) (lv : Option Value) (u : Value) : Instr.sliceBounds isS n c lv (some u) none = Instr.sliceBounds isS c c lv (some u) none := rfl

theorem cutS_sound {ti : Nat → Option TI} (ht : TabOk P ti) {x : Cx} {g : Operand → SV} {ρ : Operand → Value} (hg : ∀ o, RS x (g o) (ρ o)) {t : TypeId} {lo hi : Option Operand} {X : Operand} {q : Q} {w : World}
    (h : cutS ti t (lo.map g) (hi.map g) (g X) = some q) {o : Oper} (ho : o.op = .slice t X lo hi none) : OP q.hyp ∧ (OP q.pre → ∃ v, RS x q.v v ∧ Yields P w v (execOp ρ o)) := by
  have hX := hg X
  unfold cutS at h
  split at h
  · rename_i b o1 sz n c hs
    rw [hs] at hX
    obtain ⟨hnm, hnc, hcm, k, o', hk, e, ho'⟩ := hX
    split at h
    · rename_i e' _ _ _ _ hi'
      have hu := tk_slice (ht.is hi').tk
      split at h
      · rename_i hsz
        obtain ⟨ie, hie, hie2⟩ := sz_some hsz
        obtain ⟨j', hj', hj2, _⟩ := (ht.is hie).info
        have fin : ∀ (a h : Nat), a ≤ h → h ≤ c → (∀ w, (Instr.sliceBounds true n c (lo.map ρ) (hi.map ρ) none).run P w = .ok (a, h, c) w) →
            ∃ v, RS x (.c (.sub b (o1 + a) sz (h - a) (c - a))) v ∧ Yields P w v (execOp ρ o) := by
          intro a h h1 h2 hrun
          refine ⟨.slice (if c = a then some ⟨k, o', none⟩ else (some ⟨k, o', none⟩ : Option Addr).map (·.add (a * sz))) (h - a) (c - a), ?_, fun w' _ => ?_⟩
          · refine ⟨hnm, by omega, by omega, k, if c = a then o' else o' + a * sz, hk, ?_, fun hc => ?_⟩
            · split <;> simp [add_plain']
            · split
              · have : o1 = 0 ∧ a = 0 := by omega
                rw [ho' (.inr this.1), this.1, this.2]
              · rw [ho' (by omega), Nat.add_mul]
          · simp [execOp, ho, e, Instr.sliceAt, Instr.slice, und_run hu, hrun, Go.sizeOf, typeInfo, hj', hj2, hie2]
        split at h
        · rename_i hn
          split at h
          · rename_i p a h' hcb
            cases h
            refine ⟨trivial, fun hp => ?_⟩
            obtain ⟨h1, h2, hrun⟩ := run_bounds (P := P) (x := x) (cap := c) hnc hcb (map_g hg lo).1 (map_g hg lo).2 (hv := none) (by simp) (by simp) hp true
            have hh : hi.map ρ = none := (map_g hg hi).2 hn
            exact fin a h' h1 (by omega) (by rw [hh]; exact hrun)
          · cases h
        · rename_i s hn
          split at h
          · rename_i p a h' hcb
            cases h
            refine ⟨trivial, fun hp => ?_⟩
            obtain ⟨u, hu1, hu2⟩ := (map_g hg hi).1 s hn
            obtain ⟨h1, h2, hrun⟩ := run_bounds (P := P) (x := x) (cap := c) (Nat.le_refl c) hcb (map_g hg lo).1 (map_g hg lo).2 (hv := some u) (fun s' hs' => by cases hs'; exact ⟨u, rfl, hu2⟩) (by simp) hp true
            exact fin a h' h1 h2 (by rw [hu1, bounds_hi]; exact hrun)
          · cases h
      · cases h
    · cases h
  · rename_i hs
    rw [hs] at hX
    obtain ⟨e, hone⟩ := hX
    split at h
    · rename_i e' _ _ _ _ hi'
      have hu := tk_slice (ht.is hi').tk
      split at h
      · rename_i sz hsz
        obtain ⟨ie, hie, hie2⟩ := sz_some hsz
        obtain ⟨j', hj', hj2, _⟩ := (ht.is hie).info
        split at h
        · rename_i p a b hcb
          cases h
          refine ⟨trivial, fun hp => ?_⟩
          obtain ⟨h1, h2, hrun⟩ := run_bounds (P := P) (x := x) (cap := 0) (Nat.le_refl 0) hcb (map_g hg lo).1 (map_g hg lo).2 (map_g hg hi).1 (map_g hg hi).2 hp true
          have ea : a = 0 := by omega
          have eb : b = 0 := by omega
          subst ea eb
          refine ⟨.slice none 0 0, ⟨rfl, rfl⟩, fun w' _ => ?_⟩
          simp [execOp, ho, e, Instr.sliceAt, Instr.slice, und_run hu, hrun, Go.sizeOf, typeInfo, hj']
        · cases h
      · cases h
    · cases h
  · cases h

theorem cut3_sound {ti : Nat → Option TI} (ht : TabOk P ti) {w0 : W0} {hp hq : List (Nat × Ob)} {nx : Nat → Prop} {η : Nat → Option Nat × Value} {w : World} (hH : RepH w0 hp nx η w) (hs : ∀ b o, lk hq b = some o → lk hp b = some o) {t : TypeId} {s sa sh sm : SV} {q : Q}
    {X A H M : Operand} {ρ : Operand → Value} (h : cut3 hq (ti t) ti s sa sh sm = some q) (hx : RS (cxS w0 hp nx η w) s (ρ X)) (ha : RS (cxS w0 hp nx η w) sa (ρ A)) (hh : RS (cxS w0 hp nx η w) sh (ρ H)) (hm : RS (cxS w0 hp nx η w) sm (ρ M))
    {o : Oper} (ho : o.op = .slice t X (some A) (some H) (some M)) : OP q.hyp ∧ (OP q.pre → ∃ v, RS (cxS w0 hp nx η w) q.v v ∧ Yields P w v (execOp ρ o)) := by
  unfold cut3 at h
  split at h
  · rename_i x ka a kh hh' km m
    have ea := rs_int ha
    have eh := rs_int hh
    have em := rs_int hm
    split at h
    · rename_i e' _ _ _ _ hi'
      have hu := tk_slice (ht.is hi').tk
      split at h
      · rename_i sz hsz
        obtain ⟨ie, hie, hie2⟩ := sz_some hsz
        obtain ⟨j', hj', hj2, _⟩ := (ht.is hie).info
        have fin : ∀ (B : Option Addr) (n c : Nat), ρ X = .slice B n c → n ≤ c → (0 ≤ a ∧ a ≤ hh' ∧ hh' ≤ m ∧ m ≤ n) → ∃ v, RS (cxS w0 hp nx η w) .un v ∧ Yields P w v (execOp ρ o) := by
          rintro B n c eX hnc ⟨p1, p2, p3, p4⟩
          refine ⟨.slice (if m.toNat = a.toNat then B else B.map (·.add (a.toNat * sz))) (hh'.toNat - a.toNat) (m.toNat - a.toNat), trivial, fun w' _ => ?_⟩
          have r1 : (Instr.sliceBound (ρ M) c .slice3Acap).run P w' = .ok m.toNat w' := run_bound em (by omega) (by omega) w'
          have r2 : (Instr.sliceBound (ρ H) m.toNat .slice3B).run P w' = .ok hh'.toNat w' := run_bound eh (by omega) (by omega) w'
          have r3 : (Instr.sliceBound (ρ A) hh'.toNat .slice3C).run P w' = .ok a.toNat w' := run_bound ea (by omega) (by omega) w'
          have rb : (Instr.sliceBounds true n c (some (ρ A)) (some (ρ H)) (some (ρ M))).run P w' = .ok (a.toNat, hh'.toNat, m.toNat) w' := by
            simp [Instr.sliceBounds, r1, r2, r3]
          simp [execOp, ho, eX, Instr.sliceAt, Instr.slice, und_run hu, rb, Go.sizeOf, typeInfo, hj', hj2, hie2]
        split at h
        · rename_i d xs
          cases h
          have hx' : Rd w (okS w0 hp η w) (.list d) xs [ρ X] := hx
          simp only [Rd] at hx'
          obtain ⟨B, c, e, hc, _⟩ := hx'
          simp only [List.cons.injEq, and_true] at e
          exact ⟨trivial, fun hp => fin B xs.length c e hc hp⟩
        · rename_i b o1 sz2 n c
          cases h
          obtain ⟨_, hnc, _, k, o', _, e, _⟩ := hx
          exact ⟨trivial, fun hp => fin _ n c e hnc hp⟩
        · rename_i b
          obtain ⟨hb, e, _⟩ := hx
          split at h
          · rename_i T d xs hlk
            cases h
            obtain ⟨cs, r1, r2, r3⟩ := hH.obs b _ (hs _ _ hlk)
            refine ⟨trivial, fun hp => ?_⟩
            rcases r2.2 with ⟨hv, hn⟩ | ⟨g, cap, cur, hv, _, hg, hc1, _⟩
            · exact fin none 0 0 (e.trans hv) (Nat.le_refl _) (by rw [← hn]; exact hp)
            · exact fin _ xs.length cap (e.trans hv) hc1 hp
          · cases h
        · cases h
      · cases h
    · cases h
  · cases h

theorem capV_sound {ti : Nat → Option TI} (ht : TabOk P ti) {x : Cx} {w : World} {t : TypeId} {s : SV} {q : Q}
    {X : Operand} {ρ : Operand → Value} (h : capV (ti t) s = some q) (hx : RS x s (ρ X)) {o : Oper} {c : Call} (ho : o.op = .call c) (h1 : c.callee = .builtin .cap) (h2 : c.args.toList = [X])
    (h3 : c.argTypes.toList = [t]) : OP q.hyp ∧ (OP q.pre → ∃ v, RS x q.v v ∧ Yields P w v (execOp ρ o)) := by
  have h2' : c.args = #[X] := by rw [← Array.toList_inj]; simpa using h2
  have h3' : c.argTypes = #[t] := by rw [← Array.toList_inj]; simpa using h3
  have run : ∀ v n, ρ X = v → (∀ w', (Builtin.cap_ #[t] o.type #[v]).run P w' = .ok (goInt n) w') → Yields P w (.int .i64 n) (execOp ρ o) := by
    intro v n hv hr w' _
    simp [execOp, ho, resolve, h1, h2', h3', invoke, builtin, hv, hr, goInt]
  unfold capV at h
  split at h
  · obtain ⟨_, hnc, hcm, k, o', _, e, _⟩ := hx
    split at h
    · rename_i hi
      cases h
      have hu := tk_slice (ht.is hi).tk
      exact ⟨⟨hnc, by simpa only [maxLen_eq] using hcm⟩, fun _ => ⟨_, rfl, run _ _ e (fun w' => by simp [Builtin.cap_, und_run hu])⟩⟩
    · cases h
  · obtain ⟨e, _⟩ := hx
    split at h
    · rename_i hi
      cases h
      have hu := tk_slice (ht.is hi).tk
      exact ⟨trivial, fun _ => ⟨_, rfl, run _ 0 e (fun w' => by simp [Builtin.cap_, und_run hu])⟩⟩
    · cases h
  · cases h

theorem lenV_sound {ti : Nat → Option TI} (ht : TabOk P ti) {w0 : W0} {hp hq : List (Nat × Ob)} {nx : Nat → Prop} {η : Nat → Option Nat × Value} {w : World} (hH : RepH w0 hp nx η w) (hs : ∀ b o, lk hq b = some o → lk hp b = some o) {t : TypeId} {s : SV} {q : Q}
    {X : Operand} {ρ : Operand → Value} (h : lenV hq (ti t) s = some q) (hx : RS (cxS w0 hp nx η w) s (ρ X)) {o : Oper} {c : Call} (ho : o.op = .call c) (h1 : c.callee = .builtin .len) (h2 : c.args.toList = [X])
    (h3 : c.argTypes.toList = [t]) : OP q.hyp ∧ (OP q.pre → ∃ v, RS (cxS w0 hp nx η w) q.v v ∧ Yields P w v (execOp ρ o)) := by
  have h2' : c.args = #[X] := by rw [← Array.toList_inj]; simpa using h2
  have h3' : c.argTypes = #[t] := by rw [← Array.toList_inj]; simpa using h3
  have run : ∀ v n, ρ X = v → (∀ w', (Builtin.len_ #[t] o.type #[v]).run P w' = .ok (goInt n) w') → Yields P w (.int .i64 n) (execOp ρ o) := by
    intro v n hv hr w' _
    simp [execOp, ho, resolve, h1, h2', h3', invoke, builtin, hv, hr, goInt]
  unfold lenV at h
  split at h
  · rename_i s
    have ex := rs_str hx
    split at h
    · rename_i hi
      cases h
      have hu := tk_str (ht.is hi).tk
      exact ⟨trivial, fun _ => ⟨_, rfl, run _ _ ex (fun w' => by simp [Builtin.len_, und_run hu]; rfl)⟩⟩
    · cases h
  · rename_i d xs
    have hx' : Rd w (okS w0 hp η w) (.list d) xs [ρ X] := hx
    simp only [Rd] at hx'
    obtain ⟨A, c', e, hc, hm, _⟩ := hx'
    simp only [List.cons.injEq, and_true] at e
    split at h
    · rename_i hi
      cases h
      have hu := tk_slice (ht.is hi).tk
      exact ⟨by simp only [maxLen_eq] at hm; simp only [OP_some]; omega, fun _ => ⟨_, rfl, run _ _ e (fun w' => by simp [Builtin.len_, und_run hu])⟩⟩
    · cases h
  · rename_i b
    obtain ⟨hb, e, _⟩ := hx
    split at h
    · rename_i _ _ _ _ _ _ d xs hi hlk
      cases h
      have hu := tk_slice (ht.is hi).tk
      obtain ⟨cs, r1, r2, r3⟩ := hH.obs b _ (hs _ _ hlk)
      rcases r2.2 with ⟨hv, hn⟩ | ⟨g, cap, cur, hv, _, hg, hc1, hc2, _⟩
      · refine ⟨by simp only [OP_some]; omega, fun _ => ⟨_, rfl, run _ _ (e.trans hv) (fun w' => by simp [Builtin.len_, und_run hu, hn])⟩⟩
      · exact ⟨by simp only [maxLen_eq] at hc2; simp only [OP_some]; omega, fun _ => ⟨_, rfl, run _ _ (e.trans hv) (fun w' => by simp [Builtin.len_, und_run hu])⟩⟩
    · cases h
  · obtain ⟨e, _⟩ := hx
    split at h
    · rename_i hi
      cases h
      have hu := tk_slice (ht.is hi).tk
      exact ⟨trivial, fun _ => ⟨_, rfl, run _ 0 e (fun w' => by simp [Builtin.len_, und_run hu])⟩⟩
    · cases h
  · obtain ⟨_, k, _, e⟩ := hx
    split at h
    · rename_i hi
      cases h
      have hu := tk_slice (ht.is hi).tk
      exact ⟨trivial, fun _ => ⟨_, rfl, run _ _ e (fun w' => by simp [Builtin.len_, und_run hu])⟩⟩
    · cases h
  · obtain ⟨_, hnc, hcm, k, o', _, e, _⟩ := hx
    split at h
    · rename_i hi
      cases h
      have hu := tk_slice (ht.is hi).tk
      exact ⟨⟨hnc, by simpa only [maxLen_eq] using hcm⟩, fun _ => ⟨_, rfl, run _ _ e (fun w' => by simp [Builtin.len_, und_run hu])⟩⟩
    · cases h
  · cases h

theorem caps_rl {x : Cx} : ∀ {l : List SV} {vs : List Value} {m : List (Nat × Nat)}, RL (RS x) l vs → caps l = some m →
    RL (fun (p : Nat × Nat) u => x.nm p.1 ∧ ∃ k, (x.η p.1).1 = some k ∧ u = .pointer (some ⟨k, p.2, none⟩)) m vs
  | [], [], _, _, h => by simp [caps] at h; subst h; trivial
  | s :: l, v :: vs, m, ⟨h1, h2⟩, h => by
    unfold caps at h
    split at h
    · rename_i heq; cases heq
    · rename_i b o l' heq
      simp only [List.cons.injEq] at heq
      obtain ⟨rfl, rfl⟩ := heq
      split at h
      · rename_i m' hm
        cases h
        exact ⟨h1, caps_rl h2 hm⟩
      · cases h
    · cases h
  | [], _ :: _, _, h, _ => h.elim
  | _ :: _, [], _, h, _ => h.elim

theorem rl_map {x : Cx} {g : Operand → SV} {ρ : Operand → Value} (hg : ∀ o, RS x (g o) (ρ o)) : ∀ (l : List Operand), RL (RS x) (l.map g) (l.map ρ)
  | [] => trivial
  | o :: l => ⟨hg o, rl_map hg l⟩

/-! ### a struct out of parts -/

theorem foldl_set (l : List Value) : ∀ (k off : Nat) (cs : Array Value), off + k + l.length ≤ cs.size →
    (l.zipIdx k).foldl (fun cs (p : Value × Nat) => cs.setIfInBounds (off + p.2) p.1) cs = (cs.toList.take (off + k) ++ l ++ cs.toList.drop (off + k + l.length)).toArray := by
  induction l with
  | nil => intro k off cs h; simp
  | cons v l ih =>
    intro k off cs h
    simp only [List.length_cons] at h
    simp only [List.zipIdx_cons, List.foldl_cons]
    rw [ih (k + 1) off _ (by simp; omega)]
    congr 1
    have hlt : off + k < cs.toList.length := by simp; omega
    have e1 : (cs.setIfInBounds (off + k) v).toList = cs.toList.set (off + k) v := by simp
    rw [e1]
    have e2 : cs.toList.set (off + k) v = cs.toList.take (off + k) ++ v :: cs.toList.drop (off + k + 1) := by
      rw [List.set_eq_take_append_cons_drop, if_pos hlt]
    rw [e2]
    have hl : (cs.toList.take (off + k)).length = off + k := by simp; omega
    have e3 : (cs.toList.take (off + k) ++ v :: cs.toList.drop (off + k + 1)).take (off + (k + 1)) = cs.toList.take (off + k) ++ [v] := by
      rw [List.take_append, hl]
      have : off + (k + 1) - (off + k) = 1 := by omega
      rw [this, List.take_of_length_le (by omega)]
      rfl
    have e4 : (cs.toList.take (off + k) ++ v :: cs.toList.drop (off + k + 1)).drop (off + (k + 1) + l.length) = cs.toList.drop (off + k + (l.length + 1)) := by
      rw [List.drop_append, hl]
      have : off + (k + 1) + l.length - (off + k) = 1 + l.length := by omega
      rw [this, List.drop_of_length_le (by omega), List.nil_append, Nat.add_comm 1, List.drop_succ_cons, List.drop_drop]
      congr 1
      omega
    rw [e3, e4]
    simp

theorem fillC_sound {x : Cx} {fs : List (Nat × Nat × Bool)} {place : Nat → Option (Nat × Nat)} (hpl : ∀ i o s ag, fs[i]? = some (o, s, ag) → place i = some (o, s)) :
    ∀ (parts : List (Nat × SV)) (vals : List (Nat × Value)) (cells : List C) (l : List C) (cs : Array Value), RL (fun (p : Nat × SV) (u : Nat × Value) => p.1 = u.1 ∧ RS x p.2 u.2) parts vals →
      RL (RC x) cells cs.toList → fillC fs cells parts = some l → ∃ cs', Instr.fill place cs vals = some cs' ∧ RL (RC x) l cs'.toList
  | [], [], cells, l, cs, _, hc, h => by simp only [fillC, Option.some.injEq] at h; subst h; exact ⟨cs, rfl, hc⟩
  | (i, v) :: r, (i', u) :: vals, cells, l, cs, ⟨⟨e, hv⟩, hr⟩, hc, h => by
    simp only at e
    subst e
    have hsize := RL.len hc
    simp only [Array.length_toList] at hsize
    unfold fillC at h
    split at h
    · rename_i o s ag hf
      have hp := hpl _ _ _ _ hf
      split at h
      · rename_i y
        split at h
        · rename_i hcond
          obtain ⟨rfl, hlt⟩ := hcond
          have hv : RC x y u := hv
          have hu1 : u.cells = #[u] := by
            have := RC.one hv
            cases u <;> simp_all [Value.oneCell', Value.cells]
          have hfold := foldl_set [u] 0 o cs (by simp; omega)
          obtain ⟨cs', h1, h2⟩ := fillC_sound hpl r vals _ l (cs.setIfInBounds o u) hr (by simpa using RL.set hv o hc) h
          refine ⟨cs', ?_, h2⟩
          simp only [Instr.fill, hp, hu1]
          have hno : ¬ ((decide (#[u].size ≠ 1) || decide (o + #[u].size > cs.size)) = true) := by simp; omega
          rw [if_neg hno]
          simpa using h1
        · cases h
      · rename_i m
        split at h
        · rename_i hcond
          obtain ⟨rfl, hle⟩ := hcond
          obtain ⟨us, rfl, hv⟩ := hv
          have hlu := RL.len hv
          simp only [Array.length_toList] at hlu
          have hfold := foldl_set us.toList 0 o cs (by simp; omega)
          have hnew : RL (RC x) (cells.take o ++ m ++ cells.drop (o + m.length)) (cs.toList.take o ++ us.toList ++ cs.toList.drop (o + us.size)) := by
            rw [hlu]
            exact RL.app (RL.app (RL.take o hc) hv) (RL.drop _ hc)
          obtain ⟨cs', h1, h2⟩ := fillC_sound hpl r vals _ l (cs.toList.take o ++ us.toList ++ cs.toList.drop (o + us.size)).toArray hr (by simpa using hnew) h
          refine ⟨cs', ?_, h2⟩
          simp only [Instr.fill, hp, Value.cells]
          refine (if_neg (by simp [hlu]; omega)).trans ?_
          have e : us.zipIdx.foldl (fun cs (p : Value × Nat) => cs.setIfInBounds (o + p.2) p.1) cs = (cs.toList.take o ++ us.toList ++ cs.toList.drop (o + us.size)).toArray := by
            rw [← Array.foldl_toList, Array.toList_zipIdx]
            simpa using hfold
          rw [← h1]
          exact congrArg (fun z => Instr.fill place z vals) e
        · cases h
      · cases h
    · cases h
  | [], _ :: _, _, _, _, h, _, _ => h.elim
  | _ :: _, [], _, _, _, h, _, _ => h.elim

theorem fld_places {w : World} : ∀ {fs : List (Nat × Nat × Bool)} {gs : List Field}, fldIs P fs gs = true →
    (gs.mapM (m := Sem) fun f => do pure (f.offset, ← Go.sizeOf f.type)).run P w = .ok (fs.map fun p => (p.1, p.2.1)) w
  | [], [], _ => rfl
  | [], _ :: _, h => by simp [fldIs] at h
  | _ :: _, [], h => by simp [fldIs] at h
  | (o, s, ag) :: fs, g :: gs, h => by
    obtain ⟨g', hg, ho, hs, ⟨j, hj, hjs⟩, _⟩ := fld_get h (i := 0) rfl
    simp only [List.getElem?_cons_zero, Option.some.injEq] at hg
    subst hg
    simp only [fldIs, Bool.and_eq_true] at h
    have := fld_places (w := w) h.2
    simp [List.mapM_cons, Go.sizeOf, typeInfo, hj, hjs, ho] at this ⊢
    rw [this]
    rfl

theorem bldV_sound {ti : Nat → Option TI} (ht : TabOk P ti) {x : Cx} {g : Operand → SV} {ρ : Operand → Value} (hg : ∀ o, RS x (g o) (ρ o)) {t : TypeId} {parts : Array (Nat × Operand)} {q : Q} {w : World}
    (h : bldV (ti t) (parts.toList.map fun p => (p.1, g p.2)) = some q) {o : Oper} (ho : o.op = .build t parts) : OP q.hyp ∧ (OP q.pre → ∃ v, RS x q.v v ∧ Yields P w v (execOp ρ o)) := by
  unfold bldV at h
  split at h
  · rename_i fs _ _ z _ hi
    split at h
    · rename_i l hl
      cases h
      have is := ht.is hi
      obtain ⟨fl, hu, hfl⟩ := tk_strct is.tk
      obtain ⟨j, zv, hj, hz, hzz⟩ := is.zero
      simp only [TK.agg, if_true] at hzz
      obtain ⟨cs0, rfl, hall⟩ := hzz
      have hpm : RL (fun (p : Nat × SV) (u : Nat × Value) => p.1 = u.1 ∧ RS x p.2 u.2) (parts.toList.map fun p => (p.1, g p.2)) (parts.toList.map fun p => (p.1, ρ p.2)) := by
        generalize parts.toList = pl
        induction pl with
        | nil => trivial
        | cons p pl ih => exact ⟨⟨rfl, hg _⟩, ih⟩
      obtain ⟨cs', h1, h2⟩ := fillC_sound (place := fun i => (fs.map fun p => (p.1, p.2.1))[i]?) (fun i o s ag hf => by simp [hf]) _ _ z l cs0 hpm (rl_of_allIs hall) hl
      refine ⟨trivial, fun _ => ⟨.agg cs', ⟨cs', rfl, h2⟩, fun w' _ => ?_⟩⟩
      have hm : (fl.mapM (m := Sem) fun f => do pure (f.offset, ← Go.sizeOf f.type)).run P w' = .ok (fs.map fun p => (p.1, p.2.1)).toArray w' := by
        rw [Array.mapM_eq_mapM_toList, Sem.run_map, fld_places hfl]
        rfl
      have e : ((parts.map fun (p : Nat × Operand) => (p.1, ρ p.2)).toList) = parts.toList.map fun p => (p.1, ρ p.2) := by simp
      have hfill : Instr.fill (fun i => (fs.map fun p => (p.1, p.2.1)).toArray[i]?) cs0 (parts.toList.map fun p => (p.1, ρ p.2)) = some cs' := by
        simpa using h1
      simp only [execOp, ho, Instr.build, Sem.run_bind, zeroValue, typeInfo, run_program, Result.andThen_ok, hj, Sem.run_pure, hz, Value.cells, und_run hu, hm, e, hfill]
    · cases h
  · cases h

theorem isB_is {ti : Nat → Option TI} (ht : TabOk P ti) {s : TypeId} (h : isB ti s = true) : ∃ e, P.underlying s = some (.slice e) ∧ P.underlying e = some (.int .u8) := by
  unfold isB at h
  split at h
  · rename_i e _ _ _ _ hi
    split at h
    · rename_i hi'
      exact ⟨e, tk_slice (ht.is hi).tk, tk_int (ht.is hi').tk⟩
    · cases h
  · cases h
theorem isS_is {ti : Nat → Option TI} (ht : TabOk P ti) {s : TypeId} (h : isS ti s = true) : P.underlying s = some .string := by
  unfold isS at h
  split at h
  · rename_i hi
    exact tk_str (ht.is hi).tk
  · cases h

theorem rdf_ints {w : World} {ok : Nat → Prop} {k : IntKind} : ∀ {xs : List Int} {cs : List Value}, RdF (Rd w ok (.int k)) xs cs → cs = xs.map (Value.int k)
  | [], _, h => h
  | x :: xs, _, ⟨c1, c2, e, h1, h2⟩ => by
    simp only [Rd] at h1
    rw [e, h1, rdf_ints h2]
    rfl

theorem nums_eq (xs : List Int) : strOfNums xs = ⟨(byl xs).toArray⟩ := by
  simp [strOfNums, byl]

theorem cbsV_sound {ti : Nat → Option TI} (ht : TabOk P ti) {w0 : W0} {hp hq : List (Nat × Ob)} {nx : Nat → Prop} {η : Nat → Option Nat × Value} {w : World} (hH : RepH w0 hp nx η w) (hs : ∀ b o, lk hq b = some o → lk hp b = some o) {t u : TypeId} {s : SV} {q : Q}
    {X : Operand} {ρ : Operand → Value} (h : cbsV ti hq t u s = some q) (hx : RS (cxS w0 hp nx η w) s (ρ X)) {o : Oper} (ho : o.op = .convert t u X) :
    OP q.hyp ∧ (OP q.pre → ∃ v, RS (cxS w0 hp nx η w) q.v v ∧ Yields P w v (execOp ρ o)) := by
  have run0 : ∀ A c, ρ X = .slice A 0 c → isB ti t = true → isS ti u = true → Yields P w (.string ⟨(byl []).toArray⟩) (execOp ρ o) := by
    intro A c e hb hs w' hw'
    obtain ⟨el, h1, h2⟩ := isB_is ht hb
    have h3 := isS_is ht hs
    have e0 : (convert t u (.slice A 0 c)).run P w' = .ok (.string ⟨(byl []).toArray⟩) w' := by
      rw [run_convert_bytes_string w' t u el A 0 c h1 h2 h3]
      cases A <;> simp [Conv.bytesToString, loadCells, loadCellsFrom] <;> rfl
    simp [execOp, ho, e, e0]
  have run : ∀ (xs : List Int) k off c, ρ X = .slice (some ⟨k, off, none⟩) xs.length c → isB ti t = true → isS ti u = true →
      ((∃ ob, w.heap[k]? = some ob) ∧ ∀ w' : World, w'.heap[k]? = w.heap[k]? → ∀ i, i < xs.length → w'.cell? ⟨k, off + i, none⟩ = some (.int .u8 (xs.getD i 0))) →
      Yields P w (.string ⟨(byl xs).toArray⟩) (execOp ρ o) := by
    intro xs k off c e hb hs ⟨⟨ob, hob⟩, hc⟩ w' hw'
    obtain ⟨el, h1, h2⟩ := isB_is ht hb
    have h3 := isS_is ht hs
    have := run_convert_bytes_arg (P := P) w' t el h1 h2 k off xs.length c xs rfl (hc w' (heap_below hw' hob)) u h3
    simp [execOp, ho, e, this, nums_eq]
  have cell : ∀ {w' : World} {k : Nat} {cells : Array Value} {T : TypeId} {fz : Nat × Nat} {off : Nat} {xs : List Int}, w'.heap[k]? = some (.cells cells T fz) →
      ((cells.toList.drop off).take xs.length) = xs.map (Value.int .u8) → ∀ i, i < xs.length → w'.cell? ⟨k, off + i, none⟩ = some (.int .u8 (xs.getD i 0)) := by
    intro w' k cells T fz off xs hk hm i hi
    rw [cell_of hk]
    have h1 : ((cells.toList.drop off).take xs.length)[i]? = some (.int .u8 (xs.getD i 0)) := by
      rw [hm]; simp [hi]
    rw [List.getElem?_take, if_pos hi, List.getElem?_drop] at h1
    simpa using h1
  unfold cbsV at h
  split at h
  · rename_i xs
    split at h
    · rename_i hc
      simp only [Bool.and_eq_true] at hc
      cases h
      have hx' : Rd w (okS w0 hp η w) (.list (.int .u8)) xs [ρ X] := hx
      simp only [Rd] at hx'
      obtain ⟨A, c, e, hc', hm, hn, hr⟩ := hx'
      simp only [List.cons.injEq, and_true] at e
      rcases hr with hr | ⟨k', off', cells, T, fz, hA', hok, hb, hf⟩
      · subst hr
        exact ⟨trivial, fun _ => ⟨_, rfl, run0 A c e hc.1 hc.2⟩⟩
      · subst hA'
        have := rdf_ints (w := w) (ok := okS w0 hp η w) hf
        simp only [D.sz, Nat.mul_one] at this
        exact ⟨trivial, fun _ => ⟨_, rfl, run xs _ _ c e hc.1 hc.2 ⟨⟨_, hb⟩, fun w' hw' => cell (hw'.trans hb) this⟩⟩⟩
    · cases h
  · rename_i b
    obtain ⟨hb, e, _⟩ := hx
    split at h
    · rename_i T xs hlk
      split at h
      · rename_i hc
        simp only [Bool.and_eq_true] at hc
        cases h
        obtain ⟨cs, r1, r2, r3⟩ := hH.obs b _ (hs _ _ hlk)
        rcases r2.2 with ⟨hv, hn⟩ | ⟨g, cap, cur, hv, _, hg, hc1, hc2, hc3, hc4⟩
        · have hxs : xs = [] := List.eq_nil_of_length_eq_zero hn
          subst hxs
          exact ⟨trivial, fun _ => ⟨_, rfl, run0 none 0 (e.trans hv) hc.1 hc.2⟩⟩
        · have := rdf_ints r3
          rw [← hc4] at this
          simp only [D.sz, Nat.mul_one] at this
          exact ⟨trivial, fun _ => ⟨_, rfl, run xs _ _ cap (e.trans hv) hc.1 hc.2 ⟨⟨_, hg⟩, fun w' hw' => cell (hw'.trans hg) (by simpa using this)⟩⟩⟩
      · cases h
    · cases h
  · cases h

/-- the quiet operations, all together -/
theorem qv_sound {ti : Nat → Option TI} (ht : TabOk P ti) {w0 : W0} {hp hq : List (Nat × Ob)} {nx : Nat → Prop} {η : Nat → Option Nat × Value} {w : World} (hH : RepH w0 hp nx η w) (hs : ∀ b o, lk hq b = some o → lk hp b = some o)
    {g : Operand → SV} {ρ : Operand → Value} (hg : ∀ o, RS (cxS w0 hp nx η w) (g o) (ρ o)) {o : Oper} {q : Q} (h : qv ti hq g o.op = some q) :
    OP q.hyp ∧ (OP q.pre → ∃ v, RS (cxS w0 hp nx η w) q.v v ∧ Yields P w v (execOp ρ o)) := by
  unfold qv at h
  split at h
  · rename_i x ho
    cases h
    exact ⟨trivial, fun _ => ⟨_, hg x, fun w' _ => by simp [execOp, ho]⟩⟩
  · rename_i x ho
    cases h
    exact ⟨trivial, fun _ => ⟨_, hg x, fun w' _ => by simp [execOp, ho]⟩⟩
  · rename_i c a b ho
    split at h
    · rename_i t hc
      have hc' := hg c
      rw [hc] at hc'
      have ec := rs_bool hc'
      cases t with
      | tt => cases h; exact ⟨trivial, fun _ => ⟨ρ a, hg a, fun w' _ => by simp [execOp, ho, ec, asBool, BE.v]⟩⟩
      | ff => cases h; exact ⟨trivial, fun _ => ⟨ρ b, hg b, fun w' _ => by simp [execOp, ho, ec, asBool, BE.v]⟩⟩
      | sym t =>
        cases h
        refine ⟨trivial, fun _ => ⟨if t = true then ρ a else ρ b, ?_, fun w' _ => ?_⟩⟩
        · cases t
          · exact hg b
          · exact hg a
        · cases t <;> simp [execOp, ho, ec, asBool, BE.v]
    · cases h
  · rename_i op t x y u ho
    split at h
    · rename_i q' hq'
      cases h
      exact binV_sound hq' (hg x) (hg y) ho
    · split at h
      · rename_i q' hq'
        cases h
        exact eqB_sound ht hq' (hg x) (hg y) ho
      · split at h
        · rename_i q' hq'
          cases h
          exact nilB_sound ht hq' (hg x) (hg y) ho
        · exact nilIB_sound ht h (hg x) (hg y) ho
  · rename_i op t x ho
    exact unV_sound h (hg x) ho
  · rename_i s d x ho
    split at h
    · rename_i q' hq'
      cases h
      exact convV_sound ht hq' (hg x) ho
    · exact cbsV_sound ht hH hs h (hg x) ho
  · rename_i x i ho
    exact extV_sound h (hg x) ho
  · rename_i t x f ho
    exact fadV_sound ht h (hg x) ho
  · rename_i t x f ho
    exact fldV_sound ht h (hg x) ho
  · rename_i t x ho
    exact loadV_sound ht hH hs h (hg x) ho
  · rename_i t x i ho
    split at h
    · rename_i q' hq'
      cases h
      exact idxV_sound ht hq' (hg x) (hg i) ho
    · exact idxA_sound ht h (hg x) (hg i) ho
  · rename_i t x i ho
    exact iadV_sound ht hH hs h (hg x) (hg i) ho
  · rename_i t x lo hi ho
    split at h
    · rename_i q' hq'
      cases h
      exact cutV_sound ht hg hq' ho
    · exact cutS_sound ht hg h ho
  · rename_i t x lo hi m ho
    exact cut3_sound ht hH hs h (hg x) (hg lo) (hg hi) (hg m) ho
  · rename_i x ho
    split at h
    · rename_i b off hx
      cases h
      have hx' := hg x
      rw [hx] at hx'
      have hx2 := hx'
      obtain ⟨hb, k, hk, e⟩ := hx'
      exact ⟨trivial, fun _ => ⟨_, hx2, fun w' _ => by simp [execOp, ho, e]⟩⟩
    · rename_i d y off hx
      cases h
      have hx' := hg x
      rw [hx] at hx'
      have hx2 := hx'
      obtain ⟨k, o', cells, T, fz, cs, e, _⟩ := hx'
      exact ⟨trivial, fun _ => ⟨_, hx2, fun w' _ => by simp [execOp, ho, e]⟩⟩
    · cases h
  · rename_i f first captured ho
    split at h
    · rename_i l h1 h2
      cases h
      have hr := caps_rl (rl_map hg captured.toList) h2
      have e1 : first = #[] := by rw [← Array.toList_inj]; simpa using h1
      exact ⟨trivial, fun _ => ⟨.func (.func f) #[] (captured.map ρ), ⟨_, rfl, by simpa using hr⟩, fun w' _ => by simp [execOp, ho, Instr.makeFunc, e1]⟩⟩
    · rename_i X h1 h2
      split at h
      · rename_i b off hX
        cases h
        have hr := caps_rl (rl_map hg captured.toList) h2
        have e2 : captured = #[] := by
          rw [← Array.toList_inj]
          cases hc : captured.toList with
          | nil => simp
          | cons a l => rw [hc] at hr; exact hr.elim
        have e1 : first = #[X] := by rw [← Array.toList_inj]; simpa using h1
        have hx := hg X
        rw [hX] at hx
        obtain ⟨g1, k, g2, g3⟩ := hx
        exact ⟨trivial, fun _ => ⟨.func (.func f) #[ρ X] #[], ⟨g1, k, g2, by rw [g3]⟩, fun w' _ => by simp [execOp, ho, Instr.makeFunc, e1, e2]⟩⟩
      · cases h
    · cases h
  · rename_i t parts ho
    exact bldV_sound ht hg h ho
  · rename_i c ho
    split at h
    · rename_i x t h1 h2 h3
      exact lenV_sound ht hH hs h (hg x) ho h1 h2 h3
    · rename_i x t h1 h2 h3
      exact capV_sound ht h (hg x) ho h1 h2 h3
    · rename_i X Y h1 h2 
      split at h
      · rename_i k a k' b hX hY
        cases h
        have ea := hg X
        rw [hX] at ea
        have eb := hg Y
        rw [hY] at eb
        have ea := rs_int ea
        have eb := rs_int eb
        have h2' : c.args = #[X, Y] := by rw [← Array.toList_inj]; simpa using h2
        exact ⟨trivial, fun _ => ⟨_, rfl, fun w' _ => by simp [execOp, ho, resolve, h1, h2', invoke, builtin, ea, eb, Builtin.min_, Builtin.min2]⟩⟩
      · cases h
    · cases h
  · cases h

end OE
