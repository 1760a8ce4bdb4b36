/- What package num computes, in plain Lean: no program in sight. Own work. -/
import Derived.Test.YtnldokebmfojeaaDoorOeRange
namespace Num
open OE

/-- a number's bytes -/
def putN (n : Nat) : List UInt8 := if h : n < 128 then [UInt8.ofNat n] else UInt8.ofNat (n % 128 + 128) :: putN (n / 128)
termination_by n

/-- the number whose bytes a text begins with, from the i-th byte of it on -/
def getL : List UInt8 → Nat → Nat → Option (Nat × Nat)
  | [], _, _ => none
  | c :: l, i, n =>
    if i = 9 ∧ c.toNat ≠ 1 ∨ c.toNat = 0 ∧ 0 < i then none
    else if c.toNat < 128 then some (n + c.toNat % 128 * 128 ^ i, i + 1) else getL l (i + 1) (n + c.toNat % 128 * 128 ^ i)
def getN (s : List UInt8) (at_ : Int) : Option (Nat × Nat) := if at_ < 0 ∨ at_ > s.length then none else getL (s.drop at_.toNat) 0 0

/-- signed numbers -/
def zig (n : Int) : Nat := if 0 ≤ n then (2 * n).toNat else (-2 * n - 1).toNat
def zag (u : Nat) : Int := if u % 2 = 0 then ((u / 2 : Nat) : Int) else -((u / 2 : Nat) : Int) - 1
def putZ (n : Int) : List UInt8 := putN (zig n)
def putT (t : List UInt8) : List UInt8 := putN t.length ++ t
def getT (s : List UInt8) (at_ most : Int) : Option (List UInt8 × Nat) :=
  match getN s at_ with
  | none => none
  | some (n, k) => if most < 0 ∨ (n : Int) > most ∨ at_.toNat + k + n > s.length then none else some (((s.drop at_.toNat).drop k).take n, k + n)

theorem getL_bd : ∀ {l : List UInt8} {i n m k : Nat}, getL l i n = some (m, k) → i ≤ 9 → n < 128 ^ i → m < 2 ^ 64 ∧ i < k ∧ k ≤ 10 ∧ k ≤ i + l.length
  | [], _, _, _, _, h, _, _ => by simp [getL] at h
  | c :: l, i, n, m, k, h, hi, hn => by
    simp only [getL] at h
    split at h
    · cases h
    · rename_i h1
      have hc := c.toNat_lt
      have hp : (128 : Nat) ^ i = 2 ^ (7 * i) := by rw [Nat.pow_mul]
      split at h
      · simp only [Option.some.injEq, Prod.mk.injEq] at h
        obtain ⟨rfl, rfl⟩ := h
        refine ⟨?_, by omega, by omega, by simp⟩
        by_cases h9 : i = 9
        · subst h9
          have hc1 : c.toNat = 1 := by omega
          rw [hc1]
          simp at hn ⊢
          omega
        · have h2 : (128 : Nat) ^ (i + 1) ≤ 128 ^ 9 := Nat.pow_le_pow_right (by omega) (by omega)
          have h3 : c.toNat % 128 * 128 ^ i ≤ 127 * 128 ^ i := Nat.mul_le_mul_right _ (by omega)
          rw [Nat.pow_succ] at h2
          have h4 : (128 : Nat) ^ 9 = 9223372036854775808 := by decide
          omega
      · rename_i h2
        have h9 : i ≠ 9 := by omega
        have h3 : c.toNat % 128 * 128 ^ i ≤ 127 * 128 ^ i := Nat.mul_le_mul_right _ (by omega)
        have := getL_bd h (by omega) (by rw [Nat.pow_succ]; omega)
        simp only [List.length_cons]
        omega

theorem getN_bd {s : List UInt8} {at_ : Int} {m k : Nat} (h : getN s at_ = some (m, k)) : m < 2 ^ 64 ∧ 0 < k ∧ k ≤ 10 ∧ 0 ≤ at_ ∧ at_.toNat + k ≤ s.length := by
  unfold getN at h
  split at h
  · cases h
  · have := getL_bd h (by omega) (by omega)
    simp only [List.length_drop] at this
    omega

theorem putN_lt {n : Nat} (h : n < 128) : putN n = [UInt8.ofNat n] := by rw [putN]; simp [h]
theorem putN_ge {n : Nat} (h : 128 ≤ n) : putN n = UInt8.ofNat (n % 128 + 128) :: putN (n / 128) := by rw [putN]; simp [Nat.not_lt.2 h]
theorem putN_len : ∀ (k n : Nat), n < 128 ^ (k + 1) → (putN n).length ≤ k + 1
  | 0, n, h => by rw [putN_lt (by simpa using h)]; simp
  | k + 1, n, h => by
    by_cases hn : n < 128
    · rw [putN_lt hn]; simp
    · rw [putN_ge (by omega)]
      have : n / 128 < 128 ^ (k + 1) := by rw [Nat.div_lt_iff_lt_mul (by omega)]; rw [Nat.pow_succ] at h; exact h
      have := putN_len k (n / 128) this
      simp only [List.length_cons]
      omega
theorem putN_pos (n : Nat) : 1 ≤ (putN n).length := by
  by_cases hn : n < 128
  · rw [putN_lt hn]; simp
  · rw [putN_ge (by omega)]; simp
theorem putN_ten {n : Nat} (h : n < 18446744073709551616) : (putN n).length ≤ 10 := putN_len 9 n (by
  have : (128 : Nat) ^ (9 + 1) = 1180591620717411303424 := by decide
  omega)

theorem getL_put : ∀ (n i acc : Nat) (r : List UInt8), n * 128 ^ i < 18446744073709551616 → (i = 0 ∨ 0 < n) → i ≤ 9 → getL (putN n ++ r) i acc = some (acc + n * 128 ^ i, i + (putN n).length) := by
  intro n
  induction n using Nat.strongRecOn with
  | _ n ih =>
    intro i acc r h1 h2 h3
    have h9 : i = 9 → n ≤ 1 := by
      intro h
      subst h
      have : (128 : Nat) ^ 9 = 9223372036854775808 := by decide
      rw [this] at h1
      omega
    by_cases hn : n < 128
    · rw [putN_lt hn]
      have hc : (UInt8.ofNat n).toNat = n := by simp; omega
      simp only [List.cons_append, List.nil_append, getL, hc, List.length_singleton]
      rw [if_neg (by omega), if_pos hn, Nat.mod_eq_of_lt hn]
    · rw [putN_ge (by omega)]
      have hc : (UInt8.ofNat (n % 128 + 128)).toNat = n % 128 + 128 := by simp; omega
      simp only [List.cons_append, getL, hc, List.length_cons]
      have e1 : (n % 128 + 128) % 128 = n % 128 := by omega
      have e2 : n * 128 ^ i = n % 128 * 128 ^ i + n / 128 * 128 ^ (i + 1) := by
        rw [Nat.pow_succ]
        have : n = n % 128 + n / 128 * 128 := by omega
        conv => lhs; rw [this]
        rw [Nat.add_mul, Nat.mul_assoc, Nat.mul_comm 128]
      rw [if_neg (by omega), if_neg (by omega), e1, ih (n / 128) (by omega) (i + 1) _ r (by omega) (by omega) (by omega)]
      rw [e2, Nat.add_assoc]
      congr 2
      omega
theorem getN_put (n : Nat) (p r : List UInt8) (h : n < 18446744073709551616) : getN (p ++ putN n ++ r) p.length = some (n, (putN n).length) := by
  unfold getN
  rw [if_neg (by simp; omega)]
  have : (p ++ putN n ++ r).drop (p.length : Int).toNat = putN n ++ r := by simp
  rw [this, getL_put n 0 0 r (by omega) (by omega) (by omega)]
  simp
theorem putN_inj {a b : Nat} (ha : a < 18446744073709551616) (hb : b < 18446744073709551616) (h : putN a = putN b) : a = b := by
  have h1 := getN_put a [] [] ha
  have h2 := getN_put b [] [] hb
  rw [h] at h1
  rw [h1] at h2
  simp at h2
  exact h2
theorem putN_mono : ∀ (a b : Nat), a ≤ b → (putN a).length ≤ (putN b).length := by
  intro a
  induction a using Nat.strongRecOn with
  | _ a ih =>
    intro b h
    by_cases ha : a < 128
    · rw [putN_lt ha]; exact putN_pos b
    · rw [putN_ge (by omega), putN_ge (by omega : 128 ≤ b)]
      have := ih (a / 128) (by omega) (b / 128) (by omega)
      simp only [List.length_cons]
      omega
theorem getL_take : ∀ {l : List UInt8} {i acc m k : Nat}, getL l i acc = some (m, k) → ∃ n, m = acc + n * 128 ^ i ∧ l.take (k - i) = putN n ∧ (i = 0 ∨ 0 < n) ∧ i < k
  | [], _, _, _, _, h => by simp [getL] at h
  | c :: l, i, acc, m, k, h => by
    simp only [getL] at h
    split at h
    · cases h
    · rename_i h1
      have hc := c.toNat_lt
      split at h
      · rename_i h2
        simp only [Option.some.injEq, Prod.mk.injEq] at h
        obtain ⟨rfl, rfl⟩ := h
        refine ⟨c.toNat, by rw [Nat.mod_eq_of_lt h2], ?_, by omega, by omega⟩
        rw [putN_lt h2, show i + 1 - i = 1 from by omega]
        simp
      · rename_i h2
        obtain ⟨n, e1, e2, e3, e4⟩ := getL_take h
        refine ⟨c.toNat % 128 + 128 * n, ?_, ?_, by omega, by omega⟩
        · rw [e1, Nat.pow_succ, Nat.add_mul, Nat.add_assoc, Nat.mul_comm 128 n, Nat.mul_assoc, Nat.mul_comm 128]
        · rw [show k - i = (k - (i + 1)) + 1 from by omega, List.take_succ_cons, e2, putN_ge (n := c.toNat % 128 + 128 * n) (by omega)]
          have e5 : (c.toNat % 128 + 128 * n) % 128 + 128 = c.toNat := by omega
          have e6 : (c.toNat % 128 + 128 * n) / 128 = n := by omega
          rw [e5, e6]
          simp
theorem getN_take {s : List UInt8} {at_ : Int} {m k : Nat} (h : getN s at_ = some (m, k)) : (s.drop at_.toNat).take k = putN m := by
  unfold getN at h
  split at h
  · cases h
  · obtain ⟨n, e1, e2, _⟩ := getL_take h
    simp at e1 e2
    rw [e1, e2]

theorem getT_put (t p r : List UInt8) (most : Int) (hm : (t.length : Int) ≤ most) (ht : t.length < 18446744073709551616) : getT (p ++ putT t ++ r) p.length most = some (t, (putT t).length) := by
  unfold getT
  have e : p ++ putT t ++ r = p ++ putN t.length ++ (t ++ r) := by simp [putT]
  rw [e, getN_put t.length p (t ++ r) ht]
  dsimp only
  rw [if_neg (by simp; omega)]
  simp [putT]
def catT (xs : List (List UInt8)) : List UInt8 := (xs.map putT).flatten
theorem catT_succ (xs : List (List UInt8)) (i : Nat) (h : i < xs.length) : catT (xs.take (i + 1)) = catT (xs.take i) ++ putT xs[i] := by
  unfold catT
  rw [← List.take_append_getElem h, List.map_append, List.flatten_append]
  simp only [List.map_cons, List.map_nil, List.flatten_cons, List.flatten_nil, List.append_nil]
theorem catT_split (xs : List (List UInt8)) (i : Nat) (h : i < xs.length) : catT xs = catT (xs.take i) ++ putT xs[i] ++ catT (xs.drop (i + 1)) := by
  unfold catT
  conv => lhs; rw [← List.take_append_drop i xs, List.drop_eq_getElem_cons h]
  simp only [List.map_append, List.map_cons, List.flatten_append, List.flatten_cons, List.append_assoc]

end Num
