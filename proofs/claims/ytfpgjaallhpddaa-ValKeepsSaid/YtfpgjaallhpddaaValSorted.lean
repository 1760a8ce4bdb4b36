/- Properties in their order: what is set is got, good properties stay good; no program in sight. Own work. -/
import Derived.Test.YtfpgjaallhpddaaValEncProps
import Derived.Test.YtfpgjaallhpddaaValRefSet
import Derived.Test.YtfpgjaallhpddaaRuleForm
set_option linter.unusedVariables false
set_option maxRecDepth 100000
namespace Go.Proofs.Ytfpgjaallhpddaa
open Go Go.RowKit OE

theorem getS_append (l m : List PD.T) (n : List UInt8) : getS (l ++ m) n = if (∃ p ∈ l, p.1 = n) then getS l n else getS m n := by
  induction l with
  | nil => simp
  | cons p l ih =>
    rw [List.cons_append]
    by_cases h : p.1 = n
    · have e : ∀ m : List PD.T, getS (p :: m) n = (p.2, true) := fun m => if_pos h
      rw [e, e, if_pos ⟨p, by simp, h⟩]
    · have e : ∀ m : List PD.T, getS (p :: m) n = getS m n := fun m => if_neg h
      rw [e, e, ih]
      have : (∃ q ∈ p :: l, q.1 = n) ↔ ∃ q ∈ l, q.1 = n := by
        constructor
        · rintro ⟨q, hq, e2⟩
          rcases List.mem_cons.1 hq with rfl | hq
          · exact (h e2).elim
          · exact ⟨q, hq, e2⟩
        · rintro ⟨q, hq, e2⟩
          exact ⟨q, by simp [hq], e2⟩
      simp only [this]
theorem getS_none {l : List PD.T} {n : List UInt8} (h : ∀ p ∈ l, p.1 ≠ n) : getS l n = (VD.df, false) := by
  induction l with
  | nil => rfl
  | cons p l ih =>
    have : getS (p :: l) n = getS l n := if_neg (h p (by simp))
    rw [this, ih fun q hq => h q (by simp [hq])]
theorem outP_mem {l : List PD.T} {n : List UInt8} {p : PD.T} (h : p ∈ outP l n) : p ∈ l ∧ p.1 ≠ n := by
  have := List.mem_filter.1 h
  exact ⟨this.1, by simpa using this.2⟩
theorem getS_out {l : List PD.T} {n m : List UInt8} (h : m ≠ n) : getS (outP l n) m = getS l m := by
  induction l with
  | nil => rfl
  | cons p l ih =>
    rw [outP_cons]
    by_cases h1 : p.1 = n
    · have : getS (p :: l) m = getS l m := if_neg (by rw [h1]; exact Ne.symm h)
      rw [if_pos h1, ih, this]
    · rw [if_neg h1]
      by_cases h2 : p.1 = m
      · have e : ∀ k : List PD.T, getS (p :: k) m = (p.2, true) := fun k => if_pos h2
        rw [e, e]
      · have e : ∀ k : List PD.T, getS (p :: k) m = getS k m := fun k => if_neg h2
        rw [e, e, ih]

/-- good properties, in their order -/
structure GoodP (l : List PD.T) : Prop where
  all : ∀ p ∈ l, nameS p.1 = true ∧ goodV p.2 = true
  ord : l.Pairwise fun p q => Op.bytesLess p.1 q.1 = true
theorem goodAt_pos {l : List PD.T} {i : Nat} (h : i + 1 < l.length) : goodAt l (i + 1) = (nameS l[i + 1].1 && goodV l[i + 1].2 && Op.bytesLess (l[i]'(by omega)).1 l[i + 1].1) := by
  have hg : gt (d := PD) l ((i + 1 : Nat) : Int) = l[i + 1] := gt_nat (d := PD) l (i + 1) h
  have e : ((i + 1 : Nat) : Int) - 1 = (i : Int) := by omega
  have hp : pv l (i + 1) = (l[i]'(by omega)).1 := by unfold pv; rw [e, gt_nat (d := PD) l i (by omega)]
  unfold goodAt
  rw [hg, hp]
  have : decide ((0 : Int) < ((i + 1 : Nat) : Int)) = true := decide_eq_true (by omega)
  rw [this]; rfl
theorem sorted_adj {l : List PD.T} (h : ∀ i (hi : i + 1 < l.length), Op.bytesLess (l[i]'(by omega)).1 l[i + 1].1 = true) : l.Pairwise fun p q => Op.bytesLess p.1 q.1 = true := by
  rw [List.pairwise_iff_getElem]
  intro i j hi hj hij
  obtain ⟨d, rfl⟩ : ∃ d, j = i + 1 + d := ⟨j - i - 1, by omega⟩
  clear hij
  induction d with
  | zero => exact h i hj
  | succ d ih => exact bl_trans (ih (by omega)) (h (i + 1 + d) hj)
theorem props_iff {l : List PD.T} : propsS l = true ↔ l.length ≤ 8 ∧ GoodP l := by
  constructor
  · intro h
    have ha := props_all h
    refine ⟨ha.1, ha.2, sorted_adj fun i hi => ?_⟩
    simp only [propsS, Bool.and_eq_true] at h
    have := List.all_eq_true.1 h.2 (i + 1) (by simpa using hi)
    rw [goodAt_pos hi] at this
    simp only [Bool.and_eq_true] at this
    exact this.2
  · rintro ⟨h1, h2, h3⟩
    unfold propsS
    rw [Bool.and_eq_true]
    refine ⟨by simp; omega, List.all_eq_true.2 fun i hi => ?_⟩
    have hi : i < l.length := by simpa using hi
    cases i with
    | zero =>
      have hg : gt (d := PD) l ((0 : Nat) : Int) = l[0] := gt_nat (d := PD) l 0 hi
      have := h2 l[0] (List.getElem_mem hi)
      unfold goodAt
      rw [hg, this.1, this.2]; rfl
    | succ i =>
      have := h2 l[i + 1] (List.getElem_mem hi)
      rw [goodAt_pos hi, this.1, this.2, List.pairwise_iff_getElem.1 h3 i (i + 1) (by omega) hi (by omega)]; rfl

/-- with a property where its name belongs -/
def insP (L : List PD.T) (n : List UInt8) (v : VD.T) : List PD.T := L.take (idxP L n) ++ [(n, v)] ++ L.drop (idxP L n)
theorem insP_nil (n : List UInt8) (v : VD.T) : insP [] n v = [(n, v)] := rfl
theorem insP_cons (p : PD.T) (L : List PD.T) (n : List UInt8) (v : VD.T) : insP (p :: L) n v = if geP n p = true then (n, v) :: p :: L else p :: insP L n v := by
  unfold insP idxP
  by_cases h : geP n p = true
  · rw [if_pos h, List.findIdx_cons, h]; rfl
  · have h' : geP n p = false := by simpa using h
    rw [if_neg h, List.findIdx_cons, h']; rfl
theorem insP_mem {L : List PD.T} {n : List UInt8} {v : VD.T} {p : PD.T} (h : p ∈ insP L n v) : p ∈ L ∨ p = (n, v) := by
  unfold insP at h
  simp only [List.mem_append, List.mem_singleton] at h
  rcases h with (h | h) | h
  · exact .inl (List.mem_of_mem_take h)
  · exact .inr h
  · exact .inl (List.mem_of_mem_drop h)
theorem insP_len (L : List PD.T) (n : List UInt8) (v : VD.T) : (insP L n v).length = L.length + 1 := by
  unfold insP
  simp only [List.length_append, List.length_take, List.length_drop, List.length_singleton]; omega
theorem setP_ins {l : List PD.T} {n : List UInt8} {v : VD.T} (h : v.1 ≠ 0) : setP l n v = insP (outP l n) n v := if_neg h
theorem getS_pos {p : PD.T} {l : List PD.T} {n : List UInt8} (h : p.1 = n) : getS (p :: l) n = (p.2, true) := if_pos h
theorem getS_neg {p : PD.T} {l : List PD.T} {n : List UInt8} (h : p.1 ≠ n) : getS (p :: l) n = getS l n := if_neg h
theorem ins_get : ∀ {L : List PD.T} {n : List UInt8} (v : VD.T), (∀ p ∈ L, p.1 ≠ n) → getS (insP L n v) n = (v, true)
  | [], n, v, _ => getS_pos rfl
  | p :: L, n, v, h => by
    rw [insP_cons]
    split
    · exact getS_pos rfl
    · rw [getS_neg (h p (by simp)), ins_get v fun q hq => h q (by simp [hq])]
theorem ins_get' : ∀ {L : List PD.T} {n m : List UInt8} (v : VD.T), m ≠ n → getS (insP L n v) m = getS L m
  | [], n, m, v, h => getS_neg (Ne.symm h)
  | p :: L, n, m, v, h => by
    rw [insP_cons]
    split
    · exact getS_neg (Ne.symm h)
    · by_cases h2 : p.1 = m
      · rw [getS_pos h2, getS_pos h2]
      · rw [getS_neg h2, getS_neg h2, ins_get' v h]
theorem ins_out : ∀ (L : List PD.T) (n : List UInt8) (v : VD.T), outP (insP L n v) n = outP L n
  | [], n, v => by rw [insP_nil, outP_cons, if_pos rfl]
  | p :: L, n, v => by
    rw [insP_cons]
    split
    · rw [outP_cons, if_pos rfl]
    · rw [outP_cons, outP_cons, ins_out L n v]
theorem ins_good : ∀ {L : List PD.T} {n : List UInt8} {v : VD.T}, GoodP L → (∀ p ∈ L, p.1 ≠ n) → nameS n = true → goodV v = true → GoodP (insP L n v)
  | [], n, v, _, _, hn, hv => ⟨fun p hp => by obtain rfl := List.mem_singleton.1 hp; exact ⟨hn, hv⟩, by rw [insP_nil]; exact List.pairwise_singleton _ _⟩
  | p :: L, n, v, h, hne, hn, hv => by
    have hc := List.pairwise_cons.1 h.ord
    rw [insP_cons]
    by_cases hg : geP n p = true
    · rw [if_pos hg]
      have hlt : Op.bytesLess n p.1 = true := by
        have h0 : Op.bytesLess p.1 n = false := by simpa [geP] using hg
        rcases bl_tri p.1 n with h1 | h1 | h1
        · rw [h0] at h1; cases h1
        · exact (hne p (by simp) h1).elim
        · exact h1
      refine ⟨fun q hq => ?_, List.pairwise_cons.2 ⟨fun q hq => ?_, h.ord⟩⟩
      · rcases List.mem_cons.1 hq with rfl | hq
        · exact ⟨hn, hv⟩
        · exact h.all q hq
      · rcases List.mem_cons.1 hq with rfl | hq
        · exact hlt
        · exact bl_trans hlt (hc.1 q hq)
    · rw [if_neg hg]
      have hlt : Op.bytesLess p.1 n = true := by simpa [geP] using hg
      have ih := ins_good (v := v) (n := n) (L := L) ⟨fun q hq => h.all q (by simp [hq]), hc.2⟩ (fun q hq => hne q (by simp [hq])) hn hv
      refine ⟨fun q hq => ?_, List.pairwise_cons.2 ⟨fun q hq => ?_, ih.ord⟩⟩
      · rcases List.mem_cons.1 hq with rfl | hq
        · exact h.all q (by simp)
        · exact ih.all q hq
      · rcases insP_mem hq with hq | rfl
        · exact hc.1 q hq
        · exact hlt
theorem out_good {l : List PD.T} (h : GoodP l) (n : List UInt8) : GoodP (outP l n) := ⟨fun p hp => h.all p (outP_mem hp).1, h.ord.filter _⟩
theorem out_out (l : List PD.T) (n : List UInt8) : outP (outP l n) n = outP l n := by
  unfold outP; rw [List.filter_filter]; simp
theorem out_len (l : List PD.T) (n : List UInt8) : (outP l n).length ≤ l.length := List.length_filter_le _ _
theorem set_good {l : List PD.T} (h : GoodP l) {n : List UInt8} {v : VD.T} (hn : nameS n = true) (hv : goodV v = true) (h0 : v.1 ≠ 0) : GoodP (setP l n v) := by
  rw [setP_ins h0]; exact ins_good (out_good h n) (fun p hp => (outP_mem hp).2) hn hv
theorem set_get {l : List PD.T} {n : List UInt8} {v : VD.T} (h0 : v.1 ≠ 0) : getS (setP l n v) n = (v, true) := by
  rw [setP_ins h0]; exact ins_get v fun p hp => (outP_mem hp).2
theorem set_get' {l : List PD.T} {n m : List UInt8} {v : VD.T} (h0 : v.1 ≠ 0) (h : m ≠ n) : getS (setP l n v) m = getS l m := by
  rw [setP_ins h0, ins_get' v h, getS_out h]
theorem set_gone {l : List PD.T} {n : List UInt8} {v : VD.T} (h0 : v.1 ≠ 0) : setP (setP l n v) n (0, 0, []) = outP l n := by
  have e : ∀ k : List PD.T, setP k n ((0, 0, []) : VD.T) = outP k n := fun k => if_pos rfl
  rw [e, setP_ins h0, ins_out, out_out]
theorem gone_get (l : List PD.T) (n : List UInt8) : getS (outP l n) n = (VD.df, false) := getS_none fun p hp => (outP_mem hp).2
theorem set_len {l : List PD.T} {n : List UInt8} {v : VD.T} (h0 : v.1 ≠ 0) : (setP l n v).length ≤ l.length + 1 := by
  rw [setP_ins h0, insP_len]; have := out_len l n; omega
end Go.Proofs.Ytfpgjaallhpddaa
