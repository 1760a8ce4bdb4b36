/- The walks of val.EncodeProps and of the reference's. Own work. -/
import Derived.Test.YtfpgjaallhpddabValProps
import Derived.Test.YtfpgjaallhpddabValEncode
import Derived.Test.YtfpgjaallhpddabNumPuts
import Derived.Test.YtfpgjaallhpddabNumRef
set_option linter.unusedVariables false
set_option maxRecDepth 100000
namespace Go.Proofs.Ytfpgjaallhpddab
open Go Go.RowKit OE

/-- a property's bytes; properties' bytes -/
def enc1 (p : PD.T) : List UInt8 := Num.putT p.1 ++ encV p.2
def encL (l : List PD.T) : List UInt8 := (l.map enc1).flatten
def encPs (l : List PD.T) : List UInt8 := if propsS l = true then Num.putN l.length ++ encL l else []
def errPs (l : List PD.T) : Int := if propsS l = true then 0 else 142

theorem props_all {l : List PD.T} (h : propsS l = true) : l.length ≤ 8 ∧ ∀ p ∈ l, nameS p.1 = true ∧ goodV p.2 = true := by
  simp only [propsS, Bool.and_eq_true, Bool.not_eq_true', decide_eq_false_iff_not] at h
  refine ⟨by omega, fun p hp => ?_⟩
  obtain ⟨i, hi, rfl⟩ := List.getElem_of_mem hp
  have := List.all_eq_true.1 h.2 i (by simpa using hi)
  have hg : gt (d := PD) l (i : Int) = l[i] := gt_nat (d := PD) l i hi
  simp only [goodAt, hg, Bool.and_eq_true] at this
  exact this.1
theorem encV_len {v : VD.T} (hv : Wf VD v) : (encV v).length ≤ 1040 := by
  have hz := wf_i64 hv.2.1
  have hzl := putZ_len v.2.1 hz.1 hz.2
  unfold encV
  split
  · show 1 ≤ _; omega
  · split
    · rename_i hg
      have hl := good_len hg
      split
      · show 1 + 1 ≤ _; omega
      · split
        · rw [List.length_append]; show 1 + _ ≤ _; omega
        · rw [List.length_append]
          have := Num.putN_ten (n := v.2.2.length) (Nat.lt_of_le_of_lt hl (by decide))
          unfold Num.putT
          rw [List.length_append]
          show 1 + _ ≤ _; omega
    · simp
theorem enc1_len {p : PD.T} (hp : Wf PD p) (hn : p.1.length ≤ 16) : (enc1 p).length ≤ 1066 := by
  have := encV_len hp.2
  have := Num.putN_ten (n := p.1.length) (Nat.lt_of_le_of_lt hn (by decide))
  unfold enc1 Num.putT
  rw [List.length_append, List.length_append]
  have hn : List.length p.1 ≤ 16 := hn
  omega
theorem encL_len : ∀ {l : List PD.T}, (∀ p ∈ l, Wf PD p ∧ p.1.length ≤ 16) → (encL l).length ≤ l.length * 1066
  | [], _ => by simp [encL]
  | p :: l, h => by
    have h1 := enc1_len (h p (by simp)).1 (h p (by simp)).2
    have h2 := encL_len (l := l) fun q hq => h q (by simp [hq])
    unfold encL at h2 ⊢
    rw [List.map_cons, List.flatten_cons, List.length_append, List.length_cons, Nat.add_mul]
    omega
theorem encL_step {l : List PD.T} {i : Nat} (h : i < l.length) : encL (l.take (i + 1)) = encL (l.take i) ++ enc1 l[i] := by
  rw [take_step h]
  unfold encL
  rw [List.map_append, List.flatten_append]
  simp only [List.map_cons, List.map_nil, List.flatten_cons, List.flatten_nil, List.append_nil]

theorem val_EncodeProps (l : List PD.T) (hl : Wf (.list PD) l) : FnD Try.prog 11 [.c (.dat PD l)] (· = .tup [(false, [.str (encPs l)]), (false, [.int .i64 (errPs l)])]) := by
  refine fn0 Try.func11 rfl rfl rfl ?_
  conv => whnf
  refine call1 (val_Props l (fun p hp => (hl.2 p hp).2.1)) rfl ?_
  conv => whnf
  refine ⟨fun h1 => ?_, fun h1 => ?_⟩
  · conv => whnf
    simp at h1
    simp [encPs, errPs, h1]
  simp at h1
  obtain ⟨hn, hall⟩ := props_all h1
  have hE : encPs l = Num.putN l.length ++ encL l := if_pos h1
  have hR : errPs l = 0 := if_pos h1
  rw [hE, hR]
  have hbd : ∀ i, (encL (l.take i)).length ≤ 8528 := fun i => by
    refine Nat.le_trans (encL_len fun p hp => ⟨hl.2 p (List.mem_of_mem_take hp), name_len (hall p (List.mem_of_mem_take hp)).1⟩) ?_
    rw [List.length_take]; omega
  have hpl := Num.putN_ten (n := l.length) (by omega)
  have hcat : ∀ i (h : i < l.length), (Num.putT l[i].1).length + (encV l[i].2).length ≤ 1066 := fun i h => by
    have := enc1_len (hl.2 l[i] (List.getElem_mem h)) (name_len (hall l[i] (List.getElem_mem h)).1)
    unfold enc1 at this
    rw [List.length_append] at this
    exact this
  have hnl : ∀ i (h : i < l.length), l[i].1.length ≤ 140737488355327 := fun i h => Nat.le_trans (name_len (hall l[i] (List.getElem_mem h)).1) (by decide)
  conv => whnf
  intro _
  conv => whnf
  rw [wru64 _ (by omega) (by omega)]
  refine call1 (num_Put l.length (by omega)) rfl ?_
  conv => whnf
  intro _
  conv => whnf
  refine loop0 (α := Nat) (fun i => i ≤ l.length) (fun i => ⟨[(4, .c (.str (Num.putN l.length ++ encL (l.take i)))), (14, .c (.dat PD l)), (15, .c (.int .i64 l.length)), (16, .c (.int .i64 i))], [], 0⟩) (fun i => l.length - i) ⟨0, by omega, ?_⟩ ?_
  · (conv => whnf); exact ⟨rfl, ⟨by simp [encL], rfl, rfl, rfl, trivial⟩, trivial, trivial⟩
  intro i hI
  have hb := hbd i
  conv => whnf
  refine ⟨fun h2 => ?_, fun h2 => ?_⟩
  · have h2 : i < l.length := by simp at h2; omega
    have hc := hcat i h2
    conv => whnf
    try (intro _; conv => whnf)
    refine ⟨by omega, ?_⟩
    rw [gt_nat (d := PD) l i h2]
    conv => whnf
    refine any0 ?_
    conv => whnf
    refine callr0 (num_PutText l[i].1 (hnl i h2)) rfl ?_
    conv => whnf
    refine callr0 (val_Encode l[i].2 (hl.2 l[i] (List.getElem_mem h2)).2) rfl ?_
    conv => whnf
    refine ⟨by omega, ?_⟩
    conv => whnf
    refine ⟨by rw [List.length_append, List.length_append]; omega, ?_⟩
    conv => whnf
    refine ⟨.inl (by kernel_rfl), after0 ?_⟩
    conv => whnf
    refine ⟨i + 1, ⟨by omega, by omega⟩, ?_⟩
    rw [encL_step h2]
    (conv => whnf); exact ⟨rfl, ⟨by rw [← List.append_assoc]; rfl, rfl, rfl, wr_succ _ (by omega), trivial⟩, trivial, trivial⟩
  · conv => whnf
    rw [List.take_of_length_le (by simp at h2; omega)]
end Go.Proofs.Ytfpgjaallhpddab
