/- Types in their order: what is added is there, what is taken away again leaves what was; no program in sight. Own work. -/
import Derived.Test.YthpllblcbbkfdaaSchemaAdd
set_option linter.unusedVariables false
set_option maxRecDepth 100000
namespace Go.Proofs.Ythpllblcbbkfdaa
open Go Go.RowKit OE

abbrev PW (l : List SD.T) : Prop := l.Pairwise fun x y => Op.bytesLess x y = true
theorem ris_pw : ∀ {l : List SD.T}, risF l = true → PW l
  | [], _ => List.Pairwise.nil
  | [x], _ => List.pairwise_singleton _ _
  | x :: y :: l, h => by
    have h : (Op.bytesLess x y && risF (y :: l)) = true := h
    rw [Bool.and_eq_true] at h
    have ih := ris_pw h.2
    refine List.pairwise_cons.2 ⟨fun z hz => ?_, ih⟩
    rcases List.mem_cons.1 hz with rfl | hz
    · exact h.1
    · exact bl_trans h.1 ((List.pairwise_cons.1 ih).1 z hz)
theorem pw_ris : ∀ {l : List SD.T}, PW l → risF l = true
  | [], _ => rfl
  | [x], _ => rfl
  | x :: y :: l, h => by
    have h2 := List.pairwise_cons.1 h
    show (Op.bytesLess x y && risF (y :: l)) = true
    rw [h2.1 y (by simp), pw_ris h2.2]; rfl
theorem ty_iff (l : List SD.T) : tyS l = true ↔ l.length ≤ 16 ∧ PW l ∧ ∀ x ∈ l, nameS x = true := by
  unfold tyS
  rw [Bool.and_eq_true, Bool.and_eq_true, List.all_eq_true]
  constructor
  · rintro ⟨h1, h2, h3⟩
    exact ⟨by simp at h1; omega, ris_pw h2, h3⟩
  · rintro ⟨h1, h2, h3⟩
    exact ⟨by simp; omega, pw_ris h2, h3⟩
theorem has_iff (l : List SD.T) (v : List UInt8) : hasT l v = true ↔ v ∈ l := by
  unfold hasT
  rw [List.any_eq_true]
  constructor
  · rintro ⟨x, hx, h⟩
    have : v = x := by simpa using h
    exact this ▸ hx
  · intro h; exact ⟨v, h, by simp⟩
theorem with_cons (p : SD.T) (L : List SD.T) (x : List UInt8) : withS (p :: L) x = if Op.bytesLess p x = true then p :: withS L x else x :: p :: L := by
  unfold withS idxT
  by_cases h : Op.bytesLess p x = true
  · rw [if_pos h, List.findIdx_cons, h]; rfl
  · have h' : Op.bytesLess p x = false := by simpa using h
    rw [if_neg h, List.findIdx_cons, h']; rfl
theorem with_nil (x : List UInt8) : withS [] x = [x] := rfl
theorem with_mem {L : List SD.T} {x y : List UInt8} : y ∈ withS L x ↔ y = x ∨ y ∈ L := by
  induction L with
  | nil => show y ∈ [x] ↔ _; simp
  | cons p L ih =>
    rw [with_cons]
    split
    · rw [List.mem_cons, ih, List.mem_cons]
      constructor
      · rintro (h | h | h)
        · exact .inr (.inl h)
        · exact .inl h
        · exact .inr (.inr h)
      · rintro (h | h | h)
        · exact .inr (.inl h)
        · exact .inl h
        · exact .inr (.inr h)
    · rw [List.mem_cons]
theorem with_len (L : List SD.T) (x : List UInt8) : (withS L x).length = L.length + 1 := by
  unfold withS
  simp only [List.length_append, List.length_take, List.length_drop, List.length_singleton]; omega
theorem with_pw : ∀ {L : List SD.T} {x : List UInt8}, PW L → x ∉ L → PW (withS L x)
  | [], x, _, _ => List.pairwise_singleton _ _
  | p :: L, x, h, hx => by
    have h2 := List.pairwise_cons.1 h
    rw [with_cons]
    have hpx : p ≠ x := fun e => hx (by simp [e])
    split
    · rename_i hlt
      refine List.pairwise_cons.2 ⟨fun z hz => ?_, with_pw h2.2 (fun h => hx (by simp [h]))⟩
      rcases with_mem.1 hz with rfl | hz
      · exact hlt
      · exact h2.1 z hz
    · rename_i hlt
      have hxp : Op.bytesLess x p = true := by
        rcases bl_tri p x with h | h | h
        · exact (hlt h).elim
        · exact (hpx h).elim
        · exact h
      refine List.pairwise_cons.2 ⟨fun z hz => ?_, h⟩
      rcases List.mem_cons.1 hz with rfl | hz
      · exact hxp
      · exact bl_trans hxp (h2.1 z hz)
theorem wo_not {L : List SD.T} {x : List UInt8} (h : x ∉ L) : woS L x = L := by
  unfold woS
  rw [List.filter_eq_self]
  intro y hy
  have : y ≠ x := fun e => h (e ▸ hy)
  simp [this]
theorem wo_with : ∀ {L : List SD.T} {x : List UInt8}, x ∉ L → woS (withS L x) x = L
  | [], x, _ => by rw [with_nil]; unfold woS; simp
  | p :: L, x, h => by
    have hpx : p ≠ x := fun e => h (by simp [e])
    have hL : x ∉ L := fun h' => h (by simp [h'])
    rw [with_cons]
    split
    · have := wo_with hL
      unfold woS at this ⊢
      rw [List.filter_cons_of_pos (by simp [hpx]), this]
    · have := wo_not h
      unfold woS at this ⊢
      rw [List.filter_cons_of_neg (by simp), this]
theorem put_kind (c : CD.T) {k : Int} (h : k = 1 ∨ k = 2) (l : List SD.T) : kindS (putS c k l) k = l := by
  rcases h with rfl | rfl <;> rfl
theorem put_put (c : CD.T) {k : Int} (h : k = 1 ∨ k = 2) (l : List SD.T) : putS (putS c k l) k (kindS c k) = c := by
  rcases h with rfl | rfl <;> rfl
theorem put_used (c : CD.T) (k : Int) (l : List SD.T) (v : List UInt8) : usedS (putS c k l) k v = usedS c k v := by
  unfold putS; split <;> rfl
theorem put_types {c : CD.T} {k : Int} (h : k = 1 ∨ k = 2) {l : List SD.T} (hc : typesS c = true) (hl : tyS l = true) : typesS (putS c k l) = true := by
  unfold typesS at hc ⊢
  rw [Bool.and_eq_true] at hc
  rcases h with rfl | rfl
  · show (tyS l && tyS c.2.1) = true
    rw [hl, hc.2]; rfl
  · show (tyS c.1 && tyS l) = true
    rw [hl, hc.1]; rfl
theorem types_kind {c : CD.T} {k : Int} (h : k = 1 ∨ k = 2) (hc : typesS c = true) : tyS (kindS c k) = true := by
  unfold typesS at hc
  rw [Bool.and_eq_true] at hc
  rcases h with rfl | rfl
  · exact hc.1
  · exact hc.2
theorem add_ok {c : CD.T} {k : Int} {v : List UInt8} (h : (addS c k v).2 = 0) : (k = 1 ∨ k = 2) ∧ nameS v = true ∧ v ∉ kindS c k ∧ (kindS c k).length < 16 ∧ addS c k v = (putS c k (withS (kindS c k) v), 0) := by
  unfold addS at h ⊢
  split at h
  · cases h
  rename_i h1
  split at h
  · cases h
  rename_i h2
  split at h
  · cases h
  rename_i h3
  rw [if_neg h1, if_neg h2, if_neg h3]
  have h1' : (k = 1 ∨ k = 2) ∧ nameS v = true := by
    rw [not_or, Classical.not_not] at h1
    exact ⟨h1.1, by simpa using h1.2⟩
  exact ⟨h1'.1, h1'.2, fun h => h2 ((has_iff _ _).2 h), by omega, rfl⟩
theorem add_no {c : CD.T} {k : Int} {v : List UInt8} (h : (addS c k v).2 ≠ 0) : (addS c k v).1 = C0 := by
  unfold addS at h ⊢
  split
  · rfl
  rename_i h1
  rw [if_neg h1] at h
  split
  · rfl
  rename_i h2
  rw [if_neg h2] at h
  split
  · rfl
  rename_i h3
  rw [if_neg h3] at h
  exact (h rfl).elim
theorem add_ty {c : CD.T} {k : Int} {v : List UInt8} (h : (addS c k v).2 = 0) (hk : tyS (kindS c k) = true) : tyS (withS (kindS c k) v) = true := by
  obtain ⟨h1, h2, h3, h4, _⟩ := add_ok h
  obtain ⟨g1, g2, g3⟩ := (ty_iff _).1 hk
  refine (ty_iff _).2 ⟨by rw [with_len]; omega, with_pw g2 h3, fun x hx => ?_⟩
  rcases with_mem.1 hx with rfl | hx
  · exact h2
  · exact g3 x hx
theorem add_types {c : CD.T} {k : Int} {v : List UInt8} (h : (addS c k v).2 = 0) (hc : typesS c = true) : typesS (addS c k v).1 = true := by
  obtain ⟨h1, h2, h3, h4, e⟩ := add_ok h
  rw [e]
  exact put_types h1 hc (add_ty h (types_kind h1 hc))
theorem add_drop {c : CD.T} {k : Int} {v : List UInt8} (h : (addS c k v).2 = 0) (hu : usedS c k v = false) : dropS (addS c k v).1 k v = (c, 0) ∧ hasT (kindS (addS c k v).1 k) v = true := by
  obtain ⟨h1, h2, h3, h4, e⟩ := add_ok h
  rw [e]
  have hk := put_kind c h1 (withS (kindS c k) v)
  have hh : hasT (kindS (putS c k (withS (kindS c k) v)) k) v = true := by rw [hk]; exact (has_iff _ _).2 (with_mem.2 (.inl rfl))
  refine ⟨?_, hh⟩
  unfold dropS
  dsimp only
  rw [if_neg (fun h => h h1), if_neg (by rw [hh]; simp), if_neg (by rw [put_used, hu]; simp), hk, wo_with h3, put_put c h1]
end Go.Proofs.Ythpllblcbbkfdaa
