/- OE, part 3b: which types' values may be keys, and that the model finds them. Own work. -/
import Derived.Test.YthpllblcbbkfdaaOeMap
import Derived.DeepKeys4
set_option linter.unusedVariables false
namespace OE
open Go Go.RowKit

/-- parts, one behind the other -/
def partsB (P : Program) (f : TypeId → D → Bool) : List (TypeId × Nat) → Nat → D → Bool
  | [], _, _ => false
  | [(t, o)], p, d => o == p && P.cellsOf t == d.sz && f t d
  | (t, o) :: r, p, d => match d with
    | .pair a b => o == p && P.cellsOf t == a.sz && f t a && partsB P f r (p + a.sz) b
    | _ => false
def klB (P : Program) : Nat → TypeId → D → Bool
  | 0, _, _ => false
  | n + 1, t, d => match P.underlying t with
    | some (.int k) => decide (d = .int k)
    | some .bool => decide (d = .bool)
    | some .string => decide (d = .str)
    | some (.struct fs) => d.plain && P.cellsOf t == d.sz && fs.all (fun f => f.name != "_") && partsB P (klB P n) (fs.toList.map fun f => (f.type, f.offset)) 0 d
    | _ => false

theorem mapM_all {α β : Type} {f : α → Option β} : ∀ {l : List α}, (∀ x ∈ l, ∃ y, f x = some y) → ∃ r, l.mapM f = some r
  | [], _ => ⟨[], rfl⟩
  | a :: l, h => by
    obtain ⟨y, hy⟩ := h a (by simp)
    obtain ⟨r, hr⟩ := mapM_all (l := l) (fun x hx => h x (by simp [hx]))
    exact ⟨y :: r, by simp [hy, hr]⟩

theorem parts_keys {P : Program} {n : Nat} (ih : ∀ {t : TypeId} {d : D} {y : d.T}, klB P n t d = true → d.ok y → ∃ ls, P.keyLits n t (d.vs y) = some ls) :
    ∀ {pl : List (TypeId × Nat)} {p : Nat} {d : D} {y : d.T} {cs : List Value}, d.plain = true → partsB P (klB P n) pl p d = true → d.ok y → (cs.drop p).take d.sz = d.vs y →
      ∀ q ∈ pl, ∃ ls, P.keyLits n q.1 ((cs.drop q.2).take (P.cellsOf q.1)) = some ls
  | [], _, _, _, _, _, h, _, _ => by simp [partsB] at h
  | [(t, o)], p, d, y, cs, hp, h, hok, hc => by
    simp only [partsB, Bool.and_eq_true, beq_iff_eq] at h
    obtain ⟨⟨rfl, h1⟩, h2⟩ := h
    intro q hq
    simp at hq; subst hq
    rw [h1, hc]
    exact ih h2 hok
  | (t, o) :: q2 :: r, p, d, y, cs, hp, h, hok, hc => by
    simp only [partsB] at h
    split at h
    · rename_i a b
      simp only [Bool.and_eq_true, beq_iff_eq] at h
      obtain ⟨⟨⟨rfl, h1⟩, h2⟩, h3⟩ := h
      simp only [D.plain, Bool.and_eq_true] at hp
      simp only [D.sz, D.vs, List.take_add, List.drop_drop] at hc
      have hl : ((cs.drop o).take a.sz).length = (a.vs y.1).length := by
        have := congrArg List.length hc
        have ha := D.vs_len y.1 hp.1
        have hb := D.vs_len y.2 hp.2
        simp only [List.length_append, List.length_take, List.length_drop, ha, hb] at this ⊢
        have := b.sz_pos
        omega
      have hc' := List.append_inj hc hl
      intro q hq
      rcases List.mem_cons.1 hq with rfl | hq
      · rw [h1, hc'.1]; exact ih h2 hok.1
      · exact parts_keys ih (p := o + a.sz) (d := b) (y := y.2) hp.2 h3 hok.2 hc'.2 q hq
    · cases h

theorem kl_keys {P : Program} : ∀ (n : Nat) {t : TypeId} {d : D} {y : d.T}, klB P n t d = true → d.ok y → ∃ ls, P.keyLits n t (d.vs y) = some ls
  | 0, _, _, _, h, _ => by simp [klB] at h
  | n + 1, t, d, y, h, hok => by
    unfold klB at h
    split at h
    · rename_i k hu
      simp only [decide_eq_true_eq] at h; subst h
      have hok : (Lit.int k y).wf = true := hok
      exact ⟨[.int k y], by simp [Program.keyLits, hu, D.vs, hok]⟩
    · rename_i hu
      simp only [decide_eq_true_eq] at h; subst h
      exact ⟨[.bool y], by simp [Program.keyLits, hu, D.vs]⟩
    · rename_i hu
      simp only [decide_eq_true_eq] at h; subst h
      have hok : y.length ≤ 9223372036854775807 := hok
      have : (ByteArray.mk y.toArray).size ≤ maxLen := by simpa [ByteArray.size, maxLen] using hok
      exact ⟨[.string y], by simp [Program.keyLits, hu, D.vs, this]⟩
    · rename_i fs hu
      simp only [Bool.and_eq_true, beq_iff_eq] at h
      obtain ⟨⟨⟨h0, h1⟩, h2⟩, h3⟩ := h
      have hlen := D.vs_len y h0
      have hm : ∃ r, (fs.toList.mapM fun f => P.keyLits n f.type (((d.vs y).drop f.offset).take (P.cellsOf f.type))) = some r := by
        refine mapM_all fun f hf => ?_
        exact parts_keys (fun h1 h2 => kl_keys n h1 h2) (p := 0) (d := d) (y := y) (cs := d.vs y) h0 h3 hok (by rw [List.drop_zero, List.take_of_length_le (by omega)]) (f.type, f.offset) (List.mem_map.2 ⟨f, hf, rfl⟩)
      obtain ⟨r, hr⟩ := hm
      exact ⟨r.flatten, by
        unfold Program.keyLits
        rw [hu]
        have hc : (d.vs y).length = P.cellsOf t ∧ fs.all (fun f => f.name != "_") = true := ⟨by omega, h2⟩
        cases hv : d.vs y with
        | nil => rw [hv] at hlen; have := d.sz_pos; simp at hlen; omega
        | cons a l =>
          rw [hv] at hc hr
          simp only [hc, and_self, if_true, hr, Option.map_some]⟩
    · cases h

/-- a type whose values may be keys, of this kind of data -/
def keyB (P : Program) (t : TypeId) (d : D) : Bool := match P.underlying t with
  | some (.struct _) => (match d with | .pair _ _ => true | _ => false) && (P.keyTypeAt 9 t && P.tiled 9 t && P.keyType t && klB P (P.types.size + 1) t d)
  | some (.int k) => decide (d = .int k)
  | some .bool => decide (d = .bool)
  | some .string => decide (d = .str)
  | _ => false

theorem keyB_plain {P : Program} {t : TypeId} {d : D} (h : keyB P t d = true) : d.plain = true := by
  unfold keyB at h
  split at h
  · rename_i fs hu
    simp only [Bool.and_eq_true] at h
    have h := h.2.2
    unfold klB at h
    rw [hu] at h
    simp only [Bool.and_eq_true] at h
    exact h.1.1.1
  · simp only [decide_eq_true_eq] at h; subst h; rfl
  · simp only [decide_eq_true_eq] at h; subst h; rfl
  · simp only [decide_eq_true_eq] at h; subst h; rfl
  · cases h

theorem keyB_keyed {P : Program} {t : TypeId} {d : D} (h : keyB P t d = true) : Go.Maps.Keyed P t := by
  unfold keyB at h
  split at h
  · rename_i fs hu
    simp only [Bool.and_eq_true] at h
    exact Go.Maps.Keyed.of_law (deep_law (m := 9) (by omega) h.2.1.1.1 h.2.1.1.2 (by rw [hu]))
  · rename_i k hu; exact Go.Maps.int_keyed hu
  · rename_i hu; exact Go.Maps.bool_keyed hu
  · rename_i hu; exact Go.Maps.string_keyed hu
  · cases h

theorem keyB_of {P : Program} {t : TypeId} {d : D} (h : keyB P t d = true) {y : d.T} (hok : d.ok y) : ∃ l, keyOf P t (d.v y) = some l := by
  have hpl := keyB_plain h
  unfold keyB at h
  split at h
  · rename_i fs hu
    simp only [Bool.and_eq_true] at h
    obtain ⟨hpair, ⟨⟨h1, h2⟩, h3⟩, h4⟩ := h
    obtain ⟨ls, hls⟩ := kl_keys _ h4 hok
    have h5 := h4
    unfold klB at h5
    rw [hu] at h5
    simp only [Bool.and_eq_true, beq_iff_eq] at h5
    have hlen := D.vs_len y hpl
    cases d with
    | pair a b =>
      have hf : (Value.agg ((D.pair a b).vs y).toArray).formed P t = true := by
        simp only [Value.formed, hu, List.size_toArray, beq_iff_eq]; omega
      refine ⟨.string (keyBytes ls), ?_⟩
      show keyOf P t (.agg ((D.pair a b).vs y).toArray) = _
      unfold keyOf
      rw [hu]
      simp only [h3, hf, Bool.and_self, if_true, Value.cells, hls, Option.map_some]
    | _ => simp at hpair
  · rename_i k hu
    simp only [decide_eq_true_eq] at h; subst h
    exact ⟨_, Go.Maps.keyOf_int_mk hu hok⟩
  · rename_i hu
    simp only [decide_eq_true_eq] at h; subst h
    exact ⟨_, Go.Maps.keyOf_bool_mk hu y⟩
  · rename_i hu
    simp only [decide_eq_true_eq] at h; subst h
    have hok : y.length ≤ 9223372036854775807 := hok
    exact ⟨_, Go.WideMaps.keyOf_string_mk hu (by simpa [ByteArray.size, maxLen] using hok)⟩
  · cases h

end OE
