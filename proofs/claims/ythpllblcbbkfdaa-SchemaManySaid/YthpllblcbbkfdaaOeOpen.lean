/- OE, part 11: an argument that is data, opened. Own work; generic over the program. -/
import Derived.Test.YthpllblcbbkfdaaOeLib
import Derived.OpenShut
import Derived.SizedLaws
import Derived.WideShapes
namespace OE
open Go Go.RowKit

mutual
/-- a type reads as this kind of data -/
def tyD (P : Program) : Nat → TypeId → D → Bool
  | 0, _, _ => false
  | n + 1, t, d => match P.underlying t with
    | some (.int k) => decide (d = .int k)
    | some .bool => decide (d = .bool)
    | some .string => decide (d = .str)
    | some (.slice e) => match d with
      | .list a => P.cellsOf e == a.sz && decide (0 < P.bytesOf e) && tyD P n e a
      | _ => false
    | some (.struct fs) => P.cellsOf t == d.sz && tyP P n (fs.toList.map fun f => (f.type, f.offset)) 0 d
    | some (.array m e) => P.cellsOf t == d.sz && tyP P n ((List.range m).map fun i => (e, i * P.cellsOf e)) 0 d
    | _ => false
/-- parts, one behind the other -/
def tyP (P : Program) : Nat → List (TypeId × Nat) → Nat → D → Bool
  | 0, _, _, _ => false
  | _ + 1, [], _, _ => false
  | n + 1, [(t, o)], p, d => o == p && P.cellsOf t == d.sz && tyD P n t d
  | n + 1, (t, o) :: r, p, d => match d with
    | .pair a b => o == p && P.cellsOf t == a.sz && tyD P n t a && tyP P n r (p + a.sz) b
    | _ => false
end

/-- sizes as they come in -/
def Wf : (d : D) → d.T → Prop
  | .int k, n => (Lit.int k n).wf = true
  | .bool, _ => True
  | .str, s => s.length ≤ 140737488351232
  | .pair a b, p => Wf a p.1 ∧ Wf b p.2
  | .list a, xs => xs.length ≤ 140737488351232 ∧ ∀ x ∈ xs, Wf a x

instance Wf.dec : ∀ (d : D) (x : d.T), Decidable (Wf d x)
  | .int k, n => inferInstanceAs (Decidable ((Lit.int k n).wf = true))
  | .bool, _ => inferInstanceAs (Decidable True)
  | .str, s => inferInstanceAs (Decidable (s.length ≤ 140737488351232))
  | .pair a b, p => @instDecidableAnd _ _ (Wf.dec a p.1) (Wf.dec b p.2)
  | .list a, xs => @instDecidableAnd _ _ (inferInstanceAs (Decidable (xs.length ≤ 140737488351232))) (@List.decidableBAll _ _ (Wf.dec a) xs)

theorem cell_some {w : World} {a : Addr} {v : Value} (h : w.cell? a = some v) : a.spot = none ∧ ∃ c T fz, w.heap[a.block]? = some (.cells c T fz) ∧ c[a.off]? = some v := by
  unfold World.cell? at h
  split at h
  · rename_i c T fz hc
    split at h
    · cases h
    · rename_i hs
      exact ⟨by simpa using hs, c, T, fz, hc, h⟩
  · cases h

section
variable {H : Type} {enc : TypeId × Value → H} {P : Program} {w : World} {sp : Nat → Bool} {held : Bool}

theorem rdf_of {α : Type} {R : α → List Value → Prop} {sz : Nat} : ∀ {n : Nat} {L : List Value} (g : Nat → α), (∀ i, i < n → R (g i) ((L.drop (i * sz)).take sz)) → (L.length = n * sz) → RdF R ((List.range n).map g) L
  | 0, L, g, _, hl => by simp at hl; subst hl; rfl
  | n + 1, L, g, h, hl => by
    rw [List.range_succ_eq_map, List.map_cons, List.map_map]
    refine ⟨L.take sz, L.drop sz, (List.take_append_drop sz L).symm, by simpa using h 0 (by omega), ?_⟩
    have := rdf_of (n := n) (L := L.drop sz) (fun i => g (i + 1)) (fun i hi => by
      have := h (i + 1) (by omega)
      rw [List.drop_drop]
      rw [show sz + i * sz = (i + 1) * sz from by rw [Nat.add_mul]; omega]
      exact this) (by rw [List.length_drop, hl, Nat.add_mul]; omega)
    exact this

theorem pick_fn {α : Type} (d : α) {n : Nat} {p : Nat → α → Prop} (h : ∀ i, i < n → ∃ y, p i y) : ∃ g : Nat → α, ∀ i, i < n → p i (g i) := by
  induction n with
  | zero => exact ⟨fun _ => d, fun i hi => by omega⟩
  | succ n ih =>
    obtain ⟨g, hg⟩ := ih fun i hi => h i (by omega)
    obtain ⟨y, hy⟩ := h n (by omega)
    refine ⟨fun i => if i = n then y else g i, fun i hi => ?_⟩
    dsimp only
    split
    · rename_i e; subst e; exact hy
    · exact hg i (by omega)

/-- cells that are there one behind the other -/
theorem row_of {C : Array Value} {off len sz : Nat} {cs : Nat → List Value} (hs : 0 < sz) (h : ∀ i, i < len → (cs i).length = sz ∧ ∀ j, j < sz → C[off + i * sz + j]? = (cs i)[j]?) :
    ((C.toList.drop off).take (len * sz)).length = len * sz ∧ ∀ i, i < len → ((((C.toList.drop off).take (len * sz)).drop (i * sz)).take sz) = cs i := by
  have hex : ∀ q, q < len * sz → ∃ v, C[off + q]? = some v := by
    intro q hq
    have hi : q / sz < len := by rw [Nat.div_lt_iff_lt_mul hs]; exact hq
    obtain ⟨h1, h2⟩ := h (q / sz) hi
    have hj := h2 (q % sz) (Nat.mod_lt _ hs)
    rw [Nat.add_assoc, Nat.mul_comm, Nat.div_add_mod] at hj
    rw [hj]
    exact ⟨_, List.getElem?_eq_getElem (by rw [h1]; exact Nat.mod_lt _ hs)⟩
  have hlen : ((C.toList.drop off).take (len * sz)).length = len * sz := by
    rw [List.length_take, List.length_drop, Array.length_toList]
    rcases Nat.lt_or_ge (C.size - off) (len * sz) with hlt | hge
    · obtain ⟨v, hv⟩ := hex (C.size - off) hlt
      have := (Array.getElem?_eq_some_iff.1 hv).1
      omega
    · omega
  refine ⟨hlen, fun i hi => ?_⟩
  obtain ⟨h1, h2⟩ := h i hi
  have hle : (i + 1) * sz ≤ len * sz := Nat.mul_le_mul_right _ hi
  rw [Nat.add_mul, Nat.one_mul] at hle
  apply List.ext_getElem?
  intro j
  rw [List.getElem?_take]
  split
  · rename_i hj
    rw [List.getElem?_drop, List.getElem?_take, if_pos (by omega), List.getElem?_drop, Array.getElem?_toList, ← h2 j hj, Nat.add_assoc]
  · rw [List.getElem?_eq_none (by omega)]

theorem all_weights {e : TypeId} : ∀ {xs : List (DataW H)} {x : DataW H}, x ∈ xs → ∀ m ∈ x.weights P e, m ∈ DataW.weightsAll P e xs
  | y :: ys, x, hx, m, hm => by
    simp only [DataW.weightsAll, List.mem_append]
    rcases List.mem_cons.1 hx with rfl | h
    · exact .inl hm
    · exact .inr (all_weights h m hm)
  | [], x, hx, _, _ => by simp at hx

mutual
theorem trod_rd : ∀ (n : Nat) {t : TypeId} {d : D} {fuel : Nat} {cs : List Value} {x : DataW H × List MemPlace}, tyD P n t d = true → DataW.trod enc P w 0 sp held fuel t cs = some x → (∀ m ∈ x.1.weights P t, m ≤ reachBytes) →
    ∃ y : d.T, Rd w (fun k => k < w.heap.size) d y cs ∧ Wf d y
  | 0, _, _, _, _, _, h, _, _ => by simp [tyD] at h
  | n + 1, t, d, fuel, cs, x, h, hx, hw => by
    unfold tyD at h
    split at h
    · rename_i k ht
      simp only [decide_eq_true_eq] at h
      subst h
      obtain ⟨m, rfl, rfl, hwf⟩ := DataW.trod_int ht hx
      exact ⟨m, rfl, hwf⟩
    · rename_i ht
      simp only [decide_eq_true_eq] at h
      subst h
      obtain ⟨b, rfl, rfl⟩ := DataW.trod_bool ht hx
      exact ⟨b, rfl, trivial⟩
    · rename_i ht
      simp only [decide_eq_true_eq] at h
      subst h
      obtain ⟨s, rfl, rfl, _⟩ := DataW.trod_string ht hx
      refine ⟨s.data.toList, rfl, ?_⟩
      have := hw s.data.toList.length (by simp [DataW.weights])
      exact this
    · rename_i e ht
      split at h
      · rename_i a
        simp only [Bool.and_eq_true, beq_iff_eq, decide_eq_true_eq] at h
        obtain ⟨⟨h1, h2⟩, h3⟩ := h
        rcases DataW.trod_slice ht hx with ⟨rfl, rfl⟩ | ⟨A, len, cap, elems, rest, m, rfl, rfl, rfl, hb, hl, hm, hlen, hel, hsp, hns⟩
        · exact ⟨[], ⟨none, 0, rfl, Nat.le_refl _, Nat.zero_le _, fun _ => rfl, .inl rfl⟩, by simp, by simp⟩
        · have hlen' : len ≤ 140737488351232 := by
            have h5 := hw ((elems.map (·.1)).length + (rest.map (·.1)).length |> (· * P.bytesOf e)) (by simp [DataW.weights, ht])
            simp only [List.length_map] at h5
            rw [hlen] at h5
            have h6 : len * 1 ≤ (len + rest.length) * P.bytesOf e := Nat.mul_le_mul (by omega) h2
            have h7 : reachBytes = 140737488351232 := rfl
            omega
          have each : ∀ i, i < len → ∃ cs' y, w.cells? 0 (A.add (i * P.cellsOf e)) (P.cellsOf e) = some cs' ∧ Rd w (fun k => k < w.heap.size) a y cs' ∧ Wf a y := by
            intro i hi
            have := hel i hi
            rw [List.getElem?_eq_getElem (by omega), Option.bind_eq_some_iff] at this
            obtain ⟨cs', hc1, hc2⟩ := this
            obtain ⟨y, hy1, hy2⟩ := trod_rd n h3 hc2 (fun z hz => hw z (by
              simp only [DataW.weights, ht, List.mem_cons, List.mem_append]
              exact .inr (.inl (all_weights (x := elems[i].1) (List.mem_map_of_mem (List.getElem_mem _)) z hz))))
            exact ⟨cs', y, hc1, hy1, hy2⟩
          by_cases h0 : len = 0
          · subst h0
            exact ⟨[], ⟨some A, cap, rfl, Nat.zero_le _, hm, fun h => (by cases h), .inl rfl⟩, by simp, by simp⟩
          · have hsz := a.sz_pos
            obtain ⟨g, hg⟩ := pick_fn ([], a.df) (p := fun i (q : List Value × a.T) => w.cells? 0 (A.add (i * P.cellsOf e)) (P.cellsOf e) = some q.1 ∧ Rd w (fun k => k < w.heap.size) a q.2 q.1 ∧ Wf a q.2) (fun i hi => by
              obtain ⟨cs', y, q1, q2, q3⟩ := each i hi
              exact ⟨(cs', y), q1, q2, q3⟩)
            have c0 := World.cells?_some (hg 0 (by omega)).1
            rw [h1] at c0
            have hv0 := c0.2.2 0 hsz
            rw [List.getElem?_eq_getElem (by omega)] at hv0
            simp only [Nat.zero_mul] at hv0
            obtain ⟨hspot, C, T, fz, hheap, _⟩ := cell_some hv0
            obtain ⟨k, off, spot⟩ := A
            simp only [Addr.add, if_true] at hspot hheap
            subst hspot
            have hcell : ∀ i, i < len → (g i).1.length = a.sz ∧ ∀ j, j < a.sz → C[off + i * a.sz + j]? = ((g i).1)[j]? := by
              intro i hi
              have ci := World.cells?_some (hg i hi).1
              rw [h1] at ci
              refine ⟨ci.2.1, fun j hj => ?_⟩
              have := ci.2.2 j hj
              rw [add_plain', add_plain', cell_of hheap] at this
              exact this
            obtain ⟨r1, r2⟩ := row_of hsz hcell
            refine ⟨(List.range len).map fun i => (g i).2, ⟨some ⟨k, off, none⟩, cap, by simp, by simpa using hl, hm, fun h => (by cases h), .inr ⟨k, off, C, T, fz, rfl, (Array.getElem?_eq_some_iff.1 hheap).1, hheap, ?_⟩⟩, by simpa using hlen', ?_⟩
            · rw [List.length_map, List.length_range]
              refine rdf_of (fun i => (g i).2) (fun i hi => ?_) r1
              rw [r2 i hi]
              exact (hg i hi).2.1
            · intro y hy
              simp only [List.mem_map, List.mem_range] at hy
              obtain ⟨i, hi, rfl⟩ := hy
              exact (hg i hi).2.2
      · cases h
    · rename_i fs ht
      simp only [Bool.and_eq_true, beq_iff_eq] at h
      obtain ⟨h1, h2⟩ := h
      obtain ⟨xs, m, rfl, rfl, hl, hxl, hel⟩ := DataW.trod_struct ht hx
      obtain ⟨y, hy1, hy2, hy3⟩ := trod_parts (m := m) n (xs := xs) h2 (cs := cs) (fun i t' o hi => by
        rw [List.getElem?_map] at hi
        simp only [Option.map_eq_some_iff, Prod.mk.injEq] at hi
        obtain ⟨f, hf, rfl, rfl⟩ := hi
        exact hel i f (by simpa using hf)) (fun i t' o x hi hxi z hz => by
        rw [List.getElem?_map] at hi
        simp only [Option.map_eq_some_iff, Prod.mk.injEq] at hi
        obtain ⟨f, hf, rfl, rfl⟩ := hi
        refine hw z ?_
        simp only [DataW.weights, ht]
        exact DataW.weights_mem_each (j := i) (t := f.type) (d := x.1) (by simp only [Array.getElem?_toList] at hf; simp [List.getElem?_map, hf]) (by simp [List.getElem?_map, hxi]) z hz) (by simpa using hxl)
      rw [List.drop_zero, List.take_of_length_le (by omega)] at hy1
      exact ⟨y, hy1, hy2⟩
    · rename_i q e ht
      simp only [Bool.and_eq_true, beq_iff_eq] at h
      obtain ⟨h1, h2⟩ := h
      obtain ⟨xs, m, rfl, rfl, hl, hxl, hel⟩ := DataW.trod_array ht hx
      obtain ⟨y, hy1, hy2, hy3⟩ := trod_parts (m := m) n (xs := xs) h2 (cs := cs) (fun i t' o hi => by
        rw [List.getElem?_map] at hi
        simp only [Option.map_eq_some_iff, Prod.mk.injEq] at hi
        obtain ⟨i', hf, rfl, rfl⟩ := hi
        rw [List.getElem?_eq_some_iff] at hf
        obtain ⟨hf1, hf2⟩ := hf
        simp at hf1 hf2
        subst hf2
        exact hel i hf1) (fun i t' o x hi hxi z hz => by
        rw [List.getElem?_map] at hi
        simp only [Option.map_eq_some_iff, Prod.mk.injEq] at hi
        obtain ⟨i', hf, rfl, rfl⟩ := hi
        refine hw z ?_
        simp only [DataW.weights, ht]
        exact all_weights (x := x.1) (List.mem_map_of_mem (List.mem_of_getElem? hxi)) z hz) (by simpa using hxl)
      rw [List.drop_zero, List.take_of_length_le (by omega)] at hy1
      exact ⟨y, hy1, hy2⟩
    · cases h
theorem trod_parts : ∀ (n : Nat) {pl : List (TypeId × Nat)} {p : Nat} {d : D} {m : Nat} {cs : List Value} {xs : List (DataW H × List MemPlace)}, tyP P n pl p d = true →
    (∀ (i : Nat) (t : TypeId) (o : Nat), pl[i]? = some (t, o) → DataW.trod enc P w 0 sp held m t ((cs.drop o).take (P.cellsOf t)) = xs[i]?) → (∀ (i : Nat) (t : TypeId) (o : Nat) (x : DataW H × List MemPlace), pl[i]? = some (t, o) → xs[i]? = some x → ∀ z ∈ x.1.weights P t, z ≤ reachBytes) → (xs.length = pl.length) →
    ∃ y : d.T, Rd w (fun k => k < w.heap.size) d y ((cs.drop p).take d.sz) ∧ Wf d y ∧ True
  | 0, _, _, _, _, _, _, h, _, _, _ => by simp [tyP] at h
  | n + 1, [], _, _, _, _, _, h, _, _, _ => by simp [tyP] at h
  | n + 1, [(t, o)], p, d, m, cs, xs, h, hx, hw, hl => by
    simp only [tyP, Bool.and_eq_true, beq_iff_eq] at h
    obtain ⟨⟨rfl, h1⟩, h2⟩ := h
    have h0 := hx 0 t o rfl
    obtain ⟨x, hx0⟩ : ∃ x, xs[0]? = some x := ⟨_, List.getElem?_eq_getElem (by simp at hl; omega)⟩
    rw [hx0] at h0
    obtain ⟨y, hy1, hy2⟩ := trod_rd n h2 h0 (hw 0 t o x rfl hx0)
    exact ⟨y, by rw [← h1]; exact hy1, hy2, trivial⟩
  | n + 1, (t, o) :: q :: r, p, d, m, cs, xs, h, hx, hw, hl => by
    simp only [tyP] at h
    split at h
    · rename_i a b
      simp only [Bool.and_eq_true, beq_iff_eq] at h
      obtain ⟨⟨⟨rfl, h1⟩, h2⟩, h3⟩ := h
      have h0 := hx 0 t o rfl
      cases xs with
      | nil => simp at hl
      | cons x xs =>
        obtain ⟨y, hy1, hy2⟩ := trod_rd n h2 h0 (hw 0 t o x rfl rfl)
        obtain ⟨z, hz1, hz2, _⟩ := trod_parts n (xs := xs) h3 (cs := cs) (fun i t' o' hi => hx (i + 1) t' o' (by simpa using hi)) (fun i t' o' x' hi hxi => hw (i + 1) t' o' x' (by simpa using hi) (by simpa using hxi)) (by simpa using hl)
        refine ⟨(y, z), ⟨_, _, ?_, hy1, hz1⟩, ⟨hy2, hz2⟩, trivial⟩
        rw [h1, D.sz, List.take_add, List.drop_drop]
    · cases h
end

/-- AN ARGUMENT THAT IS A SLICE OF DATA. -/
theorem open_list {t e : TypeId} {a : D} {n : Nat} {v : Value} {dt : DataW H} {ps : List MemPlace} {r : Reach} {b0 : Nat} (h : tyD P n t (.list a) = true) (ht : P.underlying t = some (.slice e)) (hval : Value.okWide P w r b0 t v) (hd : DataW.Trod enc P w 0 sp held t v dt ps) (hw : ∀ m ∈ dt.weights P t, m ≤ reachBytes) :
    ∃ xs : List a.T, RS (DX w (fun k => k < w.heap.size)) (.c (.dat a xs)) v ∧ Wf (.list a) xs := by
  obtain ⟨fuel, hf⟩ := hd
  obtain ⟨xs, h1, h2⟩ := trod_rd n h hf hw
  refine ⟨xs, ?_, h2⟩
  obtain ⟨a', l', c', rfl⟩ := Go.WideShapes.okWide_slice ht hval
  exact h1

theorem okWide_arr {t e : TypeId} {n : Nat} {v : Value} {r : Reach} {b0 : Nat} (ht : P.underlying t = some (.array n e)) (h : Value.okWide P w r b0 t v) : ∃ cs, v = .agg cs := by
  simp only [Value.okWide, ht] at h
  obtain ⟨cs, h1, _⟩ := h
  exact ⟨cs, h1⟩
theorem okWide_str {t : TypeId} {fs : Array Field} {v : Value} {r : Reach} {b0 : Nat} (ht : P.underlying t = some (.struct fs)) (h : Value.okWide P w r b0 t v) : ∃ cs, v = .agg cs := by
  obtain ⟨cs, h1, _⟩ := Go.WideShapes.okWide_struct ht h
  exact ⟨cs, h1⟩

/-- AN ARGUMENT THAT IS AN AGGREGATE OF DATA. -/
theorem open_agg {t : TypeId} {d : D} {n : Nat} {v : Value} {dt : DataW H} {ps : List MemPlace} (h : tyD P n t d = true) (hv : ∃ cs, v = .agg cs) (hd : DataW.Trod enc P w 0 sp held t v dt ps) (hw : ∀ m ∈ dt.weights P t, m ≤ reachBytes) :
    ∃ y : d.T, RS (DX w (fun k => k < w.heap.size)) (.agg (d.cs y)) v ∧ Wf d y := by
  obtain ⟨fuel, hf⟩ := hd
  obtain ⟨y, h1, h2⟩ := trod_rd n h hf hw
  obtain ⟨cs, rfl⟩ := hv
  exact ⟨y, ⟨cs, rfl, rl_cs (x := DX w (fun k => k < w.heap.size)) h1⟩, h2⟩

theorem sized_each {ts : List TypeId} {ds : List (DataW H)} (h : (DataW.weightsEach P ts ds).all (· ≤ reachBytes) = true) {j : Nat} {t : TypeId} {d : DataW H} (ht : ts[j]? = some t) (hd : ds[j]? = some d) : ∀ m ∈ d.weights P t, m ≤ reachBytes := by
  intro m hm
  have := List.all_eq_true.1 h m (DataW.weights_mem_each ht hd m hm)
  simpa using this
end
end OE
