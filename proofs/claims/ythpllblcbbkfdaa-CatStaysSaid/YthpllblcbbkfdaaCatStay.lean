/- The plain laws of a catalog's changes: what was good stays good. Own work. -/
import Derived.Test.YthpllblcbbkfdaaCatTurn
import Derived.Test.YthpllblcbbkfdaaCatIndex
set_option linter.unusedVariables false
namespace Go.Proofs.Ythpllblcbbkfdaa
open Go Go.RowKit OE

/-- of two rules, one behind the other -/
def RuP (a b : RD.T) : Prop := (show Int from a.1) < b.1 ∧ alikeS a b = false
theorem goodL_iff (c : CD.T) : ∀ (l : List RD.T) (d : List RD.T) (last : Int), goodL c d last l = true ↔ (∀ r ∈ l, goodR c r = true ∧ last < (show Int from r.1)) ∧ l.Pairwise RuP ∧ ∀ q ∈ d, ∀ r ∈ l, alikeS q r = false
  | [], d, last => by simp [goodL]
  | r :: l, d, last => by
    have ih := goodL_iff c l (d ++ [r]) r.1
    simp only [goodL, Bool.and_eq_true, decide_eq_true_eq, Bool.not_eq_true', ih, List.pairwise_cons]
    constructor
    · rintro ⟨h1, h2, h3, h4, h5, h6⟩
      refine ⟨fun x hx => ?_, ⟨fun x hx => ⟨(h4 x hx).2, h6 r (by simp) x hx⟩, h5⟩, fun q hq x hx => ?_⟩
      · rcases List.mem_cons.1 hx with rfl | hx
        · exact ⟨h2, h1⟩
        · exact ⟨(h4 x hx).1, Int.lt_trans h1 (h4 x hx).2⟩
      · rcases List.mem_cons.1 hx with rfl | hx
        · rw [List.any_eq_false] at h3
          simpa using h3 q hq
        · exact h6 q (by simp [hq]) x hx
    · rintro ⟨h1, ⟨h2, h3⟩, h4⟩
      refine ⟨(h1 r (by simp)).2, (h1 r (by simp)).1, ?_, fun x hx => ⟨(h1 x (by simp [hx])).1, (h2 x hx).1⟩, h3, fun q hq x hx => ?_⟩
      · rw [List.any_eq_false]
        intro q hq
        simpa using h4 q hq r (by simp)
      · rcases List.mem_append.1 hq with hq | hq
        · exact h4 q hq x (by simp [hx])
        · rw [List.mem_singleton] at hq
          subst hq
          exact (h2 x hx).2
def IxP (c : CD.T) (x : ID.T) : Prop := hasT c.1 x.1 = true ∧ nameS x.2 = true
theorem idxL_iff (c : CD.T) : ∀ (l : List ID.T) (p : Option ID.T), idxL c p l = true ↔ (∀ x ∈ l, IxP c x) ∧ l.Pairwise (fun a b => ltIx a b = true) ∧ ∀ q, p = some q → ∀ x ∈ l, ltIx q x = true
  | [], p => by simp [idxL]
  | x :: l, p => by
    have ih := idxL_iff c l (some x)
    simp only [idxL, Bool.and_eq_true, Bool.not_eq_true', ih, List.pairwise_cons, Bool.or_eq_false_iff, Bool.not_eq_false']
    constructor
    · rintro ⟨⟨⟨h1, h2⟩, h3⟩, h4, h5, h6⟩
      have h6 := h6 x rfl
      refine ⟨fun y hy => ?_, ⟨h6, h5⟩, fun q hq y hy => ?_⟩
      · rcases List.mem_cons.1 hy with rfl | hy
        · exact ⟨h1, h2⟩
        · exact h4 y hy
      · subst hq
        have h3 : ltIx q x = true := by simpa using h3
        rcases List.mem_cons.1 hy with rfl | hy
        · exact h3
        · exact ltIx_trans h3 (h6 y hy)
    · rintro ⟨h1, ⟨h2, h3⟩, h4⟩
      refine ⟨⟨⟨(h1 x (by simp)).1, (h1 x (by simp)).2⟩, ?_⟩, fun y hy => h1 y (by simp [hy]), h3, fun q hq y hy => ?_⟩
      · cases p with
        | none => rfl
        | some q => simpa using h4 q rfl x (by simp)
      · cases hq
        exact h2 y hy

/-- a good catalog, in parts -/
structure GC (c : CD.T) : Prop where
  ty : typesS c = true
  x0 : (1 : Int) ≤ c.2.2.2.2
  x1 : (show Int from c.2.2.2.2) ≤ 1000000
  i1 : c.2.2.2.1.length ≤ 16
  i2 : ∀ x ∈ c.2.2.2.1, IxP c x
  i3 : c.2.2.2.1.Pairwise (fun a b => ltIx a b = true)
  r1 : ∀ r ∈ c.2.2.1, goodR c r = true ∧ (0 : Int) < (show Int from r.1)
  r2 : c.2.2.1.Pairwise RuP
  r3 : bldN c.2.2.1 ≤ 1
  r4 : c.2.2.1.length ≤ 16
theorem gc_iff (c : CD.T) : goodC c = true ↔ GC c := by
  have h1 := idxL_iff c c.2.2.2.1 none
  have h2 := goodL_iff c c.2.2.1 [] 0
  simp only [goodC, rulesS, idxS, Bool.and_eq_true, decide_eq_true_eq, h1, h2]
  constructor
  · rintro ⟨a, b, d, e, ⟨f, g, _⟩, ⟨i, j, _⟩, k, m⟩
    exact ⟨a, b, d, e, f, g, i, j, k, m⟩
  · rintro ⟨a, b, d, e, f, g, i, j, k, m⟩
    exact ⟨a, b, d, e, ⟨f, g, fun _ h => by cases h⟩, ⟨i, j, fun _ h => by cases h⟩, k, m⟩

theorem bld_sub {l l' : List RD.T} (h : l'.Sublist l) : bldN l' ≤ bldN l := List.Sublist.countP_le h
/-- rules that are left out -/
theorem gc_rules {c : CD.T} {l : List RD.T} (h : GC c) (hl : l.Sublist c.2.2.1) : GC (c.1, c.2.1, l, c.2.2.2.1, c.2.2.2.2) :=
  ⟨h.ty, h.x0, h.x1, h.i1, h.i2, h.i3, fun r hr => h.r1 r (hl.subset hr), List.Pairwise.sublist hl h.r2, Nat.le_trans (bld_sub hl) h.r3, Nat.le_trans hl.length_le h.r4⟩
theorem gc_idx {c : CD.T} {l : List ID.T} (h : GC c) (hl : l.Sublist c.2.2.2.1) : GC (c.1, c.2.1, c.2.2.1, l, c.2.2.2.2) :=
  ⟨h.ty, h.x0, h.x1, Nat.le_trans hl.length_le h.i1, fun x hx => h.i2 x (hl.subset hx), List.Pairwise.sublist hl h.i3, h.r1, h.r2, h.r3, h.r4⟩
theorem sub_cut {α : Type} (l : List α) (k : Nat) : (l.take k ++ l.drop (k + 1)).Sublist l := by
  have h : (l.take k ++ l.drop (k + 1)).Sublist (l.take k ++ l.drop k) := List.Sublist.append (List.Sublist.refl _) (by
    rw [← List.drop_drop]; exact List.drop_sublist 1 _)
  rwa [List.take_append_drop] at h

theorem stay_settle {c : CD.T} (h : goodC c = true) : goodC (settleS c) = true := by
  unfold settleS
  rw [if_neg (by rw [h]; decide)]
  exact (gc_iff _).2 (gc_rules ((gc_iff c).1 h) List.filter_sublist)
theorem stay_drop {c : CD.T} {id : Int} (h : (dropRS c id).2 = 0) : goodC (dropRS c id).1 = true ∧ (dropRS c id).1.2.2.2.2 = c.2.2.2.2 := by
  unfold dropRS at h ⊢
  split at h
  · cases h
  · rename_i hg
    rw [if_neg hg]
    split at h
    · rename_i hi
      rw [if_pos hi]
      exact ⟨(gc_iff _).2 (gc_rules ((gc_iff c).1 (by simpa using hg)) (sub_cut _ _)), rfl⟩
    · cases h
theorem stay_dropI {c : CD.T} {x : ID.T} (h : (dropIS c x).2 = 0) : goodC (dropIS c x).1 = true ∧ (dropIS c x).1.2.2.2.2 = c.2.2.2.2 := by
  unfold dropIS at h ⊢
  split at h
  · cases h
  · rename_i hg
    rw [if_neg hg]
    split at h
    · rename_i hi
      rw [if_pos hi]
      exact ⟨(gc_iff _).2 (gc_idx ((gc_iff c).1 (by simpa using hg)) (sub_cut _ _)), rfl⟩
    · cases h
theorem stay_enable {c : CD.T} {id : Int} (h : (enableS c id).2 = 0) : goodC (enableS c id).1 = true ∧ (enableS c id).1.2.2.2.2 = c.2.2.2.2 := by
  unfold enableS at h ⊢
  split at h
  · cases h
  · rename_i hg
    rw [if_neg hg]
    split at h
    · rename_i hi
      rw [dif_pos hi]
      split at h
      · rename_i hs
        rw [if_pos hs]
        refine ⟨?_, rfl⟩
        have hc := (gc_iff c).1 (by simpa using hg)
        generalize hj : idxR c.2.2.1 id = j at hi hs
        have hd : c.2.2.1 = c.2.2.1.take j ++ c.2.2.1[j] :: c.2.2.1.drop (j + 1) := by
          rw [← List.drop_eq_getElem_cons hi, List.take_append_drop]
        have he : c.2.2.1.set j (setE c.2.2.1[j]) = c.2.2.1.take j ++ setE c.2.2.1[j] :: c.2.2.1.drop (j + 1) := List.set_eq_take_append_cons_drop.trans (if_pos hi)
        have hj' : c.2.2.1[j] ∈ c.2.2.1 := List.getElem_mem hi
        have hgr : ∀ r, goodR c r = true → stR r = 1 → goodR c (setE r) = true := fun r h1 h2 => by
          simp only [goodR, Bool.and_eq_true, decide_eq_true_eq] at h1 ⊢
          exact ⟨h1.1, h1.2.1, h1.2.2.1, show (1 : Int) ≤ 2 by decide, show (2 : Int) ≤ 2 by decide⟩
        refine (gc_iff _).2 ⟨hc.ty, hc.x0, hc.x1, hc.i1, hc.i2, hc.i3, fun r hr => ?_, ?_, ?_, ?_⟩
        · rw [he] at hr
          rcases List.mem_append.1 hr with hr | hr
          · exact hc.r1 r (List.mem_of_mem_take hr)
          · rcases List.mem_cons.1 hr with rfl | hr
            · exact ⟨hgr _ (hc.r1 _ hj').1 hs, (hc.r1 _ hj').2⟩
            · exact hc.r1 r (List.mem_of_mem_drop hr)
        · rw [he]
          have hp := hc.r2
          rw [hd, List.pairwise_append, List.pairwise_cons] at hp
          rw [List.pairwise_append, List.pairwise_cons]
          obtain ⟨p1, ⟨p2, p3⟩, p4⟩ := hp
          refine ⟨p1, ⟨fun b hb => p2 b hb, p3⟩, fun a ha b hb => ?_⟩
          rcases List.mem_cons.1 hb with rfl | hb
          · exact p4 a ha c.2.2.1[j] List.mem_cons_self
          · exact p4 a ha b (List.mem_cons_of_mem _ hb)
        · show bldN (c.2.2.1.set j (setE c.2.2.1[j])) ≤ 1
          have h3 := hc.r3
          rw [hd] at h3
          rw [he]
          unfold bldN at *
          rw [List.countP_append, List.countP_cons] at h3 ⊢
          have h0 : (decide (stR (setE c.2.2.1[j]) = 1)) = false := show decide ((2 : Int) = 1) = false by decide
          rw [h0]
          simp only [Bool.false_eq_true, if_false]
          omega
        · rw [List.length_set]; exact hc.r4
      · cases h
    · cases h
theorem stay_add {c : CD.T} {r : RD.T} (h : (addRS c r).2.2 = 0) : goodC (addRS c r).1 = true ∧ (addRS c r).1.2.2.2.2 = nxtN c.2.2.2.2 ∧ (addRS c r).2.1 = c.2.2.2.2 := by
  unfold addRS at h ⊢
  split at h
  · cases h
  rename_i hg
  rw [if_neg hg]
  split at h
  · cases h
  rename_i h1
  rw [if_neg h1]
  split at h
  · cases h
  rename_i h2
  rw [if_neg h2]
  split at h
  · cases h
  rename_i h3
  rw [if_neg h3]
  split at h
  · cases h
  rename_i h4
  rw [if_neg h4]
  split at h
  · cases h
  rename_i h5
  rw [if_neg h5]
  refine ⟨?_, rfl, rfl⟩
  have hc := (gc_iff c).1 (by simpa using hg)
  have h1 : formS r = true := by simpa using h1
  have h2 : knownS c r = true := by simpa using h2
  have hx0 := hc.x0
  have hx1 := hc.x1
  have hx2 : (show Int from c.2.2.2.2) ≠ 1000000 := fun e => h5 (.inr e)
  have hlen : c.2.2.1.length ≠ 16 := fun e => h5 (.inl e)
  have h4 : ∀ q ∈ c.2.2.1, stR q ≠ 1 := fun q hq e => h4 (List.any_eq_true.2 ⟨q, hq, by simpa using e⟩)
  have h3 : ∀ q ∈ c.2.2.1, alikeS q r = false := fun q hq => by
    cases e : alikeS q r with
    | false => rfl
    | true => exact (h3 (List.any_eq_true.2 ⟨q, hq, e⟩)).elim
  have hlt : ∀ q ∈ c.2.2.1, (show Int from q.1) < c.2.2.2.2 := fun q hq => by
    have := (hc.r1 q hq).1
    simp only [goodR, Bool.and_eq_true, decide_eq_true_eq] at this
    exact this.1
  have hn : (show Int from c.2.2.2.2) < nxtN c.2.2.2.2 := (fun n => by unfold nxtN; omega : ∀ n : Int, n < nxtN n) _
  have hn1 : ∀ n : Int, 1 ≤ n → (1 : Int) ≤ nxtN n := fun n h => by unfold nxtN; omega
  have hn2 : ∀ n : Int, n ≤ 1000000 → n ≠ 1000000 → nxtN n ≤ 1000000 := fun n h h' => by unfold nxtN; omega
  refine (gc_iff _).2 ⟨hc.ty, hn1 _ hx0, hn2 _ hx1 hx2, hc.i1, hc.i2, hc.i3, fun q hq => ?_, ?_, ?_, ?_⟩
  · rcases List.mem_append.1 hq with hq | hq
    · have := hc.r1 q hq
      refine ⟨?_, this.2⟩
      have := this.1
      simp only [goodR, Bool.and_eq_true, decide_eq_true_eq] at this ⊢
      exact ⟨Int.lt_trans this.1 hn, this.2⟩
    · rw [List.mem_singleton] at hq
      subst hq
      refine ⟨?_, by show (0 : Int) < c.2.2.2.2; omega⟩
      simp only [goodR, Bool.and_eq_true, decide_eq_true_eq]
      exact ⟨hn, h1, h2, show (1 : Int) ≤ 1 by decide, show (1 : Int) ≤ 2 by decide⟩
  · rw [List.pairwise_append]
    refine ⟨hc.r2, List.pairwise_singleton _ _, fun a ha b hb => ?_⟩
    rw [List.mem_singleton] at hb
    subst hb
    exact ⟨hlt a ha, h3 a ha⟩
  · show bldN (c.2.2.1 ++ [newR c r]) ≤ 1
    unfold bldN
    rw [List.countP_append, List.countP_eq_zero.2 (fun q hq => by simpa using h4 q hq)]
    exact Nat.le_trans (Nat.add_le_add_left List.countP_le_length 0) (by simp)
  · show (c.2.2.1 ++ [newR c r]).length ≤ 16
    rw [List.length_append]
    have := hc.r4
    simp; omega
theorem take_pos {l : List ID.T} {x : ID.T} : ∀ y ∈ l.take (posI l x), ltIx y x = true := by
  intro y hy
  obtain ⟨i, hi, rfl⟩ := List.getElem_of_mem hy
  rw [List.getElem_take]
  have hi2 : i < posI l x := by rw [List.length_take] at hi; omega
  have := List.not_of_lt_findIdx (p := fun y => !ltIx y x) (xs := l) (i := i) hi2
  simpa using this
theorem stay_addI {c : CD.T} {x : ID.T} (h : (addIS c x).2 = 0) : goodC (addIS c x).1 = true ∧ (addIS c x).1.2.2.2.2 = c.2.2.2.2 := by
  unfold addIS at h ⊢
  split at h
  · cases h
  rename_i hg
  rw [if_neg hg]
  split at h
  · cases h
  rename_i h1
  rw [if_neg h1]
  split at h
  · cases h
  rename_i h2
  rw [if_neg h2]
  split at h
  · cases h
  rename_i h3
  rw [if_neg h3]
  split at h
  · cases h
  rename_i h4
  rw [if_neg h4]
  refine ⟨?_, rfl⟩
  have hc := (gc_iff c).1 (by simpa using hg)
  have h1 : nameS x.2 = true := by simpa using h1
  have h2 : hasT c.1 x.1 = true := by simpa using h2
  have hp := hc.i3
  rw [← List.take_append_drop (posI c.2.2.2.1 x) c.2.2.2.1, List.pairwise_append] at hp
  obtain ⟨p1, p2, p3⟩ := hp
  have hd : ∀ y ∈ c.2.2.2.1.drop (posI c.2.2.2.1 x), ltIx x y = true := by
    intro y hy
    have hmem := List.mem_of_mem_drop hy
    rcases Nat.lt_or_ge (posI c.2.2.2.1 x) c.2.2.2.1.length with hk | hk
    · rw [List.drop_eq_getElem_cons hk] at hy p2
      have hnl : ltIx c.2.2.2.1[posI c.2.2.2.1 x] x = false := by
        have := List.findIdx_getElem (p := fun y => !ltIx y x) (xs := c.2.2.2.1) (w := hk)
        rw [Bool.not_eq_true'] at this
        exact this
      have h0 : ltIx x c.2.2.2.1[posI c.2.2.2.1 x] = true := by
        rcases ltIx_tri c.2.2.2.1[posI c.2.2.2.1 x] x with h | h | h
        · rw [hnl] at h; cases h
        · exact (h3 (by rw [← h]; exact List.getElem_mem hk)).elim
        · exact h
      rcases List.mem_cons.1 hy with rfl | hy
      · exact h0
      · exact ltIx_trans h0 ((List.pairwise_cons.1 p2).1 y hy)
    · rw [List.drop_eq_nil_of_le hk] at hy; cases hy
  refine (gc_iff _).2 ⟨hc.ty, hc.x0, hc.x1, ?_, fun y hy => ?_, ?_, hc.r1, hc.r2, hc.r3, hc.r4⟩
  · show (c.2.2.2.1.take (posI c.2.2.2.1 x) ++ [x] ++ c.2.2.2.1.drop (posI c.2.2.2.1 x)).length ≤ 16
    have := hc.i1
    simp only [List.length_append, List.length_take, List.length_drop, List.length_cons, List.length_nil]
    omega
  · rcases List.mem_append.1 hy with hy | hy
    · rcases List.mem_append.1 hy with hy | hy
      · exact hc.i2 y (List.mem_of_mem_take hy)
      · rw [List.mem_singleton] at hy
        subst hy
        exact ⟨h2, h1⟩
    · exact hc.i2 y (List.mem_of_mem_drop hy)
  · show List.Pairwise _ (c.2.2.2.1.take (posI c.2.2.2.1 x) ++ [x] ++ c.2.2.2.1.drop (posI c.2.2.2.1 x))
    rw [List.append_assoc, List.pairwise_append]
    refine ⟨p1, ?_, fun a ha b hb => ?_⟩
    · rw [List.singleton_append, List.pairwise_cons]
      exact ⟨hd, p2⟩
    · rcases List.mem_append.1 hb with hb | hb
      · rw [List.mem_singleton] at hb
        subst hb
        exact take_pos a ha
      · exact p3 a ha b hb
end Go.Proofs.Ythpllblcbbkfdaa
