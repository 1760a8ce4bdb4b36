/- OE, part 4b: the operations on the call's own maps. Own work; generic over the program. -/
import Derived.Test.YthpllblcbbkfdaaOeEffect2
set_option linter.unusedVariables false
namespace OE
open Go Go.RowKit

variable {P : Program}

theorem tk_map {t k e : TypeId} {kd : D} (h : tkIs P t (.map k e kd) = true) : P.underlying t = some (.map k e) ∧ keyB P k kd = true := by
  simp only [tkIs] at h
  split at h
  · rename_i k' e' hu; simp at h; obtain ⟨⟨rfl, rfl⟩, h3⟩ := h; exact ⟨hu, h3⟩
  · cases h

/-- a datum out of a value -/
def psS (d : D) : SV → Option d.T
  | .c y => match d with
    | .pair _ _ => none
    | d => match d.ps [y] with | some (x, []) => some x | _ => none
  | .agg l => match d with
    | .pair a b => match (D.pair a b).ps l with | some (x, []) => some x | _ => none
    | _ => none
  | _ => none
/-- a datum's value, as an abstract value -/
def svD (d : D) (y : d.T) : SV := match d with
  | .pair a b => .agg ((D.pair a b).cs y)
  | .int k => .c (.int k y)
  | .bool => .c (.bool (.sym y))
  | .str => .c (.str y)
  | .list a => .c (.dat a y)
theorem svD_sound {x : Cx} : ∀ {d : D} (y : d.T), d.plain = true → RS x (svD d y) (d.v y)
  | .int _, _, _ => rfl
  | .bool, _, _ => rfl
  | .str, _, _ => rfl
  | .pair a b, p, h => ⟨_, rfl, rl_cs (D.vs_rd (w := x.w) (ok := x.ok) (d := .pair a b) p h)⟩
  | .list _, _, h => by simp [D.plain] at h
theorem psS_sound {x : Cx} : ∀ {d : D} {s : SV} {y : d.T} {v : Value}, d.plain = true → psS d s = some y → RS x s v → v = d.v y
  | .int k, .c c, y, v, hp, h, hv => by
    simp only [psS] at h
    split at h
    · rename_i y' hy
      cases h
      obtain ⟨c1, c2, e, h1, h2⟩ := D.ps_sound (x := x) (d := .int k) hy (vs := [v]) ⟨hv, trivial⟩
      have := rd_vs (d := .int k) rfl h1
      cases c2 with
      | nil => rw [List.append_nil] at e; rw [this] at e; simpa [D.vs, D.v] using e
      | cons _ _ => exact h2.elim
    · cases h
  | .bool, .c c, y, v, hp, h, hv => by
    simp only [psS] at h
    split at h
    · rename_i y' hy
      cases h
      obtain ⟨c1, c2, e, h1, h2⟩ := D.ps_sound (x := x) (d := .bool) hy (vs := [v]) ⟨hv, trivial⟩
      have := rd_vs (d := .bool) rfl h1
      cases c2 with
      | nil => rw [List.append_nil] at e; rw [this] at e; simpa [D.vs, D.v] using e
      | cons _ _ => exact h2.elim
    · cases h
  | .str, .c c, y, v, hp, h, hv => by
    simp only [psS] at h
    split at h
    · rename_i y' hy
      cases h
      obtain ⟨c1, c2, e, h1, h2⟩ := D.ps_sound (x := x) (d := .str) hy (vs := [v]) ⟨hv, trivial⟩
      have := rd_vs (d := .str) rfl h1
      cases c2 with
      | nil => rw [List.append_nil] at e; rw [this] at e; simpa [D.vs, D.v] using e
      | cons _ _ => exact h2.elim
    · cases h
  | .list a, .c c, y, v, hp, h, hv => by simp [D.plain] at hp
  | .pair a b, .agg l, y, v, hp, h, hv => by
    simp only [psS] at h
    split at h
    · rename_i y' hy
      cases h
      obtain ⟨vs, rfl, hl⟩ := hv
      obtain ⟨c1, c2, e, h1, h2⟩ := D.ps_sound (x := x) (d := .pair a b) hy hl
      have := rd_vs (d := .pair a b) hp h1
      cases c2 with
      | nil =>
        rw [List.append_nil] at e
        rw [this] at e
        show Value.agg vs = .agg _
        congr 1
        apply Array.ext'
        simpa using e
      | cons _ _ => exact h2.elim
    · cases h
  | .pair a b, .c c, y, v, hp, h, hv => by simp [psS] at h
  | .pair a b, .tup c, y, v, hp, h, hv => by simp [psS] at h
  | .pair a b, .un, y, v, hp, h, hv => by simp [psS] at h
  | .int _, .agg c, y, v, hp, h, hv => by simp [psS] at h
  | .int _, .tup c, y, v, hp, h, hv => by simp [psS] at h
  | .int _, .un, y, v, hp, h, hv => by simp [psS] at h
  | .bool, .agg c, y, v, hp, h, hv => by simp [psS] at h
  | .bool, .tup c, y, v, hp, h, hv => by simp [psS] at h
  | .bool, .un, y, v, hp, h, hv => by simp [psS] at h
  | .str, .agg c, y, v, hp, h, hv => by simp [psS] at h
  | .str, .tup c, y, v, hp, h, hv => by simp [psS] at h
  | .str, .un, y, v, hp, h, hv => by simp [psS] at h
  | .list _, .agg c, y, v, hp, h, hv => by simp [psS] at h
  | .list _, .tup c, y, v, hp, h, hv => by simp [psS] at h
  | .list _, .un, y, v, hp, h, hv => by simp [psS] at h

/-- the zero value of a type is a datum's -/
def zeroD (i : TI) : Bool := i.d.plain && (match i.d with | .pair _ _ => i.tk.agg | _ => !i.tk.agg) && allIs i.zero (i.d.vs i.d.df)

theorem valIs_inj {c : C} {u v : Value} (h1 : valIs c u = true) (h2 : valIs c v = true) : u = v := by
  cases c with
  | int k n => cases u <;> simp [valIs] at h1; cases v <;> simp [valIs] at h2; rw [← h1.1, ← h1.2, ← h2.1, ← h2.2]
  | bool b => cases u <;> simp [valIs] at h1; cases v <;> simp [valIs] at h2; rw [← h1, ← h2]
  | str s =>
    cases u <;> simp [valIs] at h1
    cases v <;> simp [valIs] at h2
    rename_i a b
    cases a; cases b
    have := h1.trans h2.symm
    simp only [Value.string.injEq, ByteArray.mk.injEq]
    exact Array.ext' (by simpa using this)
  | val w =>
    have key : ∀ u, valIs (.val w) u = true → u = w := by
      intro u h
      unfold valIs at h
      split at h <;> simp_all
    rw [key u h1, key v h2]
  | _ => simp [valIs] at h1
theorem allIs_inj : ∀ {l : List C} {m m' : List Value}, allIs l m = true → allIs l m' = true → m = m'
  | [], [], [], _, _ => rfl
  | c :: l, a :: m, b :: m', h1, h2 => by
    simp only [allIs, Bool.and_eq_true] at h1 h2
    rw [valIs_inj h1.1 h2.1, allIs_inj h1.2 h2.2]
  | [], _ :: _, _, h, _ => by simp [allIs] at h
  | [], [], _ :: _, _, h => by simp [allIs] at h
  | _ :: _, [], _, h, _ => by simp [allIs] at h
  | _ :: _, _ :: _, [], _, h => by simp [allIs] at h

theorem zeroD_sound {ti : Nat → Option TI} (ht : TabOk P ti) {t : TypeId} {i : TI} (hi : ti t = some i) (h : zeroD i = true) : ∀ w, (zeroValue t).run P w = .ok (i.d.v i.d.df) w := by
  simp only [zeroD, Bool.and_eq_true] at h
  obtain ⟨⟨hp, hag⟩, hz⟩ := h
  obtain ⟨j, z, hj, hjz, hzz⟩ := (ht.is hi).zero
  have : z = i.d.v i.d.df := by
    cases hd : i.d with
    | pair a b =>
      rw [hd] at hag hz
      simp only at hag
      rw [if_pos hag] at hzz
      obtain ⟨cs, rfl, h⟩ := hzz
      have := allIs_inj h hz
      show Value.agg cs = .agg _
      congr 1
      exact Array.ext' (by simpa using this)
    | list a => rw [hd] at hp; simp [D.plain] at hp
    | int k =>
      rw [hd] at hag hz
      have hag : i.tk.agg = false := by simpa using hag
      rw [if_neg (by simp [hag])] at hzz
      have := allIs_inj hzz hz
      simpa [D.vs, D.v] using this
    | bool =>
      rw [hd] at hag hz
      have hag : i.tk.agg = false := by simpa using hag
      rw [if_neg (by simp [hag])] at hzz
      have := allIs_inj hzz hz
      simpa [D.vs, D.v] using this
    | str =>
      rw [hd] at hag hz
      have hag : i.tk.agg = false := by simpa using hag
      rw [if_neg (by simp [hag])] at hzz
      have := allIs_inj hzz hz
      simpa [D.vs, D.v] using this
  intro w
  rw [← this]
  simp [zeroValue, typeInfo, hj, hjz]

theorem RL.at_ {α β : Type} {R : α → β → Prop} : ∀ {l : List α} {m : List β} (_ : RL R l m) {i : Nat} {b : β}, m[i]? = some b → ∃ a, l[i]? = some a ∧ R a b
  | [], [], _, i, b, h => by simp at h
  | x :: xs, y :: ys, h, 0, b, hb => by simp at hb; subst hb; exact ⟨x, rfl, h.1⟩
  | x :: xs, y :: ys, h, i + 1, b, hb => by simpa using RL.at_ h.2 (by simpa using hb)
  | [], _ :: _, h, _, _, _ => h.elim
  | _ :: _, [], h, _, _, _ => h.elim

abbrev DmR (kd vd : D) (p : kd.T × vd.T) (e : MapEntry) : Prop := e.key = kd.v p.1 ∧ e.val = vd.v p.2

theorem find_dmp {kt : TypeId} {kd vd : D} (hB : keyB P kt kd = true) {es : List (kd.T × vd.T)} {arr : Array MapEntry} (h : RL (DmR kd vd) es arr.toList) (hd : es.Pairwise (fun p q => p.1 ≠ q.1)) (hok : ∀ p ∈ es, kd.ok p.1)
    {y : kd.T} (hy : kd.ok y) (w : World) : (Instr.findKey kt (kd.v y) arr.toList).run P w = .ok ((midx es y).map fun i => (i, vd.v (mval es y))) w := by
  have K := keyB_keyed hB
  have hpl := keyB_plain hB
  obtain ⟨l, hl⟩ := keyB_of hB hy
  have hall : ∀ e ∈ arr.toList, ∃ l, keyOf P kt e.key = some l := by
    intro e he
    obtain ⟨i, hi⟩ := List.getElem?_of_mem he
    obtain ⟨p, hp, h1, _⟩ := RL.at_ h hi
    rw [h1]
    exact keyB_of hB (hok p (List.mem_of_getElem? hp))
  rcases K.find w hl arr.toList hall with ⟨h1, h2⟩ | ⟨j, e, h1, h2, h3⟩
  · have : midx es y = none := by
      cases hm : midx es y with
      | none => rfl
      | some i =>
        obtain ⟨v, hv⟩ := midx_some hm
        obtain ⟨e, he, h3, _⟩ := RL.get h hv
        exact (h2 e (List.mem_of_getElem? he) h3).elim
    rw [h1, this]; rfl
  · obtain ⟨p, hp, h4, h5⟩ := RL.at_ h h2
    have hk : p.1 = y := D.v_inj hpl (h4.symm.trans h3)
    have hm : midx es y = some j := midx_at hd (v := p.2) (by rw [hp, ← hk])
    rw [h1, hm]
    simp [mval, hm, hp, h5]

def mkV (ti : Nat → Option TI) (T : TypeId) (nx : Nat) : Option E := match ti T with
  | some ⟨.map _ e kd, _, _, _, _⟩ => match ti e with
    | some i => if zeroD i = true then some ⟨none, none, .c (.mp nx), [(nx, some (.dmp T kd i.d []))], nx + 1⟩ else (match kd with
      | .int kk => some ⟨none, none, .c (.mp nx), [(nx, some (.lmp T kk []))], nx + 1⟩
      | _ => none)
    | none => none
  | _ => none

theorem does_map {w0 : W0} {hp : List (Nat × Ob)} {nm : Nat → Prop} {nx : Nat} {η : Nat → Option Nat × Value} {w : World} (hnx : ¬ nm nx) (hH : RepH w0 hp nm η w) {ob : Ob}
    (hob : ∀ (x : Cx) b r, (x.η b).1 = some r → x.w.heap[r]? = some (.map #[] 0) → RO x b ob)
    {s : Sem Next} (hr : s.run P w = .ok (.value (.map (some w.heap.size))) (w.alloc (.map #[] 0))) :
    Does P w0 hp nm nx η w s ⟨none, none, .c (.mp nx), [(nx, some ob)], nx + 1⟩ := by
  have ht := turns_allocr (nx := nx) (hp := hp) (η := η) (w := w) (.map #[] 0)
  have hle := step_le (p := (some w.heap.size, undef)) (ob := ob) hnx hH rm_sub ht (fun k hk => .inl (by cases hk; exact Nat.le_refl _))
  refine ⟨_, _, _, upd η nx (some w.heap.size, undef), hr, .inl rfl, ?_, hle, ?_⟩
  · refine step_rep hnx hH rm_sub ht (fun k hk => .inl (by cases hk; simp)) (hob _ _ w.heap.size (by simp [cxS, upd]) ?_)
    exact heap_alloc_new w _
  · exact ⟨.inr ⟨Nat.le_refl _, Nat.lt_succ_self _⟩, w.heap.size, by simp [cxS, upd], rfl⟩

theorem mkV_sound {ti : Nat → Option TI} (ht : TabOk P ti) {w0 : W0} {hp : List (Nat × Ob)} {nm : Nat → Prop} {nx : Nat} {η : Nat → Option Nat × Value} {w : World} (hnx : ¬ nm nx) (hH : RepH w0 hp nm η w) {t : TypeId} {e : E}
    {ρ : Operand → Value} (h : mkV ti t nx = some e) {o : Oper} (ho : o.op = .makeMap t none) : OP e.hyp ∧ (OP e.pre → Does P w0 hp nm nx η w (execOp ρ o) e) := by
  have hrun : (execOp ρ o).run P w = .ok (.value (.map (some w.heap.size))) (w.alloc (.map #[] 0)) := by
    simp [execOp, ho, Instr.makeMap]
  unfold mkV at h
  split at h
  · split at h
    · split at h
      · cases h
        refine ⟨trivial, fun _ => does_map hnx hH (ob := .dmp _ _ _ []) (fun x b r h1 h2 => ⟨r, #[], h1, h2, trivial, by simp, by simp, by simp⟩) hrun⟩
      · split at h
        · cases h
          refine ⟨trivial, fun _ => does_map hnx hH (ob := .lmp _ _ []) (fun x b r h1 h2 => ⟨r, #[], h1, h2, trivial, by simp, by simp, by simp⟩) hrun⟩
        · cases h
    · cases h
  · cases h

/-- a map's block is turned -/
theorem does_put {w0 : W0} {hp : List (Nat × Ob)} {nm : Nat → Prop} {nx : Nat} {η : Nat → Option Nat × Value} {w : World} (hH : RepH w0 hp nm η w) {b r : Nat} {arr arr' : Array MapEntry} {c c' : Nat} {ob' : Ob} (hb : lk hp b ≠ none)
    (hr : (η b).1 = some r) (hw : w.heap[r]? = some (.map arr c))
    (hob : ∀ (x : Cx), (cxS w0 hp nm η w).le x → (x.η b).1 = some r → x.w.heap[r]? = some (.map arr' c') → RO x b ob') {s : Sem Next} {n : Next} {v : Value} {sv : SV} {pre : Option Prop}
    (hrun : s.run P w = .ok n { w with heap := w.heap.setIfInBounds r (.map arr' c') }) (hn : n = .value v ∨ (n = .skip ∧ v = undef)) (hv : ∀ x, RS x sv v) :
    Does P w0 hp nm nx η w s ⟨none, pre, sv, [(b, some ob')], nx⟩ := by
  have hlt : r < w.heap.size := (Array.getElem?_eq_some_iff.1 hw).1
  have hother : ∀ j, j ≠ r → ({ w with heap := w.heap.setIfInBounds r (.map arr' c') } : World).heap[j]? = w.heap[j]? := fun j hj => by
    simp [Array.getElem?_setIfInBounds_ne (Ne.symm hj)]
  have hnew : ({ w with heap := w.heap.setIfInBounds r (.map arr' c') } : World).heap[r]? = some (.map arr' c') := by simp [hlt]
  have hle : (cxS w0 hp nm η w).le (cxS w0 ((b, ob') :: rm hp b) nm η { w with heap := w.heap.setIfInBounds r (.map arr' c') }) := by
    refine ⟨fun _ _ => rfl, fun _ h => h, fun j ⟨g1, g2⟩ => ⟨⟨by simpa using g1.1, g1.2⟩, fun d hd => g2 d ?_⟩, fun j ⟨g1, g2⟩ => hother j (fun e => g2 b hb (by rw [e]; exact hr))⟩
    rw [lk_put] at hd
    by_cases hdb : d = b
    · subst hdb; exact hb
    · simpa [hdb] using hd
  obtain ⟨g1, g2⟩ := step_set (w' := { w with heap := w.heap.setIfInBounds r (.map arr' c') }) (ob' := ob') hH (b := b) (k := r) hb hr rfl rfl rfl (by simp) hother (hob _ hle hr hnew)
  unfold Does
  rw [nmE_same]
  exact ⟨n, v, _, η, hrun, hn, g1, g2, hv _⟩

def ment {kd vd : D} (es : List (kd.T × vd.T)) (y : kd.T) : List (kd.T × vd.T) := if mhas es y = true then es else es ++ [(y, vd.df)]
def mput {kd vd : D} (es : List (kd.T × vd.T)) (n : Nat) (v : vd.T) : List (kd.T × vd.T) := match es[n]? with
  | some p => es.set n (p.1, v)
  | none => es
def partD (d : D) (y : d.T) : Bool × List C := match svD d y with
  | .agg l => (true, l)
  | .c c => (false, [c])
  | _ => (false, [])
theorem partD_sound {x : Cx} {d : D} (y : d.T) (hp : d.plain = true) : RP x (partD d y) (d.v y) := by
  have h := svD_sound (x := x) y hp
  cases d with
  | pair a b => exact h
  | list a => simp [D.plain] at hp
  | int k => exact ⟨_, rfl, h⟩
  | bool => exact ⟨_, rfl, h⟩
  | str => exact ⟨_, rfl, h⟩

theorem rl_push {α β : Type} {R : α → β → Prop} : ∀ {l : List α} {m : List β} {a : α} {b : β}, RL R l m → R a b → RL R (l ++ [a]) (m ++ [b]) := fun h hab => RL.app h ⟨hab, trivial⟩
theorem rl_set' {α β : Type} {R : α → β → Prop} {a : α} {b : β} (hab : R a b) {n : Nat} {l : List α} {m : List β} (h : RL R l m) : RL R (l.set n a) (m.set n b) := RL.set hab n h

/-- what is told of a map's entries behind a put -/
theorem put_entries {kd vd : D} {es : List (kd.T × vd.T)} {arr : Array MapEntry} (h : RL (DmR kd vd) es arr.toList) (hb : ∀ (i : Nat) (e : MapEntry), arr[i]? = some e → e.born = i) (y : kd.T) (v : vd.T) :
    (midx es y = none → RL (DmR kd vd) (mset es y v) (arr.push { key := kd.v y, val := vd.v v, born := es.length }).toList ∧ (mset es y v).length = es.length + 1 ∧
      ∀ (i : Nat) (e : MapEntry), (arr.push { key := kd.v y, val := vd.v v, born := es.length })[i]? = some e → e.born = i) ∧
    (∀ i, midx es y = some i → RL (DmR kd vd) (mset es y v) (arr.modify i fun e => { e with key := kd.v y, val := vd.v v }).toList ∧ (mset es y v).length = es.length ∧
      ∀ (j : Nat) (e : MapEntry), (arr.modify i fun e => { e with key := kd.v y, val := vd.v v })[j]? = some e → e.born = j) := by
  have hlen : es.length = arr.size := by simpa using RL.len h
  refine ⟨fun hm => ?_, fun i hm => ?_⟩
  · unfold mset
    rw [hm]
    refine ⟨by rw [Array.toList_push]; exact rl_push h ⟨rfl, rfl⟩, by simp, fun i e he => ?_⟩
    rw [Array.getElem?_push] at he
    split at he
    · rename_i hi; cases he; exact hlen.trans hi.symm
    · exact hb i e he
  · unfold mset
    rw [hm]
    obtain ⟨u, hu⟩ := midx_some hm
    have hi : i < arr.size := by rw [← hlen]; exact (List.getElem?_eq_some_iff.1 hu).1
    have hset : (arr.modify i fun e => { e with key := kd.v y, val := vd.v v }).toList = arr.toList.set i { key := kd.v y, val := vd.v v, born := i } := by
      apply List.ext_getElem?
      intro j
      rw [List.getElem?_set, Array.getElem?_toList, Array.getElem?_modify, Array.getElem?_toList]
      by_cases hj : i = j
      · subst hj
        have hl : i < arr.toList.length := by simpa using hi
        simp only [if_true, hl, Array.getElem?_eq_getElem hi, Option.map_some]
        rw [hb i arr[i] (Array.getElem?_eq_getElem hi)]
      · simp [hj]
    refine ⟨by rw [hset]; exact rl_set' ⟨rfl, rfl⟩ h, by simp, fun j e he => ?_⟩
    rw [Array.getElem?_modify] at he
    split at he
    · rename_i hj
      subst hj
      simp only [Option.map_eq_some_iff] at he
      obtain ⟨e0, h1, rfl⟩ := he
      exact hb i e0 h1
    · exact hb j e he

def muV (ti : Nat → Option TI) (T : TypeId) (hp : List (Nat × Ob)) (nx : Nat) (m k x : SV) : Option E := match m with
  | .c (.mp b) => match ti T, lk hp b with
    | some ⟨.map _ _ kd0, _, _, _, _⟩, some (.dmp T' kd vd es) => if T' = T ∧ kd = kd0 ∧ vd.plain = true then (match psS kd k, psS vd x with
      | some y, some v => some ⟨none, some (kd.ok y), .un, [(b, some (.dmp T' kd vd (mset es y v)))], nx⟩
      | _, _ => none) else none
    | some ⟨.map _ _ (.int kk0), _, _, _, _⟩, some (.lmp T' kk es) => match k with
      | .c (.int kk' n) => if kk' = kk ∧ kk = kk0 ∧ T' = T ∧ (es.all fun p => decide (p.1 ≠ n)) = true then some ⟨none, some ((Lit.int kk n).wf = true), .un, [(b, some (.lmp T' kk (es ++ [(n, x)])))], nx⟩ else none
      | _ => none
    | _, _ => none
  | _ => none

theorem muV_sound {ti : Nat → Option TI} (ht : TabOk P ti) {w0 : W0} {hp hq : List (Nat × Ob)} {nm : Nat → Prop} {nx : Nat} {η : Nat → Option Nat × Value} {w : World} (hH : RepH w0 hp nm η w) (hs : ∀ b o, lk hq b = some o → lk hp b = some o) {t : TypeId} {m k x : SV} {e : E}
    {M Y X : Operand} {ρ : Operand → Value} (h : muV ti t hq nx m k x = some e) (hm : RS (cxS w0 hp nm η w) m (ρ M)) (hk : RS (cxS w0 hp nm η w) k (ρ Y)) (hx : RS (cxS w0 hp nm η w) x (ρ X)) {o : Oper} (ho : o.op = .mapUpdate t M Y X ∨ o.op = .insert t M Y X) :
    OP e.hyp ∧ (OP e.pre → Does P w0 hp nm nx η w (execOp ρ o) e) := by
  have hexec : execOp ρ o = (do Instr.mapUpdate t (ρ M) (ρ Y) (ρ X); pure .skip) := by
    rcases ho with ho | ho <;> simp only [execOp, ho]
  unfold muV at h
  split at h
  · rename_i b
    obtain ⟨_, r0, hr0, em⟩ := hm
    split at h
    · rename_i kt et kd0 _ _ _ _ T' kd vd es hi hlk
      split at h
      · rename_i hc
        obtain ⟨rfl, rfl, hvp⟩ := hc
        split at h
        · rename_i y v hy hv
          cases h
          refine ⟨trivial, fun hok => ?_⟩
          have hok : kd.ok y := hok
          obtain ⟨hu, hB⟩ := tk_map (ht.is hi).tk
          have K := keyB_keyed hB
          obtain ⟨l, hl⟩ := keyB_of hB hok
          have ek := psS_sound (keyB_plain hB) hy hk
          have ex := psS_sound hvp hv hx
          obtain ⟨r, arr, g1, g2, g3, g4, g5, g6⟩ := hH.obs b _ (hs _ _ hlk)
          have hrr : r = r0 := by have : some r = some r0 := g1.symm.trans hr0; simpa using this
          subst hrr
          have g2 : w.heap[r]? = some (.map arr es.length) := g2
          have hf := find_dmp hB g3 g5 g6 hok w
          obtain ⟨p1, p2⟩ := put_entries g3 g4 y v
          have hlk' : lk hp b ≠ none := by rw [hs _ _ hlk]; simp
          have hoks : ∀ p ∈ mset es y v, kd.ok p.1 := by
            intro p hp
            unfold mset at hp
            split at hp
            · rename_i i hi
              rcases List.mem_or_eq_of_mem_set hp with h | rfl
              · exact g6 p h
              · exact hok
            · simp only [List.mem_append, List.mem_singleton] at hp
              rcases hp with h | rfl
              · exact g6 p h
              · exact hok
          rw [hexec, em, ek, ex]
          cases hmi : midx es y with
          | none =>
            obtain ⟨q1, q2, q3⟩ := p1 hmi
            rw [hmi] at hf
            refine does_put (ob' := .dmp T' kd vd (mset es y v)) (v := undef) (sv := .un) (n := .skip) (arr' := arr.push { key := kd.v y, val := vd.v v, born := es.length }) (c' := es.length + 1) hH hlk' hr0 g2 (fun x hle h1 h2 => ⟨r, _, h1, by rw [q2]; exact h2, q1, q3, mset_pairwise g5 y v, hoks⟩) ?_ (.inr ⟨rfl, rfl⟩) (fun _ => trivial)
            simp only [Instr.mapUpdate, Sem.run_bind, und_run hu, Result.andThen_ok, Go.MapKept.run_getObj_map g2, K.check w false hl, hf, Option.map_none, Go.MapKept.run_setObj_map _ g2, Sem.run_pure]
          | some i =>
            obtain ⟨q1, q2, q3⟩ := p2 i hmi
            rw [hmi] at hf
            obtain ⟨u, hu'⟩ := midx_some hmi
            obtain ⟨e0, he0, hk0, _⟩ := RL.get g3 hu'
            have he0' : arr[i]? = some e0 := by simpa using he0
            refine does_put (ob' := .dmp T' kd vd (mset es y v)) (v := undef) (sv := .un) (n := .skip) (arr' := arr.modify i fun e => { e with key := kd.v y, val := vd.v v }) (c' := es.length) hH hlk' hr0 g2 (fun x hle h1 h2 => ⟨r, _, h1, by rw [q2]; exact h2, q1, q3, mset_pairwise g5 y v, hoks⟩) ?_ (.inr ⟨rfl, rfl⟩) (fun _ => trivial)
            have hk0 : e0.key = kd.v y := hk0
            simp only [Instr.mapUpdate, Sem.run_bind, und_run hu, Result.andThen_ok, Go.MapKept.run_getObj_map g2, K.check w false hl, hf, Option.map_some, he0', Option.getD_some, hk0, K.stays w hl, Go.MapKept.run_setObj_map _ g2, Sem.run_pure]
        · cases h
      · cases h
    · rename_i kt et kk0 _ _ _ _ T' kk es hi hlk
      split at h
      · rename_i kk' n
        split at h
        · rename_i hc
          obtain ⟨rfl, rfl, rfl, hall⟩ := hc
          cases h
          refine ⟨trivial, fun hok => ?_⟩
          have hok : (Lit.int kk' n).wf = true := hok
          obtain ⟨hu, hB⟩ := tk_map (ht.is hi).tk
          have K := keyB_keyed hB
          obtain ⟨l, hl⟩ := keyB_of hB (y := n) hok
          have hl : keyOf P kt (.int kk' n) = some l := hl
          have ek : ρ Y = .int kk' n := hk
          obtain ⟨r, arr, g1, g2, g3, g4, g6, g7⟩ := hH.obs b _ (hs _ _ hlk)
          have hrr : r = r0 := by have : some r = some r0 := g1.symm.trans hr0; simpa using this
          subst hrr
          have g2 : w.heap[r]? = some (.map arr es.length) := g2
          have hlen : es.length = arr.size := by simpa using RL.len g3
          have hkeys : ∀ e ∈ arr.toList, ∃ l, keyOf P kt e.key = some l := by
            intro e he
            obtain ⟨i, hi⟩ := List.getElem?_of_mem he
            obtain ⟨p, hp, h1, _⟩ := RL.at_ g3 hi
            rw [h1]
            exact keyB_of hB (y := p.1) (g6 p (List.mem_of_getElem? hp))
          have hf : (Instr.findKey kt (.int kk' n) arr.toList).run P w = .ok none w := by
            rcases K.find w hl arr.toList hkeys with ⟨h1, _⟩ | ⟨j, e, h1, h2, h3⟩
            · exact h1
            · obtain ⟨p, hp, h4, _⟩ := RL.at_ g3 h2
              have := List.all_eq_true.1 hall p (List.mem_of_getElem? hp)
              simp only [decide_eq_true_eq] at this
              have h5 : Value.int kk' p.1 = .int kk' n := h4.symm.trans h3
              simp only [Value.int.injEq, true_and] at h5
              exact (this h5).elim
          have hlk' : lk hp b ≠ none := by rw [hs _ _ hlk]; simp
          rw [hexec, em, ek]
          refine does_put (ob' := .lmp T' kk' (es ++ [(n, x)])) (v := undef) (sv := .un) (n := .skip) (arr' := arr.push { key := .int kk' n, val := ρ X, born := es.length }) (c' := es.length + 1) hH hlk' hr0 g2 (fun x' hle h1 h2 => ⟨r, _, h1, by rw [List.length_append]; exact h2, by
            rw [Array.toList_push]
            exact rl_push (RL.imp (fun _ _ ⟨a1, a2⟩ => ⟨a1, RS.mono hle a2⟩) g3) ⟨rfl, RS.mono hle hx⟩, fun i e he => ?_, fun p hp => ?_, by
            rw [List.pairwise_append]
            refine ⟨g7, by simp, fun p hp q hq => ?_⟩
            simp at hq; subst hq
            have := List.all_eq_true.1 hall p hp
            simpa using this⟩) ?_ (.inr ⟨rfl, rfl⟩) (fun _ => trivial)
          · rw [Array.getElem?_push] at he
            split at he
            · rename_i hi; cases he; exact hlen.trans hi.symm
            · exact g4 i e he
          · simp only [List.mem_append, List.mem_singleton] at hp
            rcases hp with h | rfl
            · exact g6 p h
            · exact hok
          · simp only [Instr.mapUpdate, Sem.run_bind, und_run hu, Result.andThen_ok, Go.MapKept.run_getObj_map g2, K.check w false hl, hf, Go.MapKept.run_setObj_map _ g2, Sem.run_pure]
        · cases h
      · cases h
    · cases h
  · cases h

def meV (ti : Nat → Option TI) (T : TypeId) (hp : List (Nat × Ob)) (nx : Nat) (m k : SV) : Option E := match m with
  | .c (.mp b) => match ti T, lk hp b with
    | some ⟨.map _ e kd0, _, _, _, _⟩, some (.dmp T' kd vd es) => match ti e with
      | some i => if T' = T ∧ kd = kd0 ∧ i.d = vd ∧ zeroD i = true then (match psS kd k with
        | some y => some ⟨none, some (kd.ok y), .tup [partD vd (mval es y), (false, [.int .i64 ((midx es y).getD es.length : Nat)])], [(b, some (.dmp T' kd vd (ment es y)))], nx⟩
        | none => none) else none
      | none => none
    | _, _ => none
  | _ => none

theorem meV_sound {ti : Nat → Option TI} (ht : TabOk P ti) {w0 : W0} {hp hq : List (Nat × Ob)} {nm : Nat → Prop} {nx : Nat} {η : Nat → Option Nat × Value} {w : World} (hH : RepH w0 hp nm η w) (hs : ∀ b o, lk hq b = some o → lk hp b = some o) {t : TypeId} {m k : SV} {e : E}
    {M Y : Operand} {ρ : Operand → Value} (h : meV ti t hq nx m k = some e) (hm : RS (cxS w0 hp nm η w) m (ρ M)) (hk : RS (cxS w0 hp nm η w) k (ρ Y)) {o : Oper} (ho : o.op = .mapEntry t M Y) :
    OP e.hyp ∧ (OP e.pre → Does P w0 hp nm nx η w (execOp ρ o) e) := by
  unfold meV at h
  split at h
  · rename_i b
    obtain ⟨_, r0, hr0, em⟩ := hm
    split at h
    · rename_i kt et kd0 _ _ _ _ T' kd vd es hi hlk
      split at h
      · rename_i i hie
        split at h
        · rename_i hc
          obtain ⟨rfl, rfl, rfl, hz⟩ := hc
          split at h
          · rename_i y hy
            cases h
            refine ⟨trivial, fun hok => ?_⟩
            have hok : kd.ok y := hok
            obtain ⟨hu, hB⟩ := tk_map (ht.is hi).tk
            have K := keyB_keyed hB
            obtain ⟨l, hl⟩ := keyB_of hB hok
            have ek := psS_sound (keyB_plain hB) hy hk
            have hvp : i.d.plain = true := by simp only [zeroD, Bool.and_eq_true] at hz; exact hz.1.1
            have hzero := zeroD_sound ht hie hz
            obtain ⟨r, arr, g1, g2, g3, g4, g5, g6⟩ := hH.obs b _ (hs _ _ hlk)
            have hrr : r = r0 := by have : some r = some r0 := g1.symm.trans hr0; simpa using this
            subst hrr
            have g2 : w.heap[r]? = some (.map arr es.length) := g2
            have hf := find_dmp hB g3 g5 g6 hok w
            have hlk' : lk hp b ≠ none := by rw [hs _ _ hlk]; simp
            have hlen : es.length = arr.size := by simpa using RL.len g3
            cases hmi : midx es y with
            | none =>
              rw [hmi] at hf
              have e1 : ment es y = mset es y i.d.df := by simp [ment, mset, mhas, hmi]
              have e2 : mval es y = i.d.df := by simp [mval, hmi]
              obtain ⟨q1, q2, q3⟩ := (put_entries g3 g4 y i.d.df).1 hmi
              rw [e1, e2]
              refine does_put (ob' := .dmp T' kd i.d (mset es y i.d.df)) (v := .tuple #[i.d.v i.d.df, .int .i64 es.length]) (n := .value (.tuple #[i.d.v i.d.df, .int .i64 es.length])) (arr' := arr.push { key := kd.v y, val := i.d.v i.d.df, born := es.length }) (c' := es.length + 1)
                hH hlk' hr0 g2 (fun x hle h1 h2 => ⟨r, _, h1, by rw [q2]; exact h2, q1, q3, mset_pairwise g5 y _, fun p hp => ?_⟩) ?_ (.inl rfl) (fun x => ⟨_, rfl, partD_sound _ hvp, ⟨_, rfl, rfl⟩, trivial⟩)
              · simp only [mset, hmi, List.mem_append, List.mem_singleton] at hp
                rcases hp with h | rfl
                · exact g6 p h
                · exact hok
              · simp only [execOp, ho, em, ek, Instr.mapEntry, Sem.run_bind, und_run hu, Result.andThen_ok, Go.MapKept.run_getObj_map g2, K.check w false hl, hf, Option.map_none, hzero, Go.MapKept.run_setObj_map _ g2, Sem.run_pure, goInt]
            | some j =>
              rw [hmi] at hf
              obtain ⟨u, hu'⟩ := midx_some hmi
              obtain ⟨e0, he0, hk0, _⟩ := RL.get g3 hu'
              have he0' : arr[j]? = some e0 := by simpa using he0
              have hk0 : e0.key = kd.v y := hk0
              have e1 : ment es y = es := by simp [ment, mhas, hmi]
              have hsame : (arr.modify j fun e => { e with key := kd.v y }) = arr := by
                apply Array.ext_getElem?
                intro n
                rw [Array.getElem?_modify]
                split
                · rename_i hn; subst hn
                  rw [he0']; simp [← hk0]
                · rfl
              rw [e1]
              refine does_put (ob' := .dmp T' kd i.d es) (v := .tuple #[i.d.v (mval es y), .int .i64 j]) (n := .value (.tuple #[i.d.v (mval es y), .int .i64 j])) (arr' := arr) (c' := es.length)
                hH hlk' hr0 g2 (fun x hle h1 h2 => ⟨r, _, h1, h2, g3, g4, g5, g6⟩) ?_ (.inl rfl) (fun x => ⟨_, rfl, partD_sound _ hvp, ⟨_, rfl, by simp [RC]⟩, trivial⟩)
              simp only [execOp, ho, em, ek, Instr.mapEntry, Sem.run_bind, und_run hu, Result.andThen_ok, Go.MapKept.run_getObj_map g2, K.check w false hl, hf, Option.map_some, he0', Option.getD_some, hk0, K.stays w hl, hsame, Go.MapKept.run_setObj_map _ g2, Sem.run_pure, goInt, g4 j e0 he0']
          · cases h
        · cases h
      · cases h
    · cases h
  · cases h

def esV (T : TypeId) (hp : List (Nat × Ob)) (nx : Nat) (m k x : SV) : Option E := match m, k with
  | .c (.mp b), .c (.int .i64 n) => match lk hp b with
    | some (.dmp T' kd vd es) => if vd.plain = true then (match psS vd x with
      | some v => some ⟨none, some (0 ≤ n ∧ n < es.length), .un, [(b, some (.dmp T' kd vd (mput es n.toNat v)))], nx⟩
      | none => none) else none
    | _ => none
  | _, _ => none

theorem esV_sound {w0 : W0} {hp hq : List (Nat × Ob)} {nm : Nat → Prop} {nx : Nat} {η : Nat → Option Nat × Value} {w : World} (hH : RepH w0 hp nm η w) (hs : ∀ b o, lk hq b = some o → lk hp b = some o) {t : TypeId} {m k x : SV} {e : E}
    {M Y X : Operand} {ρ : Operand → Value} (h : esV t hq nx m k x = some e) (hm : RS (cxS w0 hp nm η w) m (ρ M)) (hk : RS (cxS w0 hp nm η w) k (ρ Y)) (hx : RS (cxS w0 hp nm η w) x (ρ X)) {o : Oper} (ho : o.op = .entryStore t M Y X) :
    OP e.hyp ∧ (OP e.pre → Does P w0 hp nm nx η w (execOp ρ o) e) := by
  unfold esV at h
  split at h
  · rename_i b n
    obtain ⟨_, r0, hr0, em⟩ := hm
    have ek := rs_int hk
    split at h
    · rename_i T' kd vd es hlk
      split at h
      · rename_i hvp
        split at h
        · rename_i v hv
          cases h
          refine ⟨trivial, fun hb => ?_⟩
          have hb : 0 ≤ n ∧ n < es.length := hb
          have ex := psS_sound hvp hv hx
          obtain ⟨r, arr, g1, g2, g3, g4, g5, g6⟩ := hH.obs b _ (hs _ _ hlk)
          have hrr : r = r0 := by have : some r = some r0 := g1.symm.trans hr0; simpa using this
          subst hrr
          have g2 : w.heap[r]? = some (.map arr es.length) := g2
          have hlk' : lk hp b ≠ none := by rw [hs _ _ hlk]; simp
          have hlen : es.length = arr.size := by simpa using RL.len g3
          obtain ⟨j, rfl⟩ := Int.eq_ofNat_of_zero_le hb.1
          have hj : j < es.length := by omega
          rw [show ((j : Nat) : Int).toNat = j from rfl]
          have hes : es[j]? = some (es[j]) := List.getElem?_eq_getElem hj
          have hmid : midx es (es[j]).1 = some j := midx_at g5 (v := (es[j]).2) hes
          have e1 : mput es j v = mset es (es[j]).1 v := by simp [mput, mset, hmid, hes]
          obtain ⟨q1, q2, q3⟩ := (put_entries g3 g4 (es[j]).1 v).2 j hmid
          obtain ⟨e0, he0, hk0, _⟩ := RL.get g3 hes
          have he0' : arr[j]? = some e0 := by simpa using he0
          have hk0 : e0.key = kd.v (es[j]).1 := hk0
          have hsame : (arr.modify j fun e => { e with val := vd.v v }) = arr.modify j fun e => { e with key := kd.v (es[j]).1, val := vd.v v } := by
            apply Array.ext_getElem?
            intro n
            rw [Array.getElem?_modify, Array.getElem?_modify]
            split
            · rename_i hn; subst hn
              rw [he0']; simp [← hk0]
            · rfl
          have hfind : arr.findIdx? (fun e => (e.born : Int) == (j : Int)) = some j := by
            rw [Array.findIdx?_eq_some_iff_getElem]
            refine ⟨by omega, ?_, fun n hn => ?_⟩
            · have := g4 j arr[j] (Array.getElem?_eq_getElem (by omega))
              simp [this]
            · have := g4 n arr[n] (Array.getElem?_eq_getElem (by omega))
              simp [this]; omega
          rw [e1]
          refine does_put (ob' := .dmp T' kd vd (mset es (es[j]).1 v)) (v := undef) (sv := .un) (n := .skip) (arr' := arr.modify j fun e => { e with val := vd.v v }) (c' := es.length) hH hlk' hr0 g2 (fun x hle h1 h2 => ⟨r, _, h1, by rw [q2]; exact h2, by rw [hsame]; exact q1, by rw [hsame]; exact q3, mset_pairwise g5 _ v, fun p hp => ?_⟩) ?_ (.inr ⟨rfl, rfl⟩) (fun _ => trivial)
          · simp only [mset, hmid] at hp
            rcases List.mem_or_eq_of_mem_set hp with h | rfl
            · exact g6 p h
            · exact g6 (es[j]) (List.getElem_mem hj)
          · simp only [execOp, ho, em, ek, ex, Instr.entryStore, Sem.run_bind, Result.andThen_ok, Go.MapKept.run_getObj_map g2, asInt, asIntOf, Sem.run_pure, hfind, Go.MapKept.run_setObj_map _ g2, pure_bind]
        · cases h
      · cases h
    · cases h
  · cases h

/-- a lookup in a map of data -/
def lkV (ti : Nat → Option TI) (T : TypeId) (hp : List (Nat × Ob)) (m k : SV) (ok : Bool) : Option Q := match m with
  | .c (.mp b) => match ti T, lk hp b with
    | some ⟨.map _ e kd0, _, _, _, _⟩, some (.dmp T' kd vd es) => match ti e with
      | some i => if T' = T ∧ kd = kd0 ∧ i.d = vd ∧ zeroD i = true then (match psS kd k with
        | some y => some ⟨none, some (kd.ok y), match ok with | true => .tup [partD vd (mval es y), (false, [.bool (.sym (mhas es y))])] | false => svD vd (mval es y)⟩
        | none => none) else none
      | none => none
    | _, _ => none
  | _ => none

theorem lkV_sound {ti : Nat → Option TI} (ht : TabOk P ti) {w0 : W0} {hp hq : List (Nat × Ob)} {nm : Nat → Prop} {η : Nat → Option Nat × Value} {w : World} (hH : RepH w0 hp nm η w) (hs : ∀ b o, lk hq b = some o → lk hp b = some o) {t : TypeId} {m k : SV} {ok : Bool} {q : Q}
    {M Y : Operand} {ρ : Operand → Value} (h : lkV ti t hq m k ok = some q) (hm : RS (cxS w0 hp nm η w) m (ρ M)) (hk : RS (cxS w0 hp nm η w) k (ρ Y)) {o : Oper} (ho : o.op = .lookup t M Y ok) :
    OP q.hyp ∧ (OP q.pre → ∃ v, RS (cxS w0 hp nm η w) q.v v ∧ Yields P w v (execOp ρ o)) := by
  unfold lkV at h
  split at h
  · rename_i b
    obtain ⟨_, r0, hr0, em⟩ := hm
    split at h
    · rename_i kt et kd0 _ _ _ _ T' kd vd es hi hlk
      split at h
      · rename_i i hie
        split at h
        · rename_i hc
          obtain ⟨rfl, rfl, rfl, hz⟩ := hc
          split at h
          · rename_i y hy
            cases h
            refine ⟨trivial, fun hok => ?_⟩
            have hok : kd.ok y := hok
            obtain ⟨hu, hB⟩ := tk_map (ht.is hi).tk
            have K := keyB_keyed hB
            obtain ⟨l, hl⟩ := keyB_of hB hok
            have ek := psS_sound (keyB_plain hB) hy hk
            have hvp : i.d.plain = true := by simp only [zeroD, Bool.and_eq_true] at hz; exact hz.1.1
            have hzero := zeroD_sound ht hie hz
            obtain ⟨r, arr, g1, g2, g3, g4, g5, g6⟩ := hH.obs b _ (hs _ _ hlk)
            have hrr : r = r0 := by have : some r = some r0 := g1.symm.trans hr0; simpa using this
            subst hrr
            have g2 : w.heap[r]? = some (.map arr es.length) := g2
            have run : ∀ w', Below w.heap.size w w' → (execOp ρ o).run P w' = .ok (.value (if ok = true then .tuple #[i.d.v (mval es y), .bool (mhas es y)] else i.d.v (mval es y))) w' := by
              intro w' hw'
              have g2' : w'.heap[r]? = some (.map arr es.length) := (heap_below hw' g2).trans g2
              have hf := find_dmp hB g3 g5 g6 hok w'
              cases hmi : midx es y with
              | none =>
                rw [hmi] at hf
                have e2 : mval es y = i.d.df := by simp [mval, hmi]
                have e3 : mhas es y = false := by simp [mhas, hmi]
                rw [e2, e3]
                simp only [execOp, ho, em, ek, Instr.lookup, Sem.run_bind, und_run hu, Result.andThen_ok, Go.MapKept.run_getObj_map g2', Sem.run_pure, K.check w' _ hl, hf, Option.map_none, hzero]
              | some j =>
                rw [hmi] at hf
                have e3 : mhas es y = true := by simp [mhas, hmi]
                rw [e3]
                simp only [execOp, ho, em, ek, Instr.lookup, Sem.run_bind, und_run hu, Result.andThen_ok, Go.MapKept.run_getObj_map g2', Sem.run_pure, K.check w' _ hl, hf, Option.map_some]
            cases ok with
            | true => exact ⟨.tuple #[i.d.v (mval es y), .bool (mhas es y)], ⟨#[i.d.v (mval es y), .bool (mhas es y)], rfl, partD_sound _ hvp, ⟨_, rfl, rfl⟩, trivial⟩, run⟩
            | false => exact ⟨i.d.v (mval es y), svD_sound _ hvp, run⟩
          · cases h
        · cases h
      · cases h
    · cases h
  · cases h

/-- the quiet operations, and lookups -/
def qm (ti : Nat → Option TI) (hp : List (Nat × Ob)) (g : Operand → SV) (op : Op) : Option Q := match op with
  | .lookup t m k ok => lkV ti t hp (g m) (g k) ok
  | op => qv ti hp g op
theorem qm_sound {ti : Nat → Option TI} (ht : TabOk P ti) {w0 : W0} {hp hq : List (Nat × Ob)} {nm : Nat → Prop} {η : Nat → Option Nat × Value} {w : World} (hH : RepH w0 hp nm η w) (hs : ∀ b o, lk hq b = some o → lk hp b = some o)
    {g : Operand → SV} {ρ : Operand → Value} (hg : ∀ o, RS (cxS w0 hp nm η w) (g o) (ρ o)) {o : Oper} {q : Q} (h : qm ti hq g o.op = some q) :
    OP q.hyp ∧ (OP q.pre → ∃ v, RS (cxS w0 hp nm η w) q.v v ∧ Yields P w v (execOp ρ o)) := by
  unfold qm at h
  split at h
  · rename_i t m k ok ho
    exact lkV_sound ht hH hs h (hg m) (hg k) ho
  · exact qv_sound ht hH hs hg h

/-- the effects, and those on maps -/
def em (ti : Nat → Option TI) (hp : List (Nat × Ob)) (nx : Nat) (g : Operand → SV) (op : Op) : Option E := match op with
  | .makeMap t none => mkV ti t nx
  | .mapUpdate t m k x => muV ti t hp nx (g m) (g k) (g x)
  | .insert t m k x => muV ti t hp nx (g m) (g k) (g x)
  | .mapEntry t m k => meV ti t hp nx (g m) (g k)
  | .entryStore t m k x => esV t hp nx (g m) (g k) (g x)
  | op => ef ti hp nx g op
theorem em_nx {ti : Nat → Option TI} {hp : List (Nat × Ob)} {nx : Nat} {g : Operand → SV} {op : Op} {e : E} (h : em ti hp nx g op = some e) : nx ≤ e.nx ∧ e.nx ≤ nx + 1 := by
  unfold em at h
  split at h
  · unfold mkV at h; repeat' split at h
    all_goals first | (cases h; simp; done) | cases h
  · unfold muV at h; repeat' split at h
    all_goals first | (cases h; simp; done) | cases h
  · unfold muV at h; repeat' split at h
    all_goals first | (cases h; simp; done) | cases h
  · unfold meV at h; repeat' split at h
    all_goals first | (cases h; simp; done) | cases h
  · unfold esV at h; repeat' split at h
    all_goals first | (cases h; simp; done) | cases h
  · exact ef_nx h
theorem em_sound {ti : Nat → Option TI} (ht : TabOk P ti) {w0 : W0} {hp hq : List (Nat × Ob)} {nm : Nat → Prop} {nx : Nat} {η : Nat → Option Nat × Value} {w : World} (hnx : ¬ nm nx) (hH : RepH w0 hp nm η w) (hs : ∀ b o, lk hq b = some o → lk hp b = some o)
    {g : Operand → SV} {ρ : Operand → Value} (hg : ∀ o, RS (cxS w0 hp nm η w) (g o) (ρ o)) {o : Oper} {e : E} (h : em ti hq nx g o.op = some e) :
    OP e.hyp ∧ (OP e.pre → Does P w0 hp nm nx η w (execOp ρ o) e) := by
  unfold em at h
  split at h
  · rename_i t ho
    exact mkV_sound ht hnx hH h ho
  · rename_i t m k x ho
    exact muV_sound ht hH hs h (hg m) (hg k) (hg x) (.inl ho)
  · rename_i t m k x ho
    exact muV_sound ht hH hs h (hg m) (hg k) (hg x) (.inr ho)
  · rename_i t m k ho
    exact meV_sound ht hH hs h (hg m) (hg k) ho
  · rename_i t m k x ho
    exact esV_sound hH hs h (hg m) (hg k) (hg x) ho
  · exact ef_sound ht hnx hH hs hg h

/-- a lookup in a literal map: what is in it, the key, what it yields at a key that is not there -/
def lmL (ti : Nat → Option TI) (hp : List (Nat × Ob)) (g : Operand → SV) : Op → Option (IntKind × List (Int × SV) × Int × C × Bool)
  | .lookup T m k ok => match g m, g k with
    | .c (.mp b), .c (.int kk' n) => match ti T, lk hp b with
      | some ⟨.map _ e (.int kk0), _, _, _, _⟩, some (.lmp T' kk es) => match ti e with
        | some ⟨tk, _, _, [z], _⟩ => if T' = T ∧ kk' = kk ∧ kk0 = kk ∧ tk.agg = false then some (kk, es, n, z, ok) else none
        | _ => none
      | _, _ => none
    | _, _ => none
  | _ => none
/-- what a lookup hands on -/
def lkR (ok found : Bool) (v : SV) : SV := match ok with
  | false => v
  | true => match v with
    | .c c => .tup [(false, [c]), (false, [.bool (BE.of found)])]
    | .agg l => .tup [(true, l), (false, [.bool (BE.of found)])]
    | _ => .un
def lkS (n : Int) (K : Bool → SV → Prop) (z : C) : List (Int × SV) → Prop
  | [] => K false (.c z)
  | (a, v) :: l => (decide (n = a) = true → K true v) ∧ (decide (n = a) = false → lkS n K z l)
theorem lkS_in {n : Int} {K : Bool → SV → Prop} {z : C} : ∀ {es : List (Int × SV)} (_ : lkS n K z es) (_ : es.Pairwise (fun p q => p.1 ≠ q.1)) {j : Nat} {v : SV}, es[j]? = some (n, v) → K true v
  | (a, u) :: l, h, hd, 0, v, hj => by
    simp at hj
    obtain ⟨rfl, rfl⟩ := hj
    exact h.1 (by simp)
  | (a, u) :: l, h, hd, j + 1, v, hj => by
    rw [List.pairwise_cons] at hd
    have hj : l[j]? = some (n, v) := by simpa using hj
    have hne : a ≠ n := hd.1 (n, v) (List.mem_of_getElem? hj)
    exact lkS_in (h.2 (by simpa using Ne.symm hne)) hd.2 hj
  | [], _, _, _, _, hj => by simp at hj
theorem lkS_out {n : Int} {K : Bool → SV → Prop} {z : C} : ∀ {es : List (Int × SV)} (_ : lkS n K z es), (∀ p ∈ es, p.1 ≠ n) → K false (.c z)
  | [], h, _ => h
  | (a, u) :: l, h, hn => lkS_out (h.2 (by simpa using Ne.symm (hn (a, u) (by simp)))) (fun p hp => hn p (by simp [hp]))

theorem lmL_sound {ti : Nat → Option TI} (ht : TabOk P ti) {w0 : W0} {hp : List (Nat × Ob)} {nm : Nat → Prop} {η : Nat → Option Nat × Value} {w : World} (hH : RepH w0 hp nm η w)
    {g : Operand → SV} {ρ : Operand → Value} (hg : ∀ o, RS (cxS w0 hp nm η w) (g o) (ρ o)) {o : Oper} {kk : IntKind} {es : List (Int × SV)} {n : Int} {z : C} {ok : Bool} (h : lmL ti hp g o.op = some (kk, es, n, z, ok))
    (hwf : (Lit.int kk n).wf = true) {K : Bool → SV → Prop} (hK : lkS n K z es) : ∃ f sv v, K f sv ∧ RS (cxS w0 hp nm η w) (lkR ok f sv) v ∧ (execOp ρ o).run P w = .ok (.value v) w := by
  unfold lmL at h
  split at h
  · rename_i T m k ok' ho
    split at h
    · rename_i b kk' n' hm hk
      have hm' := hg m
      rw [hm] at hm'
      obtain ⟨_, r0, hr0, em⟩ := hm'
      have ek := hg k
      rw [hk] at ek
      have ek : ρ k = .int kk' n' := ek
      split at h
      · rename_i kt e kk0 _ _ _ _ T' kk1 es' hi hlk
        split at h
        · rename_i tk _ _ z' _ hie
          split at h
          · rename_i hc
            obtain ⟨rfl, rfl, rfl, hag⟩ := hc
            simp only [Option.some.injEq, Prod.mk.injEq] at h
            obtain ⟨rfl, rfl, rfl, rfl, rfl⟩ := h
            obtain ⟨hu, hB⟩ := tk_map (ht.is hi).tk
            have Kd := keyB_keyed hB
            obtain ⟨l, hl⟩ := keyB_of hB (y := n') hwf
            have hl : keyOf P kt (.int kk0 n') = some l := hl
            obtain ⟨zv, hz1, hz2, hz3⟩ := zero_sound ht hie
            obtain ⟨r, arr, g1, g2, g3, g4, g6, g7⟩ := hH.obs b _ hlk
            have hrr : r = r0 := by have : some r = some r0 := g1.symm.trans hr0; simpa using this
            subst hrr
            have g2 : w.heap[r]? = some (.map arr es'.length) := g2
            have hkeys : ∀ e ∈ arr.toList, ∃ l, keyOf P kt e.key = some l := by
              intro e he
              obtain ⟨i, hi⟩ := List.getElem?_of_mem he
              obtain ⟨p, hp, h1, _⟩ := RL.at_ g3 hi
              rw [h1]
              exact keyB_of hB (y := p.1) (g6 p (List.mem_of_getElem? hp))
            have fin : ∀ (f : Bool) (sv : SV) (v : Value), RS (cxS w0 hp nm η w) sv v → (∀ vs, sv ≠ .tup vs) → sv ≠ .un → RS (cxS w0 hp nm η w) (lkR ok' f sv) (if ok' = true then .tuple #[v, .bool f] else v) := by
              intro f sv v hv h1 h2
              cases ok' with
              | false => exact hv
              | true =>
                cases sv with
                | c c => exact ⟨_, rfl, ⟨_, rfl, hv⟩, ⟨_, rfl, by show Value.bool f = .bool (BE.of f).v; rw [BE.of_v]⟩, trivial⟩
                | agg l => exact ⟨_, rfl, hv, ⟨_, rfl, by show Value.bool f = .bool (BE.of f).v; rw [BE.of_v]⟩, trivial⟩
                | tup l => exact (h1 l rfl).elim
                | un => exact (h2 rfl).elim
            have any : ∀ (f : Bool) (sv : SV) (v : Value), RS (cxS w0 hp nm η w) sv v → ∃ u, RS (cxS w0 hp nm η w) (lkR ok' f sv) u ∧ u = (if ok' = true then .tuple #[v, .bool f] else v) := by
              intro f sv v hv
              refine ⟨_, ?_, rfl⟩
              cases sv with
              | c c => exact fin f _ v hv (by simp) (by simp)
              | agg l => exact fin f _ v hv (by simp) (by simp)
              | tup l => cases ok' with | false => exact hv | true => exact trivial
              | un => cases ok' <;> exact trivial
            rcases Kd.find w hl arr.toList hkeys with ⟨h1, h2⟩ | ⟨j, e, h1, h2, h3⟩
            · have hnot : ∀ p ∈ es', p.1 ≠ n' := by
                intro p hp he
                obtain ⟨i, hi⟩ := List.getElem?_of_mem hp
                obtain ⟨e, he1, he2, _⟩ := RL.get g3 hi
                exact h2 e (List.mem_of_getElem? he1) (by rw [he2, he])
              have hzc : RS (cxS w0 hp nm η w) (.c z') zv := by
                have hr := hz3 (cxS w0 hp nm η w)
                obtain ⟨u, us, hcs, hu1, hu2⟩ := rl_cons hr
                cases us with
                | cons _ _ => exact hu2.elim
                | nil =>
                  obtain ⟨j0, z0, hj0, hz0, hzz⟩ := (ht.is hie).zero
                  simp only [hag, Bool.false_eq_true, if_false] at hzz
                  have hzv : zv = z0 := by
                    have := hz1 w
                    simp [zeroValue, typeInfo, hj0, hz0] at this
                    exact this.symm
                  rw [hzv]
                  simp only [allIs, Bool.and_true] at hzz
                  exact rc_of_valIs hzz
              obtain ⟨u, hu1, hu2⟩ := any false (.c z') zv hzc
              refine ⟨false, _, u, lkS_out hK hnot, hu1, ?_⟩
              rw [hu2]
              simp only [execOp, ho, em, ek, Instr.lookup, Sem.run_bind, und_run hu, Result.andThen_ok, Go.MapKept.run_getObj_map g2, Sem.run_pure, Kd.check w _ hl, h1, hz1]
            · obtain ⟨p, hp, h4, h5⟩ := RL.at_ g3 h2
              have h6 : Value.int kk0 p.1 = .int kk0 n' := h4.symm.trans h3
              simp only [Value.int.injEq, true_and] at h6
              obtain ⟨u, hu1, hu2⟩ := any true p.2 e.val h5
              refine ⟨true, p.2, u, lkS_in hK g7 (j := j) (by rw [hp, ← h6]), hu1, ?_⟩
              rw [hu2]
              simp only [execOp, ho, em, ek, Instr.lookup, Sem.run_bind, und_run hu, Result.andThen_ok, Go.MapKept.run_getObj_map g2, Sem.run_pure, Kd.check w _ hl, h1]
          · cases h
        · cases h
      · cases h
    · cases h
  · cases h

end OE
