/- OE, part 3a: plain data as keys and values of maps: told equal, found, put. Own work. -/
import Derived.Test.YthpllblcbbkfdaaOeBase
import Derived.Maps.Keyed
set_option linter.unusedVariables false
namespace OE
open Go Go.RowKit

def eqL {α : Type} (f : α → α → Bool) : List α → List α → Bool
  | [], [] => true
  | a :: l, b :: m => f a b && eqL f l m
  | _, _ => false
theorem eqL_iff {α : Type} {f : α → α → Bool} (h : ∀ a b, f a b = true ↔ a = b) : ∀ {l m : List α}, eqL f l m = true ↔ l = m
  | [], [] => by simp [eqL]
  | a :: l, b :: m => by simp [eqL, h, eqL_iff h]
  | [], _ :: _ => by simp [eqL]
  | _ :: _, [] => by simp [eqL]
def D.eqb : (d : D) → d.T → d.T → Bool
  | .int _, a, b => decide ((a : Int) = b)
  | .bool, a, b => decide ((a : Bool) = b)
  | .str, a, b => decide ((a : List UInt8) = b)
  | .pair a b, p, q => a.eqb p.1 q.1 && b.eqb p.2 q.2
  | .list a, xs, ys => eqL a.eqb xs ys
theorem D.eqb_iff : ∀ (d : D) (x y : d.T), d.eqb x y = true ↔ x = y
  | .int _, a, b => by simp [D.eqb]
  | .bool, a, b => by simp [D.eqb]
  | .str, a, b => by simp [D.eqb]
  | .pair a b, p, q => by
    simp only [D.eqb, Bool.and_eq_true, D.eqb_iff a, D.eqb_iff b]
    constructor
    · rintro ⟨h1, h2⟩; exact Prod.ext h1 h2
    · rintro rfl; exact ⟨rfl, rfl⟩
  | .list a, xs, ys => eqL_iff (D.eqb_iff a)

instance D.decEq (d : D) : DecidableEq d.T := fun a b => decidable_of_iff (d.eqb a b = true) (d.eqb_iff a b)

theorem D.vs_len : ∀ {d : D} (y : d.T), d.plain = true → (d.vs y).length = d.sz
  | .int _, _, _ => rfl
  | .bool, _, _ => rfl
  | .str, _, _ => rfl
  | .pair a b, p, h => by
    simp only [D.plain, Bool.and_eq_true] at h
    simp [D.vs, D.sz, D.vs_len p.1 h.1, D.vs_len p.2 h.2]
  | .list _, _, h => by simp [D.plain] at h
theorem D.vs_inj : ∀ {d : D} {x y : d.T}, d.plain = true → d.vs x = d.vs y → x = y
  | .int _, x, y, _, h => by simpa [D.vs] using h
  | .bool, x, y, _, h => by simpa [D.vs] using h
  | .str, x, y, _, h => by
    simp only [D.vs, List.cons.injEq, and_true, Value.string.injEq, ByteArray.mk.injEq] at h
    exact List.toArray_inj h
  | .pair a b, p, q, hp, h => by
    simp only [D.plain, Bool.and_eq_true] at hp
    simp only [D.vs] at h
    have := List.append_inj h (by rw [D.vs_len _ hp.1, D.vs_len _ hp.1])
    exact Prod.ext (D.vs_inj hp.1 this.1) (D.vs_inj hp.2 this.2)
  | .list _, _, _, h, _ => by simp [D.plain] at h
theorem D.v_inj : ∀ {d : D} {x y : d.T}, d.plain = true → d.v x = d.v y → x = y
  | .int _, x, y, _, h => by simpa [D.v] using h
  | .bool, x, y, _, h => by simpa [D.v] using h
  | .str, x, y, _, h => by
    simp only [D.v, Value.string.injEq, ByteArray.mk.injEq] at h
    exact List.toArray_inj h
  | .pair a b, p, q, hp, h => by
    simp only [D.v, Value.agg.injEq] at h
    exact D.vs_inj (d := .pair a b) hp (List.toArray_inj h)
  | .list _, _, _, h, _ => by simp [D.plain] at h
theorem D.vs_rd {w : World} {ok : Nat → Prop} : ∀ {d : D} (y : d.T), d.plain = true → Rd w ok d y (d.vs y)
  | .int _, _, _ => rfl
  | .bool, _, _ => rfl
  | .str, _, _ => rfl
  | .pair a b, p, h => by
    simp only [D.plain, Bool.and_eq_true] at h
    exact ⟨_, _, rfl, D.vs_rd p.1 h.1, D.vs_rd p.2 h.2⟩
  | .list _, _, h => by simp [D.plain] at h
theorem rd_vs {w : World} {ok : Nat → Prop} : ∀ {d : D} {y : d.T} {cs : List Value}, d.plain = true → Rd w ok d y cs → cs = d.vs y
  | .int _, _, _, _, h => h
  | .bool, _, _, _, h => h
  | .str, _, _, _, h => h
  | .pair a b, p, _, h, hr => by
    simp only [D.plain, Bool.and_eq_true] at h
    obtain ⟨c1, c2, rfl, h1, h2⟩ := hr
    rw [rd_vs h.1 h1, rd_vs h.2 h2]; rfl
  | .list _, _, _, h, _ => by simp [D.plain] at h

section
variable {kd vd : D}
def midx : List (kd.T × vd.T) → kd.T → Option Nat
  | [], _ => none
  | p :: l, k => if kd.eqb p.1 k = true then some 0 else (midx l k).map (· + 1)
def mset (es : List (kd.T × vd.T)) (k : kd.T) (v : vd.T) : List (kd.T × vd.T) := match midx es k with
  | some i => es.set i (k, v)
  | none => es ++ [(k, v)]
def mval (es : List (kd.T × vd.T)) (k : kd.T) : vd.T := match midx es k with
  | some i => ((es[i]?).map (·.2)).getD vd.df
  | none => vd.df
def mhas (es : List (kd.T × vd.T)) (k : kd.T) : Bool := (midx es k).isSome

theorem midx_some : ∀ {es : List (kd.T × vd.T)} {k : kd.T} {i : Nat}, midx es k = some i → ∃ v, es[i]? = some (k, v)
  | p :: l, k, i, h => by
    simp only [midx] at h
    split at h
    · rename_i e
      cases h
      exact ⟨p.2, by simp [← (D.eqb_iff kd _ _).1 e]⟩
    · simp only [Option.map_eq_some_iff] at h
      obtain ⟨j, h1, rfl⟩ := h
      obtain ⟨v, hv⟩ := midx_some h1
      exact ⟨v, by simpa using hv⟩
  | [], _, _, h => by simp [midx] at h
theorem midx_none : ∀ {es : List (kd.T × vd.T)} {k : kd.T}, midx es k = none → ∀ p ∈ es, p.1 ≠ k
  | p :: l, k, h, q, hq => by
    simp only [midx] at h
    split at h
    · cases h
    · rename_i e
      simp only [Option.map_eq_none_iff] at h
      rcases List.mem_cons.1 hq with rfl | hq
      · intro e'; exact e ((D.eqb_iff kd _ _).2 e')
      · exact midx_none h q hq
  | [], _, _, _, hq => by simp at hq
theorem midx_at : ∀ {es : List (kd.T × vd.T)} {k : kd.T} {i : Nat} {v : vd.T}, es.Pairwise (fun p q => p.1 ≠ q.1) → es[i]? = some (k, v) → midx es k = some i
  | p :: l, k, 0, v, hd, h => by
    simp at h; subst h
    simp [midx, (D.eqb_iff kd _ _).2 rfl]
  | p :: l, k, i + 1, v, hd, h => by
    rw [List.pairwise_cons] at hd
    have hi : l[i]? = some (k, v) := by simpa using h
    have hne : ¬ kd.eqb p.1 k = true := fun e => hd.1 (k, v) (List.mem_of_getElem? hi) ((D.eqb_iff kd _ _).1 e)
    simp [midx, hne, midx_at hd.2 hi]
  | [], _, _, _, _, h => by simp at h

theorem mset_pairwise {es : List (kd.T × vd.T)} (h : es.Pairwise (fun p q => p.1 ≠ q.1)) (k : kd.T) (v : vd.T) : (mset es k v).Pairwise (fun p q => p.1 ≠ q.1) := by
  unfold mset
  split
  · rename_i i hi
    obtain ⟨u, hu⟩ := midx_some hi
    rw [List.pairwise_iff_getElem] at h ⊢
    intro a b ha hb hab
    have e1 : ∀ c (hc : c < (es.set i (k, v)).length), ((es.set i (k, v))[c]).1 = (es[c]'(by simpa using hc)).1 := by
      intro c hc
      rw [List.getElem_set]
      split
      · rename_i e; subst e
        rw [List.getElem?_eq_some_iff] at hu
        obtain ⟨h1, h2⟩ := hu
        rw [h2]
      · rfl
    rw [e1, e1]
    exact h a b (by simpa using ha) (by simpa using hb) hab
  · rename_i hn
    rw [List.pairwise_append]
    exact ⟨h, by simp, fun p hp q hq => by
      simp at hq; subst hq
      exact midx_none hn p hp⟩
end

end OE
