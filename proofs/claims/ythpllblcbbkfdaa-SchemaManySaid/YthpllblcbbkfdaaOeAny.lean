/- OE, part 13: a region that draws its order, in general: whatever order, the state at the end is the text's. Own work; generic over the program. -/
import Derived.Test.YthpllblcbbkfdaaOeDraw
import Derived.Orders
set_option linter.unusedVariables false
namespace OE
open Go Go.RowKit

/-! ### writes, one list after the other, of those that are wanted -/

def asg {α : Type} : (Nat → α) → List (Nat × α) → Nat → α
  | σ, [] => σ
  | σ, (t, v) :: r => asg (fun c => if c = t then v else σ c) r
def keys {α : Type} (l : List (Nat × α)) : List Nat := l.map (·.1)
def runA {α : Type} : (Nat → Bool) → List (List (Nat × α)) → (Nat → α) → Nat → α
  | _, [], σ => σ
  | E, ws :: l, σ => runA (fun k => E (k + 1)) l (if E 0 = true then asg σ ws else σ)

theorem asg_not {α : Type} {t : Nat} : ∀ {ws : List (Nat × α)} {σ : Nat → α}, t ∉ keys ws → asg σ ws t = σ t
  | [], _, _ => rfl
  | (c, v) :: r, σ, h => by
    simp only [keys, List.map_cons, List.mem_cons, not_or] at h
    simp only [asg]
    rw [asg_not (ws := r) (by simpa [keys] using h.2)]
    simp [h.1]
theorem asg_congr {α : Type} {t : Nat} : ∀ {ws : List (Nat × α)} {σ σ' : Nat → α}, σ t = σ' t → asg σ ws t = asg σ' ws t
  | [], _, _, h => h
  | (c, v) :: r, σ, σ', h => by
    simp only [asg]
    exact asg_congr (by simp [h])
theorem asg_in {α : Type} {t : Nat} : ∀ {ws : List (Nat × α)} {σ σ' : Nat → α}, t ∈ keys ws → asg σ ws t = asg σ' ws t
  | (c, v) :: r, σ, σ', h => by
    simp only [asg]
    by_cases hc : t = c
    · subst hc; exact asg_congr (by simp)
    · simp only [keys, List.map_cons, List.mem_cons] at h
      rcases h with h | h
      · exact (hc h).elim
      · exact asg_in h
  | [], _, _, h => by simp [keys] at h

theorem runA_congr {α : Type} {t : Nat} : ∀ {l : List (List (Nat × α))} {E E' : Nat → Bool} {σ σ' : Nat → α}, (∀ i ws, l[i]? = some ws → t ∈ keys ws → E i = E' i) → σ t = σ' t → runA E l σ t = runA E' l σ' t
  | [], _, _, _, _, _, h => h
  | ws :: l, E, E', σ, σ', hE, h => by
    simp only [runA]
    refine runA_congr (fun i ws' hi ht => hE (i + 1) ws' (by simpa using hi) ht) ?_
    by_cases ht : t ∈ keys ws
    · rw [hE 0 ws rfl ht]
      split
      · exact asg_congr h
      · exact h
    · have h1 : ∀ (b : Bool) (τ : Nat → α), (if b = true then asg τ ws else τ) t = τ t := by
        intro b τ; split
        · exact asg_not ht
        · rfl
      rw [h1, h1, h]

theorem runA_none {α : Type} : ∀ {l : List (List (Nat × α))} {E : Nat → Bool} {σ : Nat → α} {t : Nat}, (∀ i ws, l[i]? = some ws → t ∈ keys ws → E i = false) → runA E l σ t = σ t
  | [], _, _, _, _ => rfl
  | ws :: l, E, σ, t, h => by
    simp only [runA]
    rw [runA_none (fun i ws' hi => h (i + 1) ws' (by simpa using hi))]
    split
    · rename_i h0
      by_cases ht : t ∈ keys ws
      · rw [h 0 ws rfl ht] at h0; cases h0
      · exact asg_not ht
    · rfl

theorem runA_add {α : Type} {t : Nat} : ∀ {l : List (List (Nat × α))} {E E' : Nat → Bool} {σ : Nat → α} {j : Nat} {wj : List (Nat × α)}, l[j]? = some wj → E j = false → E' j = true → (∀ i, i ≠ j → E' i = E i) →
    (∀ i ws, j < i → l[i]? = some ws → t ∈ keys ws → t ∈ keys wj → E i = false) → runA E' l σ t = asg (runA E l σ) wj t := by
  intro l E E' σ j wj hj h0 h1 hE hlate
  by_cases ht : t ∈ keys wj
  · induction l generalizing E E' σ j with
    | nil => simp at hj
    | cons ws l ih =>
      simp only [runA]
      cases j with
      | zero =>
        simp only [List.getElem?_cons_zero, Option.some.injEq] at hj
        subst hj
        rw [if_pos h1]
        rw [runA_none (fun i ws' hi htt => by
          show E' (i + 1) = false
          rw [hE (i + 1) (by omega)]
          exact hlate (i + 1) ws' (by omega) (by simpa using hi) htt ht)]
        exact asg_in ht
      | succ j =>
        have := ih (E := fun k => E (k + 1)) (E' := fun k => E' (k + 1)) (σ := if E' 0 = true then asg σ ws else σ) (j := j) (by simpa using hj) h0 h1 (fun i hi => hE (i + 1) (by omega)) (fun i ws' hi hl => hlate (i + 1) ws' (by omega) (by simpa using hl))
        rw [this]
        exact asg_in ht
  · rw [asg_not ht]
    refine runA_congr (fun i ws hi htt => ?_) rfl
    by_cases hij : i = j
    · subst hij
      rw [hj] at hi
      cases hi
      exact (ht htt).elim
    · exact hE i hij

/-! ### what one operation of a region does -/

structure Rec where
  fin : List (Nat × SV)
  hin : List (Nat × Ob)
  v : SV
  ch : List (Nat × Option Ob)

def slotW (nt : Nat) (dst : Option Tmp) (v : SV) : List (Nat × Option SV) :=
  match dst with
  | none => []
  | some d => if d < nt then [(d, some v)] else []

theorem lk_putF (nt : Nat) (fr : List (Nat × SV)) (dst : Option Tmp) (v : SV) (t : Nat) : lk (putF nt fr dst v) t = asg (lk fr) (slotW nt dst v) t := by
  unfold putF slotW
  cases dst with
  | none => rfl
  | some d =>
    dsimp only
    split
    · rfl
    · rfl
theorem lk_apC : ∀ (ch : List (Nat × Option Ob)) (hp : List (Nat × Ob)) (b : Nat), lk (apC hp ch) b = asg (lk hp) ch b
  | [], _, _ => rfl
  | (c, some o) :: r, hp, b => by
    simp only [apC, asg]
    rw [lk_apC r]
    refine asg_congr ?_
    rw [lk_put]
  | (c, none) :: r, hp, b => by
    simp only [apC, asg]
    rw [lk_apC r]
    refine asg_congr ?_
    rw [lk_rm]

theorem RepH.wider {w0 : W0} {hp : List (Nat × Ob)} {nm nm' : Nat → Prop} {η : Nat → Option Nat × Value} {w : World} (h : ∀ b, nm b → nm' b) (hH : RepH w0 hp nm η w) : RepH w0 hp nm' η w ∧ (cxS w0 hp nm η w).le (cxS w0 hp nm' η w) := by
  have hle : (cxS w0 hp nm η w).le (cxS w0 hp nm' η w) := ⟨fun _ _ => rfl, h, fun _ h => h, fun _ _ => rfl⟩
  exact ⟨⟨fun b o ho => RO.mono hle (hH.nxt b (by rw [ho]; simp)) (fun _ _ => rfl) (hH.obs b o ho), hH.sep, hH.new, fun b hb => h b (hH.nxt b hb), hH.bel⟩, hle⟩

theorem RepF.part {x : Cx} {nt : Nat} {fr fr' : List (Nat × SV)} {a : Act} (h : RepF x nt fr a) (hs : ∀ t s, lk fr' t = some s → lk fr t = some s) : RepF x nt fr' a :=
  ⟨fun t s ht => h.sl t s (hs t s ht), h.siz, h.dfr⟩

/-- what the operation does, wherever what it reads is as told -/
def Vld (E : En) (cur : FI) (all : Array Oper) (o : Oper) (nn : Nat) (r : Rec) : Prop :=
  ∀ (w0 : W0) (hp : List (Nat × Ob)) (nm : Nat → Prop) (η : Nat → Option Nat × Value) (a : Act) (w : World) (fr : List (Nat × SV)), RepH w0 hp nm η w → RepF (cxS w0 hp nm η w) cur.nt fr a → ¬ nm nn →
    (∀ t s, lk r.fin t = some s → lk fr t = some s) → (∀ b ob, lk r.hin b = some ob → lk hp b = some ob) →
    ∀ (K : Act → World → Prop) (Q : Exit → Act → World → Prop), (∀ η' w' v, RepH w0 (apC hp r.ch) (nmE nm nn (nn + 1)) η' w' → (cxS w0 hp nm η w).le (cxS w0 (apC hp r.ch) (nmE nm nn (nn + 1)) η' w') →
        RS (cxS w0 (apC hp r.ch) (nmE nm nn (nn + 1)) η' w') r.v v → K (a.put o.dst v) w') →
      if Region.wanted o (yielded all a.tmps) = true then o.wp E.P a w K Q ∨ (o.asks E.P a w ∧ LetsOut Q) else K (a.put o.dst undef) w

/-- the rest of a region, in the text's order -/
def RM (E : En) (cur : FI) (all : Array Oper) (chk : List Rec → Prop) (r : List It) (stk : List Fm) (n0 : Nat) : Nat → List Oper → List Rec → List (Nat × SV) → List (Nat × Ob) → Prop
  | j, [], recs, fr, hp => chk recs ∧ Mean E cur r ⟨fr, hp, n0 + j⟩ stk
  | j, o :: l, recs, fr, hp => ∃ rc, Vld E cur all o (n0 + j) rc ∧ (∀ t s, lk rc.fin t = some s → lk fr t = some s) ∧ (∀ b ob, lk rc.hin b = some ob → lk hp b = some ob) ∧
      RM E cur all chk r stk n0 (j + 1) l (recs ++ [rc]) (putF cur.nt fr o.dst rc.v) (apC hp rc.ch)

def wsF (nt : Nat) : List Oper → List Rec → List (List (Nat × Option SV))
  | o :: l, r :: rs => slotW nt o.dst r.v :: wsF nt l rs
  | _, _ => []
def wsH : List Rec → List (List (Nat × Option Ob)) := fun l => l.map (·.ch)

theorem rm_out {E : En} {cur : FI} {all : Array Oper} {chk : List Rec → Prop} {r : List It} {stk : List Fm} {n0 : Nat} : ∀ {l : List Oper} {j : Nat} {recs : List Rec} {fr : List (Nat × SV)} {hp : List (Nat × Ob)},
    RM E cur all chk r stk n0 j l recs fr hp → ∃ rs : List Rec, rs.length = l.length ∧ chk (recs ++ rs) ∧
      (∀ (i : Nat) (o : Oper) (rc : Rec), l[i]? = some o → rs[i]? = some rc → Vld E cur all o (n0 + j + i) rc ∧ (∀ t s, lk rc.fin t = some s → runA (fun k => decide (k < i)) (wsF cur.nt l rs) (lk fr) t = some s) ∧
        (∀ b ob, lk rc.hin b = some ob → runA (fun k => decide (k < i)) (wsH rs) (lk hp) b = some ob)) ∧
      ∃ fr' hp', (∀ t, lk fr' t = runA (fun _ => true) (wsF cur.nt l rs) (lk fr) t) ∧ (∀ b, lk hp' b = runA (fun _ => true) (wsH rs) (lk hp) b) ∧ Mean E cur r ⟨fr', hp', n0 + j + l.length⟩ stk
  | [], j, recs, fr, hp, ⟨h1, h2⟩ => ⟨[], rfl, by simpa using h1, fun i o rc h => by simp at h, fr, hp, fun _ => rfl, fun _ => rfl, h2⟩
  | o :: l, j, recs, fr, hp, ⟨rc, h1, h2, h3, h4⟩ => by
    obtain ⟨rs, g1, g2, g3, fr', hp', g4, g5, g6⟩ := rm_out h4
    refine ⟨rc :: rs, by simp [g1], by simpa using g2, fun i o' rc' hi hr => ?_, fr', hp', fun t => ?_, fun b => ?_, ?_⟩
    · cases i with
      | zero =>
        simp only [List.getElem?_cons_zero, Option.some.injEq] at hi hr
        subst hi; subst hr
        refine ⟨h1, fun t s ht => ?_, fun b ob hb => ?_⟩
        · rw [runA_none (fun i ws _ _ => by simp)]; exact h2 t s ht
        · rw [runA_none (fun i ws _ _ => by simp)]; exact h3 b ob hb
      | succ i =>
        obtain ⟨e1, e2, e3⟩ := g3 i o' rc' (by simpa using hi) (by simpa using hr)
        refine ⟨by rw [show n0 + j + (i + 1) = n0 + (j + 1) + i from by omega]; exact e1, fun t s ht => ?_, fun b ob hb => ?_⟩
        · rw [← e2 t s ht]
          simp only [wsF, runA]
          refine runA_congr (fun k ws _ _ => by simp) ?_
          simp [lk_putF]
        · rw [← e3 b ob hb]
          simp only [wsH, List.map_cons, runA]
          refine runA_congr (fun k ws _ _ => by simp) ?_
          simp [lk_apC]
    · rw [g4]
      simp only [wsF, runA, if_true]
      exact runA_congr (fun _ _ _ _ => rfl) (lk_putF _ _ _ _ _)
    · rw [g5]
      simp only [wsH, List.map_cons, runA, if_true]
      exact runA_congr (fun _ _ _ _ => rfl) (lk_apC _ _ _)
    · rw [List.length_cons, show n0 + j + (l.length + 1) = n0 + (j + 1) + l.length from by omega]; exact g6

/-! ### which operations touch one another -/

def disj : List Nat → List Nat → Bool
  | [], _ => true
  | a :: l, m => !m.contains a && disj l m
theorem disj_spec : ∀ {l m : List Nat}, disj l m = true → ∀ t, t ∈ l → t ∈ m → False
  | [], _, _, t, h, _ => by simp at h
  | a :: l, m, h, t, ht, hm => by
    simp only [disj, Bool.and_eq_true, Bool.not_eq_true', List.contains_eq_mem, decide_eq_false_iff_not] at h
    rcases List.mem_cons.1 ht with rfl | h'
    · exact h.1 hm
    · exact disj_spec h.2 t h' hm
def dk (nt : Nat) : Option Tmp → List Nat
  | none => []
  | some d => if d < nt then [d] else []
theorem dk_eq (nt : Nat) (dst : Option Tmp) (v : SV) : keys (slotW nt dst v) = dk nt dst := by
  unfold slotW dk keys
  cases dst with
  | none => rfl
  | some d => dsimp only; split <;> rfl
def apart1 (nt : Nat) (oi : Oper) (ri : Rec) (oj : Oper) (rj : Rec) : Bool :=
  disj (dk nt oi.dst) (keys rj.fin) && (disj (dk nt oi.dst) (dk nt oj.dst) && (disj (dk nt oj.dst) (keys ri.fin) &&
    (disj (keys ri.ch) (keys rj.hin) && (disj (keys ri.ch) (keys rj.ch) && disj (keys rj.ch) (keys ri.hin)))))
/-- all but this: what the later one writes may be what the earlier one reads -/
def apartS (nt : Nat) (oi : Oper) (ri : Rec) (oj : Oper) (rj : Rec) : Bool :=
  disj (dk nt oi.dst) (keys rj.fin) && (disj (dk nt oi.dst) (dk nt oj.dst) && (disj (dk nt oj.dst) (keys ri.fin) &&
    (disj (keys ri.ch) (keys rj.hin) && disj (keys ri.ch) (keys rj.ch))))
def isX (x : Option (Nat × Nat)) (i j : Nat) : Bool := match x with
  | none => false
  | some (a, b) => Nat.beq a i && Nat.beq b j
theorem isX_spec {x : Option (Nat × Nat)} {i j : Nat} (h : isX x i j = true) : x = some (i, j) := by
  unfold isX at h
  split at h
  · cases h
  · simp only [Bool.and_eq_true] at h
    rw [Nat.eq_of_beq_eq_true h.1, Nat.eq_of_beq_eq_true h.2]
theorem apartS_of {nt : Nat} {oi oj : Oper} {ri rj : Rec} (h : apart1 nt oi ri oj rj = true) : apartS nt oi ri oj rj = true := by
  simp only [apart1, apartS, Bool.and_eq_true] at h ⊢
  exact ⟨h.1, h.2.1, h.2.2.1, h.2.2.2.1, h.2.2.2.2.1⟩
/-- what is read, where one block is as another operation leaves it -/
def altH (hin : List (Nat × Ob)) (c : Nat) (ob : Ob) : List (Nat × Ob) := hin.map fun p => if p.1 = c then (c, ob) else p
theorem lk_altH {c : Nat} {ob : Ob} : ∀ {hin : List (Nat × Ob)} {b : Nat} {o : Ob}, lk (altH hin c ob) b = some o → (b = c ∧ o = ob ∧ b ∈ keys hin) ∨ (b ≠ c ∧ lk hin b = some o)
  | [], b, o, h => by simp [altH, lk] at h
  | (d, u) :: r, b, o, h => by
    by_cases hd : d = c
    · subst hd
      simp only [altH, List.map_cons, if_true, lk] at h
      by_cases hb : b = d
      · rw [if_pos hb] at h
        cases h
        exact .inl ⟨hb, rfl, by simp [keys, hb]⟩
      · rw [if_neg hb] at h
        rcases lk_altH (hin := r) h with ⟨h1, h2, h3⟩ | ⟨h1, h2⟩
        · exact (hb h1).elim
        · exact .inr ⟨h1, by simp only [lk]; rw [if_neg hb]; exact h2⟩
    · simp only [altH, List.map_cons, if_neg hd, lk] at h
      by_cases hb : b = d
      · subst hb
        rw [if_pos rfl] at h
        exact .inr ⟨hd, by simp only [lk, if_true]; exact h⟩
      · rw [if_neg hb] at h
        rcases lk_altH (hin := r) h with ⟨h1, h2, h3⟩ | ⟨h1, h2⟩
        · exact .inl ⟨h1, h2, by simp only [keys, List.map_cons, List.mem_cons] at h3 ⊢; exact .inr h3⟩
        · exact .inr ⟨h1, by simp only [lk]; rw [if_neg hb]; exact h2⟩
def XOk (E : En) (cur : FI) (all : Array Oper) (recs : List Rec) (x : Option (Nat × Nat)) : Prop := match x with
  | none => True
  | some (i, j) => i < j ∧ ∃ oi ri rj c ob, all.toList[i]? = some oi ∧ recs[i]? = some ri ∧ recs[j]? = some rj ∧ rj.ch = [(c, some ob)] ∧ ∀ nn, Vld E cur all oi nn ⟨ri.fin, altH ri.hin c ob, ri.v, ri.ch⟩
def waits (o : Oper) (i : Nat) : Bool := o.after.toList.any fun e => Region.binds .any e && e.on == i
def chkFrom (nt : Nat) (x : Option (Nat × Nat)) : Nat → List (Nat × Oper × Rec) → List Oper → List Rec → Bool
  | k, pre, o :: l, r :: rs => (o.after.toList.all fun e => !Region.binds .any e || Nat.blt e.on k) && (pre.all fun p => waits o p.1 || (apart1 nt p.2.1 p.2.2 o r || (isX x p.1 k && apartS nt p.2.1 p.2.2 o r))) && chkFrom nt x (k + 1) ((k, o, r) :: pre) l rs
  | _, _, [], [] => true
  | _, _, _, _ => false

theorem chk_spec {nt : Nat} {x : Option (Nat × Nat)} : ∀ {l : List Oper} {rs : List Rec} {k : Nat} {pre : List (Nat × Oper × Rec)}, chkFrom nt x k pre l rs = true →
    (∀ (j : Nat) (o : Oper), l[j]? = some o → ∀ e ∈ o.after, Region.binds .any e = true → e.on < k + j) ∧ (∀ p ∈ pre, ∀ (j : Nat) (o : Oper) (r : Rec), l[j]? = some o → rs[j]? = some r → waits o p.1 = true ∨ (apart1 nt p.2.1 p.2.2 o r = true ∨ (x = some (p.1, k + j) ∧ apartS nt p.2.1 p.2.2 o r = true))) ∧
    ∀ (i j : Nat) (oi oj : Oper) (ri rj : Rec), i < j → l[i]? = some oi → l[j]? = some oj → rs[i]? = some ri → rs[j]? = some rj → waits oj (k + i) = true ∨ (apart1 nt oi ri oj rj = true ∨ (x = some (k + i, k + j) ∧ apartS nt oi ri oj rj = true))
  | [], [], k, pre, _ => ⟨fun j o h => by simp at h, fun p _ j o r h => by simp at h, fun i j oi oj ri rj _ h => by simp at h⟩
  | [], _ :: _, _, _, h => by simp [chkFrom] at h
  | _ :: _, [], _, _, h => by simp [chkFrom] at h
  | o :: l, r :: rs, k, pre, h => by
    simp only [chkFrom, Bool.and_eq_true] at h
    obtain ⟨⟨h1, h2⟩, h3⟩ := h
    obtain ⟨g1, g2, g3⟩ := chk_spec h3
    refine ⟨fun j o' hj e he hb => ?_, fun p hp j o' r' hj hr => ?_, fun i j oi oj ri rj hij hi hj hri hrj => ?_⟩
    · cases j with
      | zero =>
        simp only [List.getElem?_cons_zero, Option.some.injEq] at hj
        subst hj
        have := List.all_eq_true.1 h1 e (by simpa using he)
        simp only [hb, Bool.not_true, Bool.false_or] at this
        have : e.on < k := by simpa [Nat.blt_eq] using this
        omega
      | succ j =>
        have := g1 j o' (by simpa using hj) e he hb
        omega
    · cases j with
      | zero =>
        simp only [List.getElem?_cons_zero, Option.some.injEq] at hj hr
        subst hj; subst hr
        have := List.all_eq_true.1 h2 p hp
        simp only [Bool.or_eq_true, Bool.and_eq_true] at this
        rcases this with h | h | ⟨h, h'⟩
        · exact .inl h
        · exact .inr (.inl h)
        · exact .inr (.inr ⟨isX_spec h, h'⟩)
      | succ j =>
        rw [show k + (j + 1) = k + 1 + j from by omega]
        exact g2 p (by simp [hp]) j o' r' (by simpa using hj) (by simpa using hr)
    · cases j with
      | zero => omega
      | succ j =>
        cases i with
        | zero =>
          simp only [List.getElem?_cons_zero, Option.some.injEq] at hi hri
          subst hi; subst hri
          rw [show k + (j + 1) = k + 1 + j from by omega]
          exact g2 (k, o, r) (by simp) j oj rj (by simpa using hj) (by simpa using hrj)
        | succ i =>
          have := g3 i j oi oj ri rj (by omega) (by simpa using hi) (by simpa using hj) (by simpa using hri) (by simpa using hrj)
          rw [show k + (i + 1) = k + 1 + i from by omega, show k + (j + 1) = k + 1 + j from by omega]
          exact this

/-! ### every order -/

def unl (n : Nat) (listed : Array Bool) : Nat := ((List.range n).filter fun k => !listed.getD k true).length

theorem filter_le {p q : Nat → Bool} (hpq : ∀ k, q k = true → p k = true) : ∀ m : List Nat, (m.filter q).length ≤ (m.filter p).length
  | [] => by simp
  | b :: m => by
    have ih := filter_le hpq m
    cases hq : q b with
    | true => simp [hq, hpq b hq]; omega
    | false => cases hp : p b <;> simp [hq, hp] <;> omega
theorem filter_lt {p q : Nat → Bool} (hpq : ∀ k, q k = true → p k = true) {i : Nat} (hp : p i = true) (hq : q i = false) : ∀ {l : List Nat}, i ∈ l → (l.filter q).length < (l.filter p).length
  | [], h => by simp at h
  | a :: l, h => by
    by_cases ha : a = i
    · subst ha
      have := filter_le hpq l
      simp [hp, hq]; omega
    · have hi : i ∈ l := by
        rcases List.mem_cons.1 h with h | h
        · exact (ha h.symm).elim
        · exact h
      have ih := filter_lt hpq hp hq hi
      cases hqa : q a with
      | true => simp [hqa, hpq a hqa]; omega
      | false => cases hpa : p a <;> simp [hqa, hpa] <;> omega

def nmL (n0 : Nat) (listed : Array Bool) : Nat → Prop := fun b => b < n0 ∨ ∃ k, listed.getD k false = true ∧ b = n0 + k

structure InvA (cur : FI) (all : Array Oper) (recs : List Rec) (fr0 : List (Nat × SV)) (hp0 : List (Nat × Ob)) (n0 : Nat) (w0 : W0) (S : List (Fm × Act)) (listed : Array Bool) (a : Act) (w : World) : Prop where
  size : listed.size = all.size
  closed : ∀ (j : Nat) (o : Oper), all[j]? = some o → listed.getD j false = true → ∀ e ∈ o.after, Region.binds .any e = true → listed.getD e.on false = true
  rep : ∃ hp fr η, (∀ b, lk hp b = runA (fun k => listed.getD k false) (wsH recs) (lk hp0) b) ∧ (∀ t, lk fr t = runA (fun k => listed.getD k false) (wsF cur.nt all.toList recs) (lk fr0) t) ∧
    RepH w0 hp (nmL n0 listed) η w ∧ RepF (cxS w0 hp (nmL n0 listed) η w) cur.nt fr a ∧ ∀ p ∈ S, RepF (cxS w0 hp (nmL n0 listed) η w) p.1.fi.nt p.1.fr p.2 ∧ p.1.fi.fn.results.toList = p.1.fi.res

theorem wsF_get {nt : Nat} : ∀ {l : List Oper} {rs : List Rec} {i : Nat} {ws : List (Nat × Option SV)}, (wsF nt l rs)[i]? = some ws → ∃ o r, l[i]? = some o ∧ rs[i]? = some r ∧ ws = slotW nt o.dst r.v
  | o :: l, r :: rs, 0, ws, h => by simp [wsF] at h; exact ⟨o, r, rfl, rfl, h.symm⟩
  | o :: l, r :: rs, i + 1, ws, h => by simpa using wsF_get (l := l) (rs := rs) (i := i) (by simpa [wsF] using h)
  | [], _, _, _, h => by simp [wsF] at h
  | _ :: _, [], _, _, h => by simp [wsF] at h
theorem wsF_at {nt : Nat} : ∀ {l : List Oper} {rs : List Rec} {i : Nat} {o : Oper} {r : Rec}, l[i]? = some o → rs[i]? = some r → (wsF nt l rs)[i]? = some (slotW nt o.dst r.v)
  | o :: l, r :: rs, 0, _, _, h1, h2 => by simp at h1 h2; subst h1; subst h2; rfl
  | o :: l, r :: rs, i + 1, _, _, h1, h2 => by simpa [wsF] using wsF_at (l := l) (rs := rs) (i := i) (by simpa using h1) (by simpa using h2)
  | [], _, _, _, _, h, _ => by simp at h
  | _ :: _, [], _, _, _, _, h => by simp at h
theorem wsH_get {rs : List Rec} {i : Nat} {ws : List (Nat × Option Ob)} (h : (wsH rs)[i]? = some ws) : ∃ r, rs[i]? = some r ∧ ws = r.ch := by
  simp only [wsH, List.getElem?_map, Option.map_eq_some_iff] at h
  obtain ⟨r, h1, h2⟩ := h
  exact ⟨r, h1, h2.symm⟩

theorem lk_key {α : Type} : ∀ {l : List (Nat × α)} {t : Nat} {x : α}, lk l t = some x → t ∈ keys l
  | (k, v) :: l, t, x, h => by
    simp only [lk] at h
    split at h
    · rename_i e; subst e; simp [keys]
    · have := lk_key h; simp only [keys, List.map_cons, List.mem_cons] at this ⊢; exact .inr this
  | [], _, _, h => by simp [lk] at h

theorem waits_spec {o : Oper} {i : Nat} (h : waits o i = true) : ∃ e ∈ o.after, Region.binds .any e = true ∧ e.on = i := by
  simp only [waits, List.any_eq_true, Bool.and_eq_true, beq_iff_eq] at h
  obtain ⟨e, h1, h2, h3⟩ := h
  exact ⟨e, by simpa using h1, h2, h3⟩

theorem getD_tt {listed : Array Bool} {k : Nat} : listed.getD k false = true → k < listed.size := by
  intro h
  rcases Nat.lt_or_ge k listed.size with h' | h'
  · exact h'
  · simp [Array.getElem?_eq_none h'] at h
theorem getD_set {listed : Array Bool} {i k : Nat} (hi : i < listed.size) : (listed.setIfInBounds i true).getD k false = (if k = i then true else listed.getD k false) := by
  by_cases h : k = i
  · subst h; simp [hi]
  · rw [if_neg h]
    simp [Array.getElem?_setIfInBounds_ne (Ne.symm h)]

theorem any_run {E : En} {cur : FI} {all : Array Oper} {recs : List Rec} {r : List It} {fr0 : List (Nat × SV)} {hp0 : List (Nat × Ob)} {n0 : Nat} {w0 : W0} {S : List (Fm × Act)} {stk : List Fm} (hS : S.map (·.1) = stk)
    (hcur : cur.fn.results.toList = cur.res)
    (hlen : recs.length = all.size) {x : Option (Nat × Nat)} (hc : chkFrom cur.nt x 0 [] all.toList recs = true) (hx : XOk E cur all recs x)
    (hv : ∀ (i : Nat) (o : Oper) (rc : Rec), all.toList[i]? = some o → recs[i]? = some rc → Vld E cur all o (n0 + 0 + i) rc ∧ (∀ t s, lk rc.fin t = some s → runA (fun k => decide (k < i)) (wsF cur.nt all.toList recs) (lk fr0) t = some s) ∧
        (∀ b ob, lk rc.hin b = some ob → runA (fun k => decide (k < i)) (wsH recs) (lk hp0) b = some ob))
    {fr' : List (Nat × SV)} {hp' : List (Nat × Ob)} (hf1 : ∀ t, lk fr' t = runA (fun _ => true) (wsF cur.nt all.toList recs) (lk fr0) t) (hf2 : ∀ b, lk hp' b = runA (fun _ => true) (wsH recs) (lk hp0) b)
    (hM : Mean E cur r ⟨fr', hp', n0 + 0 + all.toList.length⟩ stk) :
    ∀ (fuel : Nat) (listed : Array Bool) (a : Act) (w : World), InvA cur all recs fr0 hp0 n0 w0 S listed a w → unl all.size listed ≤ fuel →
      wpAny E.P .any all (TW E.P w0 cur S (RR E.P w0 (Fin w0 E.post) cur S) r) fuel listed a w := by
  obtain ⟨c1, _, c3⟩ := chk_spec hc
  have hfin : ∀ listed a w, InvA cur all recs fr0 hp0 n0 w0 S listed a w → Region.ready .any all listed = [] → TW E.P w0 cur S (RR E.P w0 (Fin w0 E.post) cur S) r .normal a w := by
    intro listed a w hI h0
    have hall : ∀ k, k < all.size → listed.getD k false = true := by
      intro k
      induction k using Nat.strongRecOn with
      | _ k ih =>
        intro hk
        cases hl : listed.getD k false with
        | true => rfl
        | false =>
          have hk' : k < listed.size := by rw [hI.size]; exact hk
          have : k ∈ Region.ready .any all listed := by
            refine mem_ready.2 ⟨?_, all[k], Array.getElem?_eq_getElem hk, fun e he hb => ?_⟩
            · simp [hk'] at hl ⊢; exact hl
            · have := c1 k all[k] (by simp [hk]) e he hb
              exact ih e.on (by omega) (by omega)
          rw [h0] at this
          cases this
    obtain ⟨hp, fr, η, e1, e2, hH, hF, hSf⟩ := hI.rep
    have eall1 : ∀ b, lk hp' b = lk hp b := fun b => by
      rw [hf2, e1]
      refine runA_congr (fun i ws hi _ => ?_) rfl
      obtain ⟨rc, h1, _⟩ := wsH_get hi
      rw [hall i (by rw [← hlen]; exact (List.getElem?_eq_some_iff.1 h1).1)]
    have eall2 : ∀ t, lk fr' t = lk fr t := fun t => by
      rw [hf1, e2]
      refine runA_congr (fun i ws hi _ => ?_) rfl
      obtain ⟨o, rc, _, h1, _⟩ := wsF_get hi
      rw [hall i (by rw [← hlen]; exact (List.getElem?_eq_some_iff.1 h1).1)]
    obtain ⟨hH1, hle1⟩ := RepH.wider (nm' := lt (n0 + 0 + all.toList.length)) (fun b hb => by
      rcases hb with hb | ⟨k, hk, rfl⟩
      · show b < _; omega
      · have := getD_tt hk
        rw [hI.size] at this
        show n0 + k < _
        simp only [Array.length_toList]; omega) hH
    have hH2 := RepH.congr eall1 hH1
    have hle2 : (cxS w0 hp (lt (n0 + 0 + all.toList.length)) η w).le (cxS w0 hp' (lt (n0 + 0 + all.toList.length)) η w) :=
      ⟨fun _ _ => rfl, fun _ h => h, fun k hk => by
        show okS w0 hp' η w k
        rw [okS_congr eall1]; exact hk, fun _ _ => rfl⟩
    have hle := hle1.trans hle2
    exact hM w0 η S a w hS ⟨⟨hH2, hcur⟩, (RepF.mono hle hF).part (fun t s ht => by rw [← eall2]; exact ht), fun p hp => ⟨RepF.mono hle (hSf p hp).1, (hSf p hp).2⟩⟩
  intro fuel
  induction fuel with
  | zero =>
    intro listed a w hI hu
    have h0 : Region.ready .any all listed = [] := by
      cases hr : Region.ready .any all listed with
      | nil => rfl
      | cons i l =>
        have hi : i ∈ Region.ready .any all listed := by rw [hr]; simp
        obtain ⟨h1, o, h2, _⟩ := mem_ready.1 hi
        have : i ∈ (List.range all.size).filter fun k => !listed.getD k true := by
          simp only [List.mem_filter, List.mem_range, Bool.not_eq_true']
          exact ⟨(Array.getElem?_eq_some_iff.1 h2).1, h1⟩
        unfold unl at hu
        rw [List.eq_nil_of_length_eq_zero (Nat.le_zero.1 hu)] at this
        cases this
    exact ⟨h0, hfin listed a w hI h0⟩
  | succ fuel ih =>
    intro listed a w hI hu
    refine ⟨hfin listed a w hI, fun j hj => ?_⟩
    obtain ⟨hl, o, ho, hready⟩ := mem_ready.1 hj
    have hjn : j < all.size := (Array.getElem?_eq_some_iff.1 ho).1
    have hjs : j < listed.size := by rw [hI.size]; exact hjn
    have hlf : listed.getD j false = false := by simp [hjs] at hl ⊢; exact hl
    have ho' : all.toList[j]? = some o := by simpa using ho
    obtain ⟨rc, hrc⟩ : ∃ rc, recs[j]? = some rc := ⟨_, List.getElem?_eq_getElem (by omega)⟩
    obtain ⟨v1, v2, v3⟩ := hv j o rc ho' hrc
    obtain ⟨hp, fr, η, e1, e2, hH, hF, hSf⟩ := hI.rep
    -- what came before, and what does not touch
    have early : ∀ (i : Nat) (oi : Oper) (ri : Rec), i < j → all.toList[i]? = some oi → recs[i]? = some ri → listed.getD i false = true ∨ apartS cur.nt oi ri o rc = true := by
      intro i oi ri hij h1 h2
      rcases c3 i j oi o ri rc hij h1 ho' h2 hrc with h | h
      · obtain ⟨e, he, hb, heq⟩ := waits_spec h
        have := hready e he hb
        rw [heq] at this
        simp only [Nat.zero_add] at this
        exact .inl this
      · rcases h with h | h
        · exact .inr (apartS_of h)
        · exact .inr h.2
    have late : ∀ (i : Nat) (oi : Oper) (ri : Rec), j < i → all.toList[i]? = some oi → recs[i]? = some ri → listed.getD i false = false ∨ (apart1 cur.nt o rc oi ri = true ∨ (x = some (j, i) ∧ apartS cur.nt o rc oi ri = true)) := by
      intro i oi ri hij h1 h2
      rcases c3 j i o oi rc ri hij ho' h1 hrc h2 with h | h
      · obtain ⟨e, he, hb, heq⟩ := waits_spec h
        cases hli : listed.getD i false with
        | false => exact .inl rfl
        | true =>
          have := hI.closed i oi (by simpa using h1) hli e he hb
          rw [heq] at this
          simp only [Nat.zero_add] at this
          rw [hlf] at this; cases this
      · exact .inr (by simpa using h)
    have lateS : ∀ (i : Nat) (oi : Oper) (ri : Rec), j < i → all.toList[i]? = some oi → recs[i]? = some ri → listed.getD i false = false ∨ apartS cur.nt o rc oi ri = true := by
      intro i oi ri hij h1 h2
      rcases late i oi ri hij h1 h2 with h | h | h
      · exact .inl h
      · exact .inr (apartS_of h)
      · exact .inr h.2
    have agF : ∀ t s, lk rc.fin t = some s → lk fr t = some s := by
      intro t s hts
      rw [e2, ← v2 t s hts]
      refine runA_congr (fun i ws hi ht => ?_) rfl
      obtain ⟨oi, ri, h1, h2, rfl⟩ := wsF_get hi
      rw [dk_eq] at ht
      have hk := lk_key hts
      rcases Nat.lt_trichotomy i j with hij | hij | hij
      · rcases early i oi ri hij h1 h2 with h | h
        · simp [h, hij]
        · simp only [apartS, Bool.and_eq_true] at h
          exact (disj_spec h.1 t ht hk).elim
      · subst hij; simp [hlf]
      · rcases lateS i oi ri hij h1 h2 with h | h
        · simp only [h]; simp; omega
        · simp only [apartS, Bool.and_eq_true] at h
          exact (disj_spec h.2.2.1 t ht hk).elim
    -- what is read, but for the blocks that a later one has turned
    have agB : ∀ b ob, lk rc.hin b = some ob → (∀ i oi ri, x = some (j, i) → all.toList[i]? = some oi → recs[i]? = some ri → listed.getD i false = true → b ∉ keys ri.ch) → lk hp b = some ob := by
      intro b ob hb hno
      rw [e1, ← v3 b ob hb]
      refine runA_congr (fun i ws hi ht => ?_) rfl
      obtain ⟨ri, h2, rfl⟩ := wsH_get hi
      obtain ⟨oi, h1⟩ : ∃ oi, all.toList[i]? = some oi := ⟨_, List.getElem?_eq_getElem (by have := (List.getElem?_eq_some_iff.1 h2).1; simp; omega)⟩
      have hk := lk_key hb
      rcases Nat.lt_trichotomy i j with hij | hij | hij
      · rcases early i oi ri hij h1 h2 with h | h
        · simp [h, hij]
        · simp only [apartS, Bool.and_eq_true] at h
          exact (disj_spec h.2.2.2.1 b ht hk).elim
      · subst hij; simp [hlf]
      · rcases late i oi ri hij h1 h2 with h | h | h
        · simp only [h]; simp; omega
        · simp only [apart1, Bool.and_eq_true] at h
          exact (disj_spec h.2.2.2.2.2 b ht hk).elim
        · cases hli : listed.getD i false with
          | false => simp; omega
          | true => exact (hno i oi ri h.1 h1 h2 hli ht).elim
    have agH : ∃ hin', Vld E cur all o (n0 + 0 + j) ⟨rc.fin, hin', rc.v, rc.ch⟩ ∧ ∀ b ob, lk hin' b = some ob → lk hp b = some ob := by
      by_cases hex : ∃ m, x = some (j, m) ∧ listed.getD m false = true
      · obtain ⟨m, rfl, hlm⟩ := hex
        obtain ⟨hjm, oi, ri, rm, c, oc, g1, g2, g3, g4, g5⟩ := hx
        rw [ho'] at g1
        cases g1
        rw [hrc] at g2
        cases g2
        refine ⟨_, g5 _, fun b ob hb => ?_⟩
        rcases lk_altH hb with ⟨rfl, rfl, hk⟩ | ⟨hne, hb⟩
        · rw [e1]
          rw [runA_add (E := fun k => if k = m then false else listed.getD k false) (E' := fun k => listed.getD k false) (j := m) (wj := rm.ch) (by simp [wsH, g3]) (by simp) hlm (fun i hi => by simp [hi]) ?_]
          · rw [g4]; simp [asg]
          · intro i ws hmi hi ht _
            obtain ⟨ri', h2, rfl⟩ := wsH_get hi
            obtain ⟨oi', h1⟩ : ∃ oi, all.toList[i]? = some oi := ⟨_, List.getElem?_eq_getElem (by have := (List.getElem?_eq_some_iff.1 h2).1; simp; omega)⟩
            rw [if_neg (by omega)]
            rcases late i oi' ri' (by omega) h1 h2 with h | h | h
            · exact h
            · simp only [apart1, Bool.and_eq_true] at h
              exact (disj_spec h.2.2.2.2.2 b ht hk).elim
            · have := h.1
              simp only [Option.some.injEq, Prod.mk.injEq] at this
              omega
        · refine agB b ob hb fun i oi' ri' hxi h1 h2 hli => ?_
          simp only [Option.some.injEq, Prod.mk.injEq, true_and] at hxi
          subst hxi
          rw [g3] at h2
          cases h2
          rw [g4]
          simpa [keys] using hne
      · refine ⟨rc.hin, v1, fun b ob hb => agB b ob hb fun i oi ri hxi h1 h2 hli => (hex ⟨i, hxi, hli⟩).elim⟩
    have hnn : ¬ nmL n0 listed (n0 + 0 + j) := by
      rintro (h | ⟨k, hk, h⟩)
      · omega
      · have : k = j := by omega
        subst this
        rw [hlf] at hk; cases hk
    have hset : ∀ k, (listed.setIfInBounds j true).getD k false = (if k = j then true else listed.getD k false) := fun k => getD_set hjs
    have hu' : unl all.size (listed.setIfInBounds j true) ≤ fuel := by
      have : unl all.size (listed.setIfInBounds j true) < unl all.size listed := by
        refine filter_lt (i := j) (fun k hk => ?_) (by simpa using hl) ?_ (by simpa using hjn)
        · by_cases hkj : k = j
          · subst hkj; simp [hjs] at hk
          · simpa [Array.getElem?_setIfInBounds_ne (Ne.symm hkj)] using hk
        · simp [hjs]
      omega
    have inv' : ∀ (η' : Nat → Option Nat × Value) (w' : World) (v : Value), RepH w0 (apC hp rc.ch) (nmE (nmL n0 listed) (n0 + 0 + j) (n0 + 0 + j + 1)) η' w' →
        (cxS w0 hp (nmL n0 listed) η w).le (cxS w0 (apC hp rc.ch) (nmE (nmL n0 listed) (n0 + 0 + j) (n0 + 0 + j + 1)) η' w') →
        RS (cxS w0 (apC hp rc.ch) (nmE (nmL n0 listed) (n0 + 0 + j) (n0 + 0 + j + 1)) η' w') rc.v v → InvA cur all recs fr0 hp0 n0 w0 S (listed.setIfInBounds j true) (a.put o.dst v) w' := by
      intro η' w' v g1 g2 g3
      have hnm : nmE (nmL n0 listed) (n0 + 0 + j) (n0 + 0 + j + 1) = nmL n0 (listed.setIfInBounds j true) := by
        funext b
        simp only [nmE, nmL, eq_iff_iff]
        constructor
        · rintro ((h | ⟨k, hk, h⟩) | h)
          · exact .inl h
          · exact .inr ⟨k, by rw [hset, hk]; simp, h⟩
          · exact .inr ⟨j, by rw [hset]; simp, by omega⟩
        · rintro (h | ⟨k, hk, h⟩)
          · exact .inl (.inl h)
          · rw [hset] at hk
            by_cases hkj : k = j
            · exact .inr (by omega)
            · rw [if_neg hkj] at hk; exact .inl (.inr ⟨k, hk, h⟩)
      rw [hnm] at g1 g2 g3
      refine ⟨by simp [hI.size], fun k ok hok hk e he hb => ?_, apC hp rc.ch, putF cur.nt fr o.dst rc.v, η', fun b => ?_, fun t => ?_, g1, putF_sound (RepF.mono g2 hF) g3, fun p hp => ⟨RepF.mono g2 (hSf p hp).1, (hSf p hp).2⟩⟩
      · rw [hset] at hk ⊢
        by_cases hkj : k = j
        · subst hkj
          rw [ho] at hok
          cases hok
          rw [hready e he hb]; simp
        · rw [if_neg hkj] at hk
          rw [hI.closed k ok hok hk e he hb]; simp
      · rw [lk_apC]
        rw [runA_add (E := fun k => listed.getD k false) (E' := fun k => (listed.setIfInBounds j true).getD k false) (j := j) (wj := rc.ch) (by simp [wsH, hrc]) hlf (by simp [hset]) (fun i hi => by simp [hset, hi]) ?_]
        · exact asg_congr (e1 b)
        · intro i ws hij hi ht htj
          obtain ⟨ri, h2, rfl⟩ := wsH_get hi
          obtain ⟨oi, h1⟩ : ∃ oi, all.toList[i]? = some oi := ⟨_, List.getElem?_eq_getElem (by have := (List.getElem?_eq_some_iff.1 h2).1; simp; omega)⟩
          rcases lateS i oi ri hij h1 h2 with h | h
          · exact h
          · simp only [apartS, Bool.and_eq_true] at h
            exact (disj_spec h.2.2.2.2 b htj ht).elim
      · rw [lk_putF]
        rw [runA_add (E := fun k => listed.getD k false) (E' := fun k => (listed.setIfInBounds j true).getD k false) (j := j) (wj := slotW cur.nt o.dst rc.v) (wsF_at ho' hrc) hlf (by simp [hset]) (fun i hi => by simp [hset, hi]) ?_]
        · exact asg_congr (e2 t)
        · intro i ws hij hi ht htj
          obtain ⟨oi, ri, h1, h2, rfl⟩ := wsF_get hi
          rw [dk_eq] at ht htj
          rcases lateS i oi ri hij h1 h2 with h | h
          · exact h
          · simp only [apartS, Bool.and_eq_true] at h
            exact (disj_spec h.2.1 t htj ht).elim
    obtain ⟨hin', v1', agH⟩ := agH
    have hstep := v1' w0 hp _ η a w fr hH hF hnn agF agH (wpAny E.P .any all (TW E.P w0 cur S (RR E.P w0 (Fin w0 E.post) cur S) r) fuel (listed.setIfInBounds j true)) (TW E.P w0 cur S (RR E.P w0 (Fin w0 E.post) cur S) r)
      (fun η' w' v g1 g2 g3 => ih _ _ _ (inv' η' w' v g1 g2 g3) hu')
    unfold wpOp
    rw [ho]
    exact hstep

end OE
