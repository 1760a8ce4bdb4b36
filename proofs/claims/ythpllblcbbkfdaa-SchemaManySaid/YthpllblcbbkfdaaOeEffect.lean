/- OE, part 4: operations that make or turn the call's own memory. Own work; generic over the program. -/
import Derived.Test.YthpllblcbbkfdaaOeQuiet2
set_option linter.unusedVariables false
namespace OE
open Go Go.RowKit

variable {P : Program}

def up {α : Type} : List (Nat × α) → Nat → α → List (Nat × α)
  | [], _, _ => []
  | (k, v) :: l, n, a => if n = k then (k, a) :: l else (k, v) :: up l n a

theorem lk_up {α : Type} : ∀ (l : List (Nat × α)) (n : Nat) (a : α) (m : Nat), lk (up l n a) m = if m = n then (if (lk l n).isSome then some a else none) else lk l m
  | [], n, a, m => by simp [up, lk]
  | (k, v) :: l, n, a, m => by
    simp only [up]
    by_cases h : n = k
    · subst h
      rw [if_pos rfl]
      by_cases hm : m = n
      · simp [hm, lk]
      · simp [hm, lk]
    · rw [if_neg h]
      simp only [lk, lk_up l n a m]
      by_cases hm : m = k
      · subst hm
        simp [Ne.symm h]
      · by_cases hmn : m = n
        · subst hmn; simp [hm]
        · simp [hm, hmn]

def upd (η : Nat → Option Nat × Value) (b : Nat) (p : Option Nat × Value) : Nat → Option Nat × Value := fun c => if c = b then p else η c

/-- the streams are as they were, no block has gone, and all blocks but those of names that are given up are as they were -/
structure Turns (hp hp0 : List (Nat × Ob)) (η : Nat → Option Nat × Value) (w w' : World) : Prop where
  os : w'.os = w.os
  tape : w'.tape = w.tape
  output : w'.output = w.output
  size : w.heap.size ≤ w'.heap.size
  keep : ∀ k, k < w.heap.size → (∀ b, lk hp b ≠ none → lk hp0 b = none → (η b).1 ≠ some k) → w'.heap[k]? = w.heap[k]?

section
variable {w0 : W0} {hp hp0 : List (Nat × Ob)} {nm : Nat → Prop} {nx : Nat} {η : Nat → Option Nat × Value} {w w' : World} {p : Option Nat × Value} {ob : Ob}

/-- the names, and those made from a number up to another -/
def nmE (nm : Nat → Prop) (n m : Nat) : Nat → Prop := fun b => nm b ∨ (n ≤ b ∧ b < m)
theorem nmE_same (nm : Nat → Prop) (n : Nat) : nmE nm n n = nm := by
  funext b; simp only [nmE, eq_iff_iff]; constructor
  · rintro (h | h)
    · exact h
    · omega
  · exact .inl
theorem nmE_lt {n m : Nat} (h : n ≤ m) : nmE (lt n) n m = lt m := by
  funext b; simp only [nmE, lt, eq_iff_iff]; omega

theorem step_le (hnx : ¬ nm nx) (hH : RepH w0 hp nm η w) (hsub : ∀ b o, lk hp0 b = some o → lk hp b = some o) (ht : Turns hp hp0 η w w')
    (hp1 : ∀ k, p.1 = some k → w.heap.size ≤ k ∨ ∃ b, lk hp b ≠ none ∧ (η b).1 = some k) : (cxS w0 hp nm η w).le (cxS w0 ((nx, ob) :: hp0) (nmE nm nx (nx + 1)) (upd η nx p) w') := by
  refine ⟨fun b hb => ?_, fun b hb => .inl hb, fun k ⟨h1, h2⟩ => ⟨⟨Nat.lt_of_lt_of_le h1.1 ht.size, h1.2⟩, fun b hb => ?_⟩, fun k ⟨h1, h2⟩ => ht.keep k h1.1 (fun b hb _ => h2 b hb)⟩
  · have : b ≠ nx := by intro e; subst e; exact hnx hb
    simp [cxS, upd, this]
  · by_cases hbn : b = nx
    · subst hbn
      simp only [upd, if_true]
      intro he
      rcases hp1 k he with h | ⟨c, hc, hc2⟩
      · have := h1.1; omega
      · exact h2 c hc hc2
    · simp only [upd, hbn, if_false]
      simp only [lk, hbn, if_false] at hb
      refine h2 b ?_
      cases hl : lk hp0 b with
      | none => exact (hb hl).elim
      | some o => rw [hsub b o hl]; simp

theorem step_rep (hnx : ¬ nm nx) (hH : RepH w0 hp nm η w) (hsub : ∀ b o, lk hp0 b = some o → lk hp b = some o) (ht : Turns hp hp0 η w w')
    (hp1 : ∀ k, p.1 = some k → (w.heap.size ≤ k ∧ k < w'.heap.size) ∨ ∃ b, lk hp b ≠ none ∧ lk hp0 b = none ∧ (η b).1 = some k)
    (hob : RO (cxS w0 ((nx, ob) :: hp0) (nmE nm nx (nx + 1)) (upd η nx p) w') nx ob) : RepH w0 ((nx, ob) :: hp0) (nmE nm nx (nx + 1)) (upd η nx p) w' := by
  have hle := step_le (ob := ob) hnx hH hsub ht (fun k hk => (hp1 k hk).imp (·.1) (fun ⟨b, h1, _, h3⟩ => ⟨b, h1, h3⟩))
  have hin : ∀ b, b ≠ nx → lk ((nx, ob) :: hp0) b ≠ none → lk hp0 b ≠ none ∧ lk hp b ≠ none := fun b hb h => by
    simp only [lk, hb, if_false] at h
    refine ⟨h, ?_⟩
    cases hl : lk hp0 b with
    | none => exact (h hl).elim
    | some o => rw [hsub b o hl]; simp
  have hkept : ∀ b k, lk hp0 b ≠ none → lk hp b ≠ none → (η b).1 = some k → w'.heap[k]? = w.heap[k]? := fun b k h0 h1 hk =>
    ht.keep k (hH.new b k h1 hk).2 (fun c hc hc0 he => h0 (by rw [hH.sep b c k h1 hc hk he]; exact hc0))
  refine ⟨fun b o ho => ?_, fun b c k hb hc hbk hck => ?_, fun b k hb hk => ?_, fun b hb => ?_, ?_⟩
  · by_cases hbn : b = nx
    · subst hbn
      simp only [lk, if_true, Option.some.injEq] at ho
      subst ho
      exact hob
    · obtain ⟨h0, h1⟩ := hin b hbn (by rw [ho]; simp)
      simp only [lk, hbn, if_false] at ho
      exact RO.mono hle (hH.nxt b h1) (fun k hk => hkept b k h0 h1 hk) (hH.obs b o (hsub b o ho))
  · by_cases hbn : b = nx
    · by_cases hcn : c = nx
      · rw [hbn, hcn]
      · obtain ⟨h0, h1⟩ := hin c hcn hc
        subst hbn
        simp only [upd, if_true, hcn, if_false] at hbk hck
        rcases hp1 k hbk with h | ⟨d, hd, hd0, hdk⟩
        · have := (hH.new c k h1 hck).2; omega
        · exact (h0 (by rw [hH.sep c d k h1 hd hck hdk]; exact hd0)).elim
    · obtain ⟨h0, h1⟩ := hin b hbn hb
      by_cases hcn : c = nx
      · subst hcn
        simp only [upd, if_true, hbn, if_false] at hbk hck
        rcases hp1 k hck with h | ⟨d, hd, hd0, hdk⟩
        · have := (hH.new b k h1 hbk).2; omega
        · exact (h0 (by rw [hH.sep b d k h1 hd hbk hdk]; exact hd0)).elim
      · obtain ⟨h2, h3⟩ := hin c hcn hc
        simp only [upd, hbn, hcn, if_false] at hbk hck
        exact hH.sep b c k h1 h3 hbk hck
  · by_cases hbn : b = nx
    · subst hbn
      simp only [upd, if_true] at hk
      rcases hp1 k hk with h | ⟨d, hd, hd0, hdk⟩
      · exact ⟨Nat.le_trans hH.bel.size h.1, h.2⟩
      · have := hH.new d k hd hdk; exact ⟨this.1, Nat.lt_of_lt_of_le this.2 ht.size⟩
    · obtain ⟨h0, h1⟩ := hin b hbn hb
      simp only [upd, hbn, if_false] at hk
      have := hH.new b k h1 hk
      exact ⟨this.1, Nat.lt_of_lt_of_le this.2 ht.size⟩
  · by_cases hbn : b = nx
    · exact .inr (by omega)
    · exact .inl (hH.nxt b (hin b hbn hb).2)
  · refine hH.bel.trans ⟨ht.os, ht.tape, ht.output, ht.size, fun k hk => ht.keep k (Nat.lt_of_lt_of_le hk hH.bel.size) (fun b hb _ he => ?_)⟩
    have := (hH.new b k hb he).1
    omega

theorem rm_sub {b : Nat} : ∀ c o, lk (rm hp b) c = some o → lk hp c = some o := fun c o h => by
  rw [lk_rm] at h
  split at h
  · cases h
  · exact h
theorem turns_allocr (o : Obj) : Turns hp (rm hp nx) η w (w.alloc o) :=
  ⟨rfl, rfl, rfl, by simp, fun k hk _ => Below.heap_alloc w o k hk⟩
theorem turns_alloc (o : Obj) : Turns hp hp η w (w.alloc o) :=
  ⟨rfl, rfl, rfl, by simp, fun k hk _ => Below.heap_alloc w o k hk⟩

theorem lk_put {b : Nat} {ob : Ob} {hp : List (Nat × Ob)} (c : Nat) : lk ((b, ob) :: rm hp b) c = if c = b then some ob else lk hp c := by
  simp only [lk]
  split
  · rfl
  · rename_i h; rw [lk_rm, if_neg h]

/-- one name's block is turned, the name stays -/
theorem step_set {b k : Nat} {ob' : Ob} (hH : RepH w0 hp nm η w) (hb : lk hp b ≠ none) (hk : (η b).1 = some k) (hos : w'.os = w.os) (htp : w'.tape = w.tape) (hout : w'.output = w.output) (hsz : w'.heap.size = w.heap.size)
    (hkeep : ∀ j, j ≠ k → w'.heap[j]? = w.heap[j]?) (hob : RO (cxS w0 ((b, ob') :: rm hp b) nm η w') b ob') :
    RepH w0 ((b, ob') :: rm hp b) nm η w' ∧ (cxS w0 hp nm η w).le (cxS w0 ((b, ob') :: rm hp b) nm η w') := by
  have hlk : ∀ c, lk ((b, ob') :: rm hp b) c ≠ none ↔ lk hp c ≠ none := fun c => by
    rw [lk_put]
    by_cases hc : c = b
    · subst hc; simp [hb]
    · simp [hc]
  have hle : (cxS w0 hp nm η w).le (cxS w0 ((b, ob') :: rm hp b) nm η w') :=
    ⟨fun _ _ => rfl, fun _ h => h, fun j ⟨h1, h2⟩ => ⟨⟨by rw [hsz]; exact h1.1, h1.2⟩, fun c hc => h2 c ((hlk c).1 hc)⟩, fun j ⟨h1, h2⟩ => hkeep j (fun e => h2 b hb (by rw [e]; exact hk))⟩
  refine ⟨⟨fun c o ho => ?_, fun c d j h1 h2 => hH.sep c d j ((hlk c).1 h1) ((hlk d).1 h2), fun c j h1 h2 => ?_, fun c hc => hH.nxt c ((hlk c).1 hc), ?_⟩, hle⟩
  · rw [lk_put] at ho
    by_cases hc : c = b
    · subst hc
      simp only [if_true, Option.some.injEq] at ho
      subst ho
      exact hob
    · simp only [hc, if_false] at ho
      have h1 : lk hp c ≠ none := by rw [ho]; simp
      exact RO.mono hle (hH.nxt c h1) (fun j hj => hkeep j (fun e => hc (hH.sep c b k h1 hb (by rw [← e]; exact hj) hk))) (hH.obs c o ho)
  · rw [hsz]; exact hH.new c j ((hlk c).1 h1) h2
  · refine hH.bel.trans ⟨hos, htp, hout, by rw [hsz]; exact Nat.le_refl _, fun j hj => hkeep j (fun e => ?_)⟩
    have := (hH.new b k hb hk).1
    omega
end

theorem set_le {w0 : W0} {hp : List (Nat × Ob)} {nm : Nat → Prop} {η : Nat → Option Nat × Value} {w w' : World} {b k : Nat} {ob' : Ob} (hH : RepH w0 hp nm η w) (hb : lk hp b ≠ none) (hk : (η b).1 = some k) (hsz : w'.heap.size = w.heap.size)
    (hkeep : ∀ j, j ≠ k → w'.heap[j]? = w.heap[j]?) : (cxS w0 hp nm η w).le (cxS w0 ((b, ob') :: rm hp b) nm η w') := by
  have hlk : ∀ c, lk ((b, ob') :: rm hp b) c ≠ none → lk hp c ≠ none := fun c hc => by
    rw [lk_put] at hc
    by_cases h : c = b
    · subst h; exact hb
    · simpa [h] using hc
  exact ⟨fun _ _ => rfl, fun _ h => h, fun j ⟨h1, h2⟩ => ⟨⟨by rw [hsz]; exact h1.1, h1.2⟩, fun c hc => h2 c (hlk c hc)⟩, fun j ⟨h1, h2⟩ => hkeep j (fun e => h2 b hb (by rw [e]; exact hk))⟩

/-! ### the operations -/

structure E where
  hyp : Option Prop
  pre : Option Prop
  v : SV
  ch : List (Nat × Option Ob)
  nx : Nat

/-- the objects, turned -/
def apC : List (Nat × Ob) → List (Nat × Option Ob) → List (Nat × Ob)
  | hp, [] => hp
  | hp, (b, some o) :: r => apC ((b, o) :: rm hp b) r
  | hp, (b, none) :: r => apC (rm hp b) r

/-- a value's cells, if they are as many as its type has -/
def cellsOf (i : TI) : SV → Option (List C)
  | .c y => if i.tk.agg = false ∧ i.sz = 1 then some [y] else none
  | .agg l => if i.tk.agg = true ∧ l.length = i.sz then some l else none
  | _ => none

def alV (i : Option TI) (T : TypeId) (hp : List (Nat × Ob)) (nx : Nat) : Option E :=
  match i with
  | some i => some ⟨none, none, .c (.ptr nx 0), [(nx, some (.cells T i.zero))], nx + 1⟩
  | none => none

def bxV (i : Option TI) (T : TypeId) (hp : List (Nat × Ob)) (nx : Nat) (s : SV) : Option E :=
  match i with
  | some i => match cellsOf i s with
    | some l => some ⟨none, none, .c (.ptr nx 0), [(nx, some (.cells T l))], nx + 1⟩
    | none => none
  | none => none

def stV (i : Option TI) (hp : List (Nat × Ob)) (nx : Nat) (p s : SV) : Option E :=
  match i, p with
  | some i, .c (.ptr b o) => match cellsOf i s, lk hp b with
    | some m, some (.cells T l) => if m.length = i.sz ∧ o + m.length ≤ l.length then some ⟨none, none, .un, [(b, some (.cells T (l.take o ++ m ++ l.drop (o + m.length))))], nx⟩ else none
    | _, _ => none
  | some i, .c (.prw b j sz o) => match cellsOf i s, lk hp b with
    | some m, some (.row T d xs) => if sz = d.sz ∧ m.length = i.sz ∧ o + m.length ≤ d.sz then (match d.ps ((d.cs (gt xs j)).take o ++ m ++ (d.cs (gt xs j)).drop (o + m.length)) with
      | some (y, []) => some ⟨none, some (0 ≤ j ∧ j < xs.length), .un, [(b, some (.row T d (xs.set j.toNat y)))], nx⟩
      | _ => none) else none
    | some m, some (.wid T d xs c) => if sz = d.sz ∧ m.length = i.sz ∧ o + m.length ≤ d.sz then (match d.ps ((d.cs (gt xs j)).take o ++ m ++ (d.cs (gt xs j)).drop (o + m.length)) with
      | some (y, []) => some ⟨none, some (0 ≤ j ∧ j < xs.length), .un, [(b, some (.wid T d (xs.set j.toNat y) c))], nx⟩
      | _ => none) else none
    | _, _ => none
  | _, _ => none

/-- the data of parts of a slice literal, in their order -/
def psAll (i : TI) : Nat → List (Nat × SV) → Option (List i.d.T)
  | _, [] => some []
  | n, (k, s) :: r => if k = n then (match cellsOf i s with
    | some l => match i.d.ps l with
      | some (x, []) => match psAll i (n + 1) r with
        | some xs => some (x :: xs)
        | none => none
      | _ => none
    | none => none) else none

/-- the parts' cells, one behind the other -/
def pcAll (i : TI) : Nat → List (Nat × SV) → Option (List C)
  | _, [] => some []
  | n, (k, s) :: r => if k = n then (match cellsOf i s with
    | some l => match pcAll i (n + 1) r with
      | some m => some (l ++ m)
      | none => none
    | none => none) else none

/-- own rows in a row are to be data first -/
def nrL : List C → Bool
  | [] => true
  | .row _ :: _ => false
  | _ :: l => nrL l
def bsV (ti : Nat → Option TI) (T : TypeId) (len : Nat) (parts : List (Nat × SV)) (hp : List (Nat × Ob)) (nx : Nat) : Option E :=
  match ti T with
  | some ⟨.slice e, _, _, _, _⟩ => match ti e with
    | some i => if parts.length = len ∧ i.d.sz = i.sz ∧ len ≤ 4096 ∧ i.sz ≤ 4096 then (match psAll i 0 parts with
      | some xs => some ⟨none, none, .c (.row nx), [(nx, some (.row e i.d xs))], nx + 1⟩
      | none => match pcAll i 0 parts with
        | some l => match nrL l with
          | true => some ⟨none, none, .c (.csl nx len), [(nx, some (.cells e l))], nx + 1⟩
          | false => none
        | none => none) else none
    | none => none
  | _ => none

/-- what is appended -/
def srcV (d : D) (hp : List (Nat × Ob)) : SV → Option (List d.T)
  | .c (.dat d' ys) => if h : d' = d then some (h ▸ ys) else none
  | .c (.row b) => match lk hp b with
    | some (.row _ d' ys) => if h : d' = d then some (h ▸ ys) else none
    | _ => none
  | .c (.val (.slice none 0 0)) => some []
  | _ => none

theorem srcV_dat (d : D) (hp : List (Nat × Ob)) (ys : List d.T) : srcV d hp (.c (.dat d ys)) = some ys := by simp [srcV]

def apV (ti : Nat → Option TI) (T : TypeId) (hp : List (Nat × Ob)) (nx : Nat) : SV → SV → Option E
  | .c (.row b), y => match ti T, lk hp b with
    | some ⟨.slice e, _, _, _, _⟩, some (.row e' d xs) => match ti e, srcV d hp y with
      | some i, some ys => if e = e' ∧ i.sz = d.sz then
        some ⟨none, some ((xs.length + ys.length) * i.byt ≤ 140737488355328), .c (.row nx), [(b, none), (nx, some (.row e d (xs ++ ys)))], nx + 1⟩ else none
      | _, _ => none
    | _, _ => none
  | .c (.val (.slice none 0 0)), y => match ti T with
    | some ⟨.slice e, _, _, _, _⟩ => match ti e with
      | some i => match srcV i.d hp y with
        | some ys => if i.sz = i.d.sz then some ⟨none, some (ys.length * i.byt ≤ 140737488355328), .c (.row nx), [(nx, some (.row e i.d ys))], nx + 1⟩ else none
        | none => none
      | none => none
    | _ => none
  | _, _ => none

/-- what a copy reads: a condition, the elements, how many -/
def srcC (d : D) (hp : List (Nat × Ob)) (n : Nat) : SV → Option (Prop × List d.T × Nat)
  | .c (.dat d' ys) => if h : d' = d then some (True, (h ▸ ys).take n, min ys.length n) else none
  | .c (.row b) => match lk hp b with
    | some (.row _ d' ys) => if h : d' = d then some (True, (h ▸ ys).take n, min ys.length n) else none
    | _ => none
  | .c (.sub b o sz m c) => match lk hp b with
    | some (.wid _ d' xs _) => if h : d' = d then (if sz = d.sz then some (o + min m n ≤ xs.length, ((h ▸ xs).drop o).take (min m n), min m n) else none) else none
    | _ => none
  | .c (.val (.slice none 0 0)) => some (True, [], 0)
  | _ => none

theorem srcC_dat (d : D) (hp : List (Nat × Ob)) (n : Nat) (ys : List d.T) : srcC d hp n (.c (.dat d ys)) = some (True, ys.take n, min ys.length n) := by simp [srcC]

def cpV (ti : Nat → Option TI) (T : TypeId) (hp : List (Nat × Ob)) (nx : Nat) : SV → SV → Option E
  | .c (.sub b o sz n c), y => match ti T, lk hp b with
    | some ⟨.slice e, _, _, _, _⟩, some (.wid e' d xs c0) => match srcC d hp n y with
      | some (p, zs, k) => if sz? ti e = some d.sz ∧ sz = d.sz then some ⟨none, some (p ∧ o ≤ xs.length ∧ o + k ≤ c0), .c (.int .i64 k), [(b, some (.wid e' d (xs.take o ++ zs ++ xs.drop (o + k)) c0))], nx⟩ else none
      | none => none
    | _, _ => none
  | _, _ => none

/-- append of zero values, where there is no room -/
def apM (ti : Nat → Option TI) (T T' : TypeId) (hp : List (Nat × Ob)) (nx : Nat) : SV → SV → Option E
  | .c (.sub b o sz n c), .c (.int _ m) => match ti T, ti T', lk hp b with
    | some ⟨.slice e, _, _, _, _⟩, some ⟨.int _, _, _, _, _⟩, some (.wid e' d xs _) => match ti e with
      | some i => match d.ps i.zero with
        | some (z, []) => if e = e' ∧ i.sz = d.sz ∧ sz = d.sz then
          some ⟨none, some (0 < m ∧ (c : Int) < n + m ∧ o + n ≤ xs.length ∧ ((n : Int) + m) * i.byt ≤ 140737488355328), .c (.row nx), [(nx, some (.row e d ((xs.drop o).take n ++ List.replicate m.toNat z)))], nx + 1⟩ else none
        | _ => none
      | none => none
    | _, _, _ => none
  | _, _ => none

/-- append onto all of a row whose capacity is known -/
def apS (ti : Nat → Option TI) (T : TypeId) (hp : List (Nat × Ob)) (nx : Nat) : SV → SV → Option E
  | .c (.sub b o sz n c), y => match ti T, lk hp b with
    | some ⟨.slice e, _, _, _, _⟩, some (.wid e' d xs c0) => match ti e, srcV d hp y with
      | some i, some ys => if e = e' ∧ i.sz = d.sz ∧ sz = d.sz then
        some ⟨none, some ((o = 0 ∧ n = xs.length ∧ c = c0) ∧ (xs.length + ys.length) * i.byt ≤ 140737488355328), .c (.row nx), [(b, none), (nx, some (.row e d (xs ++ ys)))], nx + 1⟩ else none
      | _, _ => none
    | _, _ => none
  | _, _ => none

/-- append of a part of a row onto another part of it, where there is room -/
def apI (ti : Nat → Option TI) (T : TypeId) (hp : List (Nat × Ob)) (nx : Nat) : SV → SV → Option E
  | .c (.sub b o sz n c), .c (.sub b2 o2 sz2 m _) => match Nat.beq b b2 with
    | true => match ti T, lk hp b with
      | some ⟨.slice e, _, _, _, _⟩, some (.wid e' d xs c0) => if sz? ti e = some d.sz ∧ sz = d.sz ∧ sz2 = d.sz then
        some ⟨none, some (n + m ≤ c ∧ o + c = c0 ∧ o + n ≤ xs.length ∧ o2 + m ≤ xs.length), .c (.sub b o sz (n + m) c), [(b, some (.wid e' d (xs.take (o + n) ++ (xs.drop o2).take m ++ xs.drop (o + n + m)) c0))], nx⟩ else none
      | _, _ => none
    | false => none
  | _, _ => none

/-- zero values in a part of a row -/
def clV (ti : Nat → Option TI) (T : TypeId) (hp : List (Nat × Ob)) (nx : Nat) : SV → Option E
  | .c (.sub b o sz n _) => match ti T, lk hp b with
    | some ⟨.slice e, _, _, _, _⟩, some (.wid e' d xs c0) => match ti e with
      | some i => match d.ps i.zero with
        | some (z, []) => if i.sz = d.sz ∧ sz = d.sz then
          some ⟨none, some (o + n ≤ xs.length), .tup [], [(b, some (.wid e' d (xs.take o ++ List.replicate n z ++ xs.drop (o + n)) c0))], nx⟩ else none
        | _ => none
      | none => none
    | _, _ => none
  | _ => none

def ef (ti : Nat → Option TI) (hp : List (Nat × Ob)) (nx : Nat) (g : Operand → SV) : Op → Option E
  | .alloc T => alV (ti T) T hp nx
  | .box T x => bxV (ti T) T hp nx (g x)
  | .store T p x => stV (ti T) hp nx (g p) (g x)
  | .buildSlice T len parts => bsV ti T len (parts.toList.map fun p => (p.1, g p.2)) hp nx
  | .call c => match c.callee, c.args.toList, c.argTypes.toList with
    | .builtin .append, [s, x], [t, t'] => if t = t' then (match apV ti t hp nx (g s) (g x) with
      | some e => some e
      | none => match apS ti t hp nx (g s) (g x) with
        | some e => some e
        | none => apI ti t hp nx (g s) (g x)) else apM ti t t' hp nx (g s) (g x)
    | .builtin .copy, [d, s], [t, _] => cpV ti t hp nx (g d) (g s)
    | .builtin .clear, [x], [t] => clV ti t hp nx (g x)
    | _, _, _ => none
  | _ => none

theorem ef_nx {ti : Nat → Option TI} {hp : List (Nat × Ob)} {nx : Nat} {g : Operand → SV} {op : Op} {e : E} (h : ef ti hp nx g op = some e) : nx ≤ e.nx ∧ e.nx ≤ nx + 1 := by
  unfold ef at h
  split at h
  · unfold alV at h; split at h <;> cases h; simp
  · unfold bxV at h; repeat' split at h
    all_goals first | (cases h; simp; done) | cases h
  · unfold stV at h; repeat' split at h
    all_goals first | (cases h; simp; done) | cases h
  · unfold bsV at h; repeat' split at h
    all_goals first | (cases h; simp; done) | cases h
  · split at h
    · split at h
      · split at h
        · rename_i hq
          cases h
          unfold apV at hq; repeat' split at hq
          all_goals first | (cases hq; simp; done) | cases hq
        · split at h
          · rename_i hq
            cases h
            unfold apS at hq; repeat' split at hq
            all_goals first | (cases hq; simp; done) | cases hq
          · unfold apI at h; repeat' split at h
            all_goals first | (cases h; simp; done) | cases h
      · unfold apM at h; repeat' split at h
        all_goals first | (cases h; simp; done) | cases h
    · unfold cpV at h; repeat' split at h
      all_goals first | (cases h; simp; done) | cases h
    · unfold clV at h; repeat' split at h
      all_goals first | (cases h; simp; done) | cases h
    · cases h
  · cases h

/-! ### they are right -/

theorem cellsOf_sound {x : Cx} {i : TI} {s : SV} {l : List C} {v : Value} (h : cellsOf i s = some l) (hv : RS x s v) : l.length = i.sz ∧ RL (RC x) l v.cells.toList ∧ (∀ u ∈ v.cells.toList, u.oneCell' = true) := by
  unfold cellsOf at h
  split at h
  · rename_i y
    split at h
    · rename_i hc
      cases h
      have hv : RC x y v := hv
      have h1 := RC.one hv
      have hc' : v.cells = #[v] := by cases v <;> simp_all [Value.oneCell', Value.cells]
      rw [hc']
      exact ⟨hc.2.symm, ⟨hv, trivial⟩, by simpa using h1⟩
    · cases h
  · rename_i m
    split at h
    · rename_i hc
      cases h
      obtain ⟨vs, rfl, hl⟩ := hv
      refine ⟨hc.2, hl, ?_⟩
      have : ∀ {l : List C} {m : List Value}, RL (RC x) l m → ∀ u ∈ m, u.oneCell' = true := by
        intro l
        induction l with
        | nil => intro m h u hu; cases m with | nil => cases hu | cons _ _ => exact h.elim
        | cons c l ih =>
          intro m h u hu
          cases m with
          | nil => cases hu
          | cons v m =>
            cases hu with
            | head => exact RC.one h.1
            | tail _ hu => exact ih h.2 u hu
      exact this hl
    · cases h
  · cases h

theorem zero_sound {ti : Nat → Option TI} (ht : TabOk P ti) {t : TypeId} {i : TI} (hi : ti t = some i) : ∃ z, (∀ w, (zeroValue t).run P w = .ok z w) ∧ z.cells.size = i.sz ∧ ∀ x, RL (RC x) i.zero z.cells.toList := by
  have is := ht.is hi
  obtain ⟨j, z, hj, hz, hzz⟩ := is.zero
  refine ⟨z, fun w => by simp [zeroValue, typeInfo, hj, hz], ?_⟩
  have hrl : ∀ x : Cx, RL (RC x) i.zero z.cells.toList := by
    intro x
    cases hag : i.tk.agg with
    | true =>
      rw [if_pos hag] at hzz
      obtain ⟨cs, rfl, h⟩ := hzz
      exact rl_of_allIs h
    | false =>
      rw [if_neg (by simp [hag])] at hzz
      have hr : RL (RC x) i.zero [z] := rl_of_allIs hzz
      have : z.cells = #[z] := by
        cases hzl : i.zero with
        | nil => rw [hzl] at hr; exact hr.elim
        | cons c l =>
          rw [hzl] at hr
          have := RC.one hr.1
          cases z <;> simp_all [Value.oneCell', Value.cells]
      rw [this]
      exact hr
  refine ⟨?_, hrl⟩
  have := RL.len (hrl ⟨default, fun _ => (none, default), fun _ => True, fun _ => True⟩)
  rw [is.zlen] at this
  simpa using this.symm

/-- what an effect must come to -/
def Does (P : Program) (w0 : W0) (hp : List (Nat × Ob)) (nm : Nat → Prop) (nx : Nat) (η : Nat → Option Nat × Value) (w : World) (s : Sem Next) (e : E) : Prop :=
  ∃ n v w' η', s.run P w = .ok n w' ∧ (n = .value v ∨ (n = .skip ∧ v = undef)) ∧ RepH w0 (apC hp e.ch) (nmE nm nx e.nx) η' w' ∧ (cxS w0 hp nm η w).le (cxS w0 (apC hp e.ch) (nmE nm nx e.nx) η' w') ∧ RS (cxS w0 (apC hp e.ch) (nmE nm nx e.nx) η' w') e.v v

/-- a new block of known cells -/
theorem does_new {w0 : W0} {hp : List (Nat × Ob)} {nm : Nat → Prop} {nx : Nat} {η : Nat → Option Nat × Value} {w : World} (hnx : ¬ nm nx) (hH : RepH w0 hp nm η w) {T : TypeId} {l : List C} {vs : Array Value} (hl : RL (RC (cxS w0 hp nm η w)) l vs.toList)
    {s : Sem Next} (hr : s.run P w = .ok (.value (.pointer (some ⟨w.heap.size, 0, none⟩))) (w.alloc (.cells vs T))) :
    Does P w0 hp nm nx η w s ⟨none, none, .c (.ptr nx 0), [(nx, some (.cells T l))], nx + 1⟩ := by
  have ht := turns_allocr (nx := nx) (hp := hp) (η := η) (w := w) (.cells vs T)
  have hle := step_le (p := (some w.heap.size, undef)) (ob := .cells T l) hnx hH rm_sub ht (fun k hk => .inl (by cases hk; exact Nat.le_refl _))
  refine ⟨_, _, _, upd η nx (some w.heap.size, undef), hr, .inl rfl, ?_, hle, ?_⟩
  · refine step_rep hnx hH rm_sub ht (fun k hk => .inl (by cases hk; simp)) ⟨w.heap.size, vs, by simp [cxS, upd], ?_, RL.imp (fun _ _ => RC.mono hle) hl⟩
    exact heap_alloc_new w _
  · exact ⟨.inr ⟨Nat.le_refl _, Nat.lt_succ_self _⟩, w.heap.size, by simp [cxS, upd], rfl⟩

theorem alV_sound {ti : Nat → Option TI} (ht : TabOk P ti) {w0 : W0} {hp hq : List (Nat × Ob)} {nm : Nat → Prop} {nx : Nat} {η : Nat → Option Nat × Value} {w : World} (hnx : ¬ nm nx) (hH : RepH w0 hp nm η w) {t : TypeId} {e : E}
    {ρ : Operand → Value} (h : alV (ti t) t hq nx = some e) {o : Oper} (ho : o.op = .alloc t) : OP e.hyp ∧ (OP e.pre → Does P w0 hp nm nx η w (execOp ρ o) e) := by
  unfold alV at h
  split at h
  · rename_i i hi
    cases h
    obtain ⟨z, hz, hzs, hzr⟩ := zero_sound ht hi
    refine ⟨trivial, fun _ => does_new hnx hH (hzr _) ?_⟩
    simp [execOp, ho, Instr.alloc, hz, newVar, newRow]
  · cases h

theorem bxV_sound {ti : Nat → Option TI} {w0 : W0} {hp hq : List (Nat × Ob)} {nm : Nat → Prop} {nx : Nat} {η : Nat → Option Nat × Value} {w : World} (hnx : ¬ nm nx) (hH : RepH w0 hp nm η w) {t : TypeId} {s : SV} {e : E}
    {X : Operand} {ρ : Operand → Value} (h : bxV (ti t) t hq nx s = some e) (hx : RS (cxS w0 hp nm η w) s (ρ X)) {o : Oper} (ho : o.op = .box t X) : OP e.hyp ∧ (OP e.pre → Does P w0 hp nm nx η w (execOp ρ o) e) := by
  unfold bxV at h
  split at h
  · split at h
    · rename_i l hl
      cases h
      obtain ⟨_, h2, _⟩ := cellsOf_sound hl hx
      refine ⟨trivial, fun _ => does_new hnx hH h2 ?_⟩
      simp [execOp, ho, Instr.box, newVar, newRow]
    · cases h
  · cases h

/-! ### slice literals -/

theorem rl_cons {α β : Type} {R : α → β → Prop} {a : α} {l : List α} {m : List β} (h : RL R (a :: l) m) : ∃ b m', m = b :: m' ∧ R a b ∧ RL R l m' := by
  cases m with
  | nil => exact h.elim
  | cons b m' => exact ⟨b, m', rfl, h.1, h.2⟩

theorem asList_sound {x : Cx} {a : D} {c : C} {xs : List a.T} {v : Value} (h : c.asList a = some xs) (hv : RC x c v) : Rd x.w x.ok (.list a) xs [v] := by
  unfold C.asList at h
  split at h
  · rename_i a' ys
    split at h
    · rename_i e
      subst e
      simp only [Option.some.injEq] at h
      subst h
      exact hv
    · cases h
  · simp only [Option.some.injEq] at h
    subst h
    obtain ⟨rfl, _⟩ := hv
    simp only [Rd]
    exact ⟨none, 0, by simp, by simp, by simp [maxLen], fun _ => rfl, .inl rfl⟩
  · cases h

theorem D.ps_sound {x : Cx} : ∀ {d : D} {l : List C} {y : d.T} {r : List C} {vs : List Value}, d.ps l = some (y, r) → RL (RC x) l vs →
    ∃ v1 v2, vs = v1 ++ v2 ∧ Rd x.w x.ok d y v1 ∧ RL (RC x) r v2
  | .int k, l, y, r, vs, h, hl => by
    cases l with
    | nil => simp [D.ps] at h
    | cons c l =>
      obtain ⟨v, vs', rfl, hv, hl'⟩ := rl_cons hl
      cases c <;> simp only [D.ps, reduceCtorEq] at h
      split at h
      · rename_i hk
        subst hk
        simp only [Option.some.injEq, Prod.mk.injEq] at h
        obtain ⟨rfl, rfl⟩ := h
        exact ⟨[v], vs', rfl, by simp only [RC] at hv; simp [Rd, hv], hl'⟩
      · cases h
  | .bool, l, y, r, vs, h, hl => by
    cases l with
    | nil => simp [D.ps] at h
    | cons c l =>
      obtain ⟨v, vs', rfl, hv, hl'⟩ := rl_cons hl
      cases c <;> simp only [D.ps, reduceCtorEq, Option.some.injEq, Prod.mk.injEq] at h
      obtain ⟨rfl, rfl⟩ := h
      exact ⟨[v], vs', rfl, by simp only [RC] at hv; simp [Rd, hv], hl'⟩
  | .str, l, y, r, vs, h, hl => by
    cases l with
    | nil => simp [D.ps] at h
    | cons c l =>
      obtain ⟨v, vs', rfl, hv, hl'⟩ := rl_cons hl
      cases c <;> simp only [D.ps, reduceCtorEq, Option.some.injEq, Prod.mk.injEq] at h
      obtain ⟨rfl, rfl⟩ := h
      exact ⟨[v], vs', rfl, by simp only [RC] at hv; simp [Rd, hv], hl'⟩
  | .pair a b, l, y, r, vs, h, hl => by
    simp only [D.ps] at h
    split at h
    · rename_i y1 l1 h1
      split at h
      · rename_i y2 l2 h2
        simp only [Option.some.injEq, Prod.mk.injEq] at h
        obtain ⟨rfl, rfl⟩ := h
        obtain ⟨v1, v2, rfl, r1, r2⟩ := D.ps_sound h1 hl
        obtain ⟨v3, v4, rfl, r3, r4⟩ := D.ps_sound h2 r2
        exact ⟨v1 ++ v3, v4, by simp, ⟨v1, v3, rfl, r1, r3⟩, r4⟩
      · cases h
    · cases h
  | .list a, l, y, r, vs, h, hl => by
    cases l with
    | nil => simp [D.ps] at h
    | cons c l =>
      obtain ⟨v, vs', rfl, hv, hl'⟩ := rl_cons hl
      simp only [D.ps] at h
      split at h
      · rename_i xs hxs
        simp only [Option.some.injEq, Prod.mk.injEq] at h
        obtain ⟨rfl, rfl⟩ := h
        exact ⟨[v], vs', rfl, asList_sound hxs hv, hl'⟩
      · cases h

/-- the parts' values: all their cells, one part behind the other -/
theorem splice {α : Type} (cl m : List α) (a S N off : Nat) (h1 : a + S ≤ N) (h2 : N ≤ cl.length) (h3 : off + m.length ≤ S) :
    (cl.take (a + off) ++ m ++ cl.drop (a + off + m.length)).take N = (cl.take N).take a ++ (((cl.drop a).take S).take off ++ m ++ ((cl.drop a).take S).drop (off + m.length)) ++ (cl.take N).drop (a + S) := by
  apply List.ext_getElem?
  intro i
  have e1 : (cl.take (a + off)).length = a + off := by rw [List.length_take]; omega
  have e2 : ((cl.take N).take a).length = a := by rw [List.length_take, List.length_take]; omega
  have e3 : (((cl.drop a).take S).take off).length = off := by rw [List.length_take, List.length_take, List.length_drop]; omega
  have e4 : (((cl.drop a).take S).drop (off + m.length)).length = S - (off + m.length) := by rw [List.length_drop, List.length_take, List.length_drop]; omega
  simp only [List.getElem?_take, List.getElem?_append, List.length_append, e1, e2, e3, e4, List.getElem?_drop]
  by_cases c1 : i < a
  · simp [c1, show i < N by omega, show i < a + off + m.length by omega, show i < a + off by omega, show i < a + (off + m.length + (S - (off + m.length))) by omega]
  · by_cases c2 : i < a + off
    · simp [c1, c2, show i < N by omega, show i < a + off + m.length by omega, show i < a + (off + m.length + (S - (off + m.length))) by omega, show i - a < off by omega, show i - a < off + m.length by omega, show i - a < S by omega, show a + (i - a) = i by omega]
    · by_cases c3 : i < a + off + m.length
      · simp [c1, c2, c3, show i < N by omega, show i < a + (off + m.length + (S - (off + m.length))) by omega, show ¬ i - a < off by omega, show i - a < off + m.length by omega, show i - a - off = i - (a + off) by omega]
      · by_cases c4 : i < a + S
        · simp [c1, c3, show i < N by omega, show i < a + (off + m.length + (S - (off + m.length))) by omega, show ¬ i - a < off + m.length by omega, show off + m.length + (i - a - (off + m.length)) < S by omega, show a + (off + m.length + (i - a - (off + m.length))) = i by omega, show a + off + m.length + (i - (a + off + m.length)) = i by omega]
        · simp [c3, show ¬ i < a + (off + m.length + (S - (off + m.length))) by omega, show a + off + m.length + (i - (a + off + m.length)) = i by omega, show a + S + (i - (a + (off + m.length + (S - (off + m.length))))) = i by omega]
theorem RdF.put {α : Type} {R : α → List Value → Prop} {sz : Nat} (hs : ∀ x cs, R x cs → cs.length = sz) {xs : List α} {cs : List Value} (h : RdF R xs cs) {j : Nat} (hj : j < xs.length) {y : α} {v : List Value} (hv : R y v) :
    RdF R (xs.set j y) (cs.take (j * sz) ++ v ++ cs.drop (j * sz + sz)) := by
  have h1 := RdF.take hs j h
  have h2 := RdF.drop hs (j + 1) h
  have h3 : RdF R [y] v := ⟨v, [], by simp, hv, rfl⟩
  have := RdF.app (RdF.app h1 h3) h2
  rw [Nat.add_mul, Nat.one_mul] at this
  rw [List.set_eq_take_append_cons_drop, if_pos hj]
  simpa using this

theorem stV_sound {ti : Nat → Option TI} (ht : TabOk P ti) {w0 : W0} {hp0 hq : List (Nat × Ob)} {nm : Nat → Prop} {nx : Nat} {η : Nat → Option Nat × Value} {w : World} (hH : RepH w0 hp0 nm η w) (hs : ∀ b o, lk hq b = some o → lk hp0 b = some o) {t : TypeId} {p s : SV} {e : E}
    {X Y : Operand} {ρ : Operand → Value} (h : stV (ti t) hq nx p s = some e) (hx : RS (cxS w0 hp0 nm η w) p (ρ X)) (hy : RS (cxS w0 hp0 nm η w) s (ρ Y)) {o : Oper} (ho : o.op = .store t X Y) :
    OP e.hyp ∧ (OP e.pre → Does P w0 hp0 nm nx η w (execOp ρ o) e) := by
  unfold stV at h
  split at h
  · rename_i i b off hi
    obtain ⟨hb, k, hk, ex⟩ := hx
    split at h
    · rename_i m T l hm hlk
      split at h
      · rename_i hc
        cases h
        obtain ⟨h1, h2, h3⟩ := cellsOf_sound hm hy
        obtain ⟨k', vs, hk', hbk, hl⟩ := hH.obs b _ (hs _ _ hlk)
        have : k' = k := by have : some k' = some k := hk'.symm.trans hk; simpa using this
        subst this
        have hll := RL.len hl
        have h2l := RL.len h2
        simp only [Array.length_toList] at hll h2l
        have hst := run_storeCells_at P k' off T (ρ Y).cells.toList 0 vs w hbk (by simp; omega) h3
        obtain ⟨j, hj, hjs, _⟩ := (ht.is hi).info
        have hsize : (Go.sizeOf t).run P w = .ok i.sz w := by simp [Go.sizeOf, typeInfo, hj, hjs]
        have hne : ¬ ((ρ Y).cells.size ≠ i.sz) := by omega
        have hlk' : lk hp0 b ≠ none := by rw [hs _ _ hlk]; simp
        have hset := step_set (w' := w.setRow k' (vs.toList.take (off + 0) ++ (ρ Y).cells.toList ++ vs.toList.drop (off + 0 + (ρ Y).cells.toList.length)).toArray) (ob' := .cells T (l.take off ++ m ++ l.drop (off + m.length)))
          hH (b := b) (k := k') hlk' hk rfl rfl rfl (by simp) (fun j hj => setRow_other w k' j _ hj)
        have hle : (cxS w0 hp0 nm η w).le (cxS w0 ((b, .cells T (l.take off ++ m ++ l.drop (off + m.length))) :: rm hp0 b) nm η (w.setRow k' (vs.toList.take (off + 0) ++ (ρ Y).cells.toList ++ vs.toList.drop (off + 0 + (ρ Y).cells.toList.length)).toArray)) := by
          refine ⟨fun _ _ => rfl, fun _ h => h, fun j ⟨g1, g2⟩ => ⟨⟨by simpa using g1.1, g1.2⟩, fun c hc => g2 c ?_⟩, fun j ⟨g1, g2⟩ => setRow_other w k' j _ (fun e => g2 b hlk' (by rw [e]; exact hk))⟩
          rw [lk_put] at hc
          by_cases hcb : c = b
          · subst hcb; exact hlk'
          · simpa [hcb] using hc
        refine ⟨trivial, fun _ => ?_⟩
        obtain ⟨g1, g2⟩ := hset ⟨k', _, hk, setRow_heap w k' vs _ T _ hbk, by
          have := RL.app (RL.app (RL.take off hl) h2) (RL.drop (off + m.length) hl)
          simpa only [Nat.add_zero, Array.length_toList, ← h2l] using RL.imp (fun _ _ => RC.mono hle) this⟩
        unfold Does
        rw [nmE_same]
        refine ⟨.skip, undef, _, η, ?_, .inr ⟨rfl, rfl⟩, g1, g2, trivial⟩
        have hst' : (storeCells ⟨k', off, none⟩ (ρ Y).cells.toList).run P w = _ := hst
        simp only [execOp, ho, ex, Instr.storeAt, Instr.sureAddr, pure_bind, storeVar, Sem.run_bind, hsize, Result.andThen_ok, Sem.run_ite, hne, if_false, Sem.run_pure, hst']
      · cases h
    · cases h
  · rename_i i b j sz off hi
    obtain ⟨hb, k, hk, ex⟩ := hx
    have goal : ∀ (d : D) (xs : List d.T) (m : List C) (y : d.T) (cur : Array Value) (T : TypeId) (c0 : Nat), cellsOf i s = some m → lk hp0 b ≠ none → w.heap[k]? = some (.cells cur T (0, 0)) → cur.size = c0 * d.sz → xs.length ≤ c0 →
        RdF (Rd w (okS w0 hp0 η w) d) xs (cur.toList.take (xs.length * d.sz)) → sz = d.sz → m.length = i.sz → off + m.length ≤ d.sz → d.ps ((d.cs (gt xs j)).take off ++ m ++ (d.cs (gt xs j)).drop (off + m.length)) = some (y, []) → (0 ≤ j ∧ j < xs.length) →
        ∃ cur' : Array Value, (execOp ρ o).run P w = .ok .skip (w.setRow k cur') ∧ cur'.size = cur.size ∧ RdF (Rd w (okS w0 hp0 η w) d) (xs.set j.toNat y) (cur'.toList.take (xs.length * d.sz)) := by
      intro d xs m y cur T c0 hm hlk hcur hcs hlc hf hsz hml hfit hps hp
      subst hsz
      obtain ⟨h1, h2, h3⟩ := cellsOf_sound hm hy
      have h2l := RL.len h2
      simp only [Array.length_toList] at h2l
      have hjn : j.toNat < xs.length := by omega
      have hA : j.toNat * d.sz + d.sz ≤ xs.length * d.sz := by
        have : (j.toNat + 1) * d.sz ≤ xs.length * d.sz := Nat.mul_le_mul_right _ (by omega)
        rw [Nat.add_mul, Nat.one_mul] at this; exact this
      have hB : xs.length * d.sz ≤ c0 * d.sz := Nat.mul_le_mul_right _ hlc
      have hN : xs.length * d.sz ≤ cur.toList.length := by rw [Array.length_toList (xs := cur), hcs]; exact hB
      have hst := run_storeCells_at P k (j.toNat * d.sz + off) T (ρ Y).cells.toList 0 cur w hcur (by simp only [Array.length_toList, Nat.add_zero]; omega) h3
      simp only [Nat.add_zero] at hst
      obtain ⟨jj, hj, hjs, _⟩ := (ht.is hi).info
      have hsize : (Go.sizeOf t).run P w = .ok i.sz w := by simp [Go.sizeOf, typeInfo, hj, hjs]
      have hne : ¬ ((ρ Y).cells.size ≠ i.sz) := by omega
      refine ⟨(cur.toList.take (j.toNat * d.sz + off) ++ (ρ Y).cells.toList ++ cur.toList.drop (j.toNat * d.sz + off + (ρ Y).cells.toList.length)).toArray, ?_, ?_, ?_⟩
      · simp only [execOp, ho, ex, Instr.storeAt, Instr.sureAddr, pure_bind, storeVar, Sem.run_bind, hsize, Result.andThen_ok, Sem.run_ite, hne, if_false, Sem.run_pure, hst]
      · simp only [List.size_toArray, List.length_append, List.length_take, List.length_drop, Array.length_toList]; omega
      · -- the element's cells
        have hel := RdF.get (fun _ _ => Rd.len) hf (gt_get hp.1 hp.2)
        have hcsl := rl_cs (x := cxS w0 hp0 nm η w) hel
        have hE : ((cur.toList.take (xs.length * d.sz)).drop (j.toNat * d.sz)).take d.sz = (cur.toList.drop (j.toNat * d.sz)).take d.sz := by
          rw [List.drop_take, List.take_take, Nat.min_eq_left (by omega)]
        rw [hE] at hcsl
        have hnew := RL.app (RL.app (RL.take off hcsl) h2) (RL.drop (off + m.length) hcsl)
        obtain ⟨v1, v2, ev, hv1, hv2⟩ := D.ps_sound hps hnew
        have : v2 = [] := by cases v2 with | nil => rfl | cons _ _ => exact hv2.elim
        subst this
        rw [List.append_nil] at ev
        have hput := RdF.put (fun _ _ => Rd.len) hf hjn hv1
        have h2l' : (ρ Y).cells.toList.length = m.length := by rw [Array.length_toList]; exact h2l.symm
        have hEl : ((cur.toList.drop (j.toNat * d.sz)).take d.sz).length = d.sz := by rw [List.length_take, List.length_drop, Array.length_toList]; omega
        have e5 : ((cur.toList.take (j.toNat * d.sz + off) ++ (ρ Y).cells.toList ++ cur.toList.drop (j.toNat * d.sz + off + (ρ Y).cells.toList.length)).toArray.toList).take (xs.length * d.sz) = (cur.toList.take (xs.length * d.sz)).take (j.toNat * d.sz) ++ v1 ++ (cur.toList.take (xs.length * d.sz)).drop (j.toNat * d.sz + d.sz) := by
          rw [← ev, List.toList_toArray, ← h2l']
          exact splice cur.toList (ρ Y).cells.toList (j.toNat * d.sz) d.sz (xs.length * d.sz) off hA hN (by rw [h2l']; exact hfit)
        rw [e5]
        exact hput
    split at h
    · rename_i m T d xs hm hlk
      split at h
      · rename_i hc
        split at h
        · rename_i y hps
          cases h
          refine ⟨trivial, fun hp => ?_⟩
          simp only [OP_some] at hp
          have hlk' : lk hp0 b ≠ none := by rw [hs _ _ hlk]; simp
          obtain ⟨cs, r1, r2, r3⟩ := hH.obs b _ (hs _ _ hlk)
          rcases r2.2 with ⟨_, hn⟩ | ⟨g, cap, cur, hv, hb0, hg, hc1, hc2, hc3, hc4⟩
          · omega
          have hgk : g = k := by
            rw [hv] at r1
            have : some k = some g := hk.symm.trans r1
            simpa using this.symm
          subst hgk
          obtain ⟨cur', q1, q2, q3⟩ := goal d xs m y cur T cap hm hlk' hg hc3 hc1 (by rw [hc4]; exact r3) hc.1 hc.2.1 hc.2.2 hps hp
          have hset := step_set (w' := w.setRow g cur') (ob' := .row T d (xs.set j.toNat y)) hH (b := b) (k := g) hlk' hk rfl rfl rfl (by simp) (fun j hj => setRow_other w g j _ hj)
          have hle := set_le (w' := w.setRow g cur') (ob' := .row T d (xs.set j.toNat y)) hH hlk' hk (by simp) (fun j hj => setRow_other w g j _ hj)
          have hsz' : cur'.size = cap * d.sz := by rw [q2]; exact hc3
          obtain ⟨f1, f2⟩ := hset ⟨cur'.toList.take (xs.length * d.sz), r1, ⟨by
            rw [List.length_take, Array.length_toList (xs := cur'), List.length_set, hsz', Nat.min_eq_left]
            exact Nat.mul_le_mul_right _ hc1, .inr ⟨g, cap, cur', by rw [List.length_set]; exact hv, hb0, setRow_heap w g cur _ T _ hg, by rw [List.length_set]; exact hc1, hc2, hsz', by rw [List.length_set]⟩⟩, RdF.imp (fun _ _ => Rd.mono hle.ok hle.heap) q3⟩
          unfold Does
          rw [nmE_same]
          exact ⟨.skip, undef, _, η, q1, .inr ⟨rfl, rfl⟩, f1, f2, trivial⟩
        · cases h
      · cases h
    · rename_i m T d xs c0 hm hlk
      split at h
      · rename_i hc
        split at h
        · rename_i y hps
          cases h
          refine ⟨trivial, fun hp => ?_⟩
          simp only [OP_some] at hp
          have hlk' : lk hp0 b ≠ none := by rw [hs _ _ hlk]; simp
          obtain ⟨k3, cur, hk3, hg, hcs, hlc, hcm, hf⟩ := hH.obs b _ (hs _ _ hlk)
          have hgk : k3 = k := by have : some k3 = some k := hk3.symm.trans hk; simpa using this
          subst hgk
          obtain ⟨cur', q1, q2, q3⟩ := goal d xs m y cur T c0 hm hlk' hg hcs hlc hf hc.1 hc.2.1 hc.2.2 hps hp
          have hset := step_set (w' := w.setRow k3 cur') (ob' := .wid T d (xs.set j.toNat y) c0) hH (b := b) (k := k3) hlk' hk rfl rfl rfl (by simp) (fun j hj => setRow_other w k3 j _ hj)
          have hle := set_le (w' := w.setRow k3 cur') (ob' := .wid T d (xs.set j.toNat y) c0) hH hlk' hk (by simp) (fun j hj => setRow_other w k3 j _ hj)
          obtain ⟨f1, f2⟩ := hset ⟨k3, cur', hk, setRow_heap w k3 cur _ T _ hg, by rw [q2]; exact hcs, by rw [List.length_set]; exact hlc, hcm, by rw [List.length_set]; exact RdF.imp (fun _ _ => Rd.mono hle.ok hle.heap) q3⟩
          unfold Does
          rw [nmE_same]
          exact ⟨.skip, undef, _, η, q1, .inr ⟨rfl, rfl⟩, f1, f2, trivial⟩
        · cases h
      · cases h
    · cases h
  · cases h

theorem psAll_sound {x : Cx} {i : TI} : ∀ {parts : List (Nat × SV)} {vals : List (Nat × Value)} {n : Nat} {xs : List i.d.T}, psAll i n parts = some xs →
    RL (fun (p : Nat × SV) (u : Nat × Value) => p.1 = u.1 ∧ RS x p.2 u.2) parts vals →
    RdF (Rd x.w x.ok i.d) xs (vals.flatMap fun u => u.2.cells.toList) ∧ xs.length = parts.length ∧ ∀ size, i.sz = size → ∀ (cs : Array Value), (n + vals.length) * size ≤ cs.size →
      Instr.fill (fun k => some (k * size, size)) cs vals = some (cs.toList.take (n * size) ++ (vals.flatMap fun u => u.2.cells.toList) ++ cs.toList.drop ((n + vals.length) * size)).toArray
  | [], [], n, xs, h, _ => by
    simp only [psAll, Option.some.injEq] at h
    subst h
    refine ⟨rfl, rfl, fun size _ cs _ => ?_⟩
    simp [Instr.fill]
  | (k, s) :: r, (k', u) :: vals, n, xs, h, ⟨⟨e, hu⟩, hr⟩ => by
    simp only at e hu
    subst e
    simp only [psAll] at h
    split at h
    · rename_i hk
      subst hk
      split at h
      · rename_i l hl
        split at h
        · rename_i y hy
          split at h
          · rename_i ys hys
            simp only [Option.some.injEq] at h
            subst h
            obtain ⟨h1, h2, h3⟩ := cellsOf_sound hl hu
            obtain ⟨v1, v2, e, r1, r2⟩ := D.ps_sound hy h2
            have hv2 : v2 = [] := by cases v2 with | nil => rfl | cons _ _ => exact r2.elim
            subst hv2
            rw [List.append_nil] at e
            obtain ⟨g1, g2, g3⟩ := psAll_sound hys hr
            refine ⟨⟨u.cells.toList, _, rfl, by rw [e]; exact r1, g1⟩, by simp [g2], fun size hs cs hle => ?_⟩
            subst hs
            have hlen : u.cells.size = i.sz := by
              have := RL.len h2
              rw [h1] at this
              simpa using this.symm
            simp only [List.length_cons] at hle
            have hle2 : k * i.sz + i.sz ≤ cs.size := by
              have : (k + 1) * i.sz ≤ (k + (vals.length + 1)) * i.sz := Nat.mul_le_mul_right _ (by omega)
              rw [Nat.add_mul, Nat.one_mul] at this
              omega
            have hfold := foldl_set u.cells.toList 0 (k * i.sz) cs (by simp; omega)
            have hfold' : u.cells.zipIdx.foldl (fun cs (p : Value × Nat) => cs.setIfInBounds (k * i.sz + p.2) p.1) cs = (cs.toList.take (k * i.sz) ++ u.cells.toList ++ cs.toList.drop (k * i.sz + i.sz)).toArray := by
              rw [← Array.foldl_toList, Array.toList_zipIdx]
              simpa [hlen] using hfold
            have hsz' : (cs.toList.take (k * i.sz) ++ u.cells.toList ++ cs.toList.drop (k * i.sz + i.sz)).length = cs.size := by
              simp [hlen]; omega
            have := g3 i.sz rfl (cs.toList.take (k * i.sz) ++ u.cells.toList ++ cs.toList.drop (k * i.sz + i.sz)).toArray (by
              rw [List.size_toArray, hsz', Nat.add_assoc, Nat.add_comm 1]; exact hle)
            simp only [Instr.fill]
            refine (if_neg (by simp [hlen]; omega)).trans ?_
            refine (congrArg (fun z => Instr.fill (fun k => some (k * i.sz, i.sz)) z vals) hfold').trans ?_
            rw [this]
            congr 2
            have e1 : (k + 1) * i.sz = k * i.sz + i.sz := by rw [Nat.add_mul, Nat.one_mul]
            have e2 : (k + (vals.length + 1)) * i.sz = (k + 1 + vals.length) * i.sz := by congr 1; omega
            have e3 : (cs.toList.take (k * i.sz) ++ u.cells.toList).length = k * i.sz + i.sz := by simp [hlen]; omega
            simp only [List.flatMap_cons, List.length_cons]
            rw [e1, e2, List.take_append_of_le_length (by omega), List.take_of_length_le (by omega), List.drop_append, e3]
            have : (cs.toList.take (k * i.sz) ++ u.cells.toList).drop ((k + 1 + vals.length) * i.sz) = [] := by
              apply List.drop_of_length_le
              rw [e3, ← e1]
              exact Nat.mul_le_mul_right _ (by omega)
            rw [this, List.nil_append, List.drop_drop]
            have e4 : k * i.sz + i.sz + ((k + 1 + vals.length) * i.sz - (k * i.sz + i.sz)) = (k + 1 + vals.length) * i.sz := by
              have : (k + 1) * i.sz ≤ (k + 1 + vals.length) * i.sz := Nat.mul_le_mul_right _ (by omega)
              omega
            rw [e4]
            simp
          · cases h
        · cases h
      · cases h
    · cases h
  | [], _ :: _, _, _, _, h => h.elim
  | _ :: _, [], _, _, _, h => h.elim

theorem pcAll_sound {x : Cx} {i : TI} : ∀ {parts : List (Nat × SV)} {vals : List (Nat × Value)} {n : Nat} {xs : List C}, pcAll i n parts = some xs →
    RL (fun (p : Nat × SV) (u : Nat × Value) => p.1 = u.1 ∧ RS x p.2 u.2) parts vals →
    RL (RC x) xs (vals.flatMap fun u => u.2.cells.toList) ∧ vals.length = parts.length ∧ ∀ size, i.sz = size → ∀ (cs : Array Value), (n + vals.length) * size ≤ cs.size →
      Instr.fill (fun k => some (k * size, size)) cs vals = some (cs.toList.take (n * size) ++ (vals.flatMap fun u => u.2.cells.toList) ++ cs.toList.drop ((n + vals.length) * size)).toArray
  | [], [], n, xs, h, _ => by
    simp only [pcAll, Option.some.injEq] at h
    subst h
    refine ⟨trivial, rfl, fun size _ cs _ => ?_⟩
    simp [Instr.fill]
  | (k, s) :: r, (k', u) :: vals, n, xs, h, ⟨⟨e, hu⟩, hr⟩ => by
    simp only at e hu
    subst e
    simp only [pcAll] at h
    split at h
    · rename_i hk
      subst hk
      split at h
      · rename_i l hl
        split at h
        · rename_i ys hys
          · simp only [Option.some.injEq] at h
            subst h
            obtain ⟨h1, h2, h3⟩ := cellsOf_sound hl hu
            obtain ⟨g1, g2, g3⟩ := pcAll_sound hys hr
            refine ⟨by simpa using RL.app h2 g1, by simp [g2], fun size hs cs hle => ?_⟩
            subst hs
            have hlen : u.cells.size = i.sz := by
              have := RL.len h2
              rw [h1] at this
              simpa using this.symm
            simp only [List.length_cons] at hle
            have hle2 : k * i.sz + i.sz ≤ cs.size := by
              have : (k + 1) * i.sz ≤ (k + (vals.length + 1)) * i.sz := Nat.mul_le_mul_right _ (by omega)
              rw [Nat.add_mul, Nat.one_mul] at this
              omega
            have hfold := foldl_set u.cells.toList 0 (k * i.sz) cs (by simp; omega)
            have hfold' : u.cells.zipIdx.foldl (fun cs (p : Value × Nat) => cs.setIfInBounds (k * i.sz + p.2) p.1) cs = (cs.toList.take (k * i.sz) ++ u.cells.toList ++ cs.toList.drop (k * i.sz + i.sz)).toArray := by
              rw [← Array.foldl_toList, Array.toList_zipIdx]
              simpa [hlen] using hfold
            have hsz' : (cs.toList.take (k * i.sz) ++ u.cells.toList ++ cs.toList.drop (k * i.sz + i.sz)).length = cs.size := by
              simp [hlen]; omega
            have := g3 i.sz rfl (cs.toList.take (k * i.sz) ++ u.cells.toList ++ cs.toList.drop (k * i.sz + i.sz)).toArray (by
              rw [List.size_toArray, hsz', Nat.add_assoc, Nat.add_comm 1]; exact hle)
            simp only [Instr.fill]
            refine (if_neg (by simp [hlen]; omega)).trans ?_
            refine (congrArg (fun z => Instr.fill (fun k => some (k * i.sz, i.sz)) z vals) hfold').trans ?_
            rw [this]
            congr 2
            have e1 : (k + 1) * i.sz = k * i.sz + i.sz := by rw [Nat.add_mul, Nat.one_mul]
            have e2 : (k + (vals.length + 1)) * i.sz = (k + 1 + vals.length) * i.sz := by congr 1; omega
            have e3 : (cs.toList.take (k * i.sz) ++ u.cells.toList).length = k * i.sz + i.sz := by simp [hlen]; omega
            simp only [List.flatMap_cons, List.length_cons]
            rw [e1, e2, List.take_append_of_le_length (by omega), List.take_of_length_le (by omega), List.drop_append, e3]
            have : (cs.toList.take (k * i.sz) ++ u.cells.toList).drop ((k + 1 + vals.length) * i.sz) = [] := by
              apply List.drop_of_length_le
              rw [e3, ← e1]
              exact Nat.mul_le_mul_right _ (by omega)
            rw [this, List.nil_append, List.drop_drop]
            have e4 : k * i.sz + i.sz + ((k + 1 + vals.length) * i.sz - (k * i.sz + i.sz)) = (k + 1 + vals.length) * i.sz := by
              have : (k + 1) * i.sz ≤ (k + 1 + vals.length) * i.sz := Nat.mul_le_mul_right _ (by omega)
              omega
            rw [e4]
            simp
        · cases h
      · cases h
    · cases h
  | [], _ :: _, _, _, _, h => h.elim
  | _ :: _, [], _, _, _, h => h.elim

end OE
