/- Several texts of the proof, one behind the other; put together by a program of the session (mrg.py). Own work. -/
import Derived.Lib.AppendZerosOnto
import Derived.Test.YtdhfipjfgigamaaGreatDoorPart0
/- OE, part 4: operations that make or turn the call's own memory. Own work; generic over the program. -/
set_option linter.unusedVariables false
namespace OE
open Go Go.RowKit

variable {P : Program}

def upd (η : Nat → Option Nat × Value) (b : Nat) (p : Option Nat × Value) : Nat → Option Nat × Value := fun c => if c = b then p else η c

/-- the streams are as they were, no block has gone, and all blocks but those of names that are given up are as they were -/
structure Turns (hp hp0 : List (Nat × Ob)) (η : Nat → Option Nat × Value) (w w' : World) : Prop where
  os : w'.os = w.os
  tape : w'.tape = w.tape
  output : w'.output = w.output
  size : w.heap.size ≤ w'.heap.size
  keep : ∀ k, k < w.heap.size → (∀ b, lk hp b ≠ none → lk hp0 b = none → (η b).1 ≠ some k) → w'.heap[k]? = w.heap[k]?

section
variable {w0 : W0} {hp hp0 : List (Nat × Ob)} {nm : Nat → Prop} {nx : Nat} {η : Nat → Option Nat × Value} {w w' : World} {p : Option Nat × Value} {ob : Ob}

/-- the names, and those made from a number up to another -/
def nmE (nm : Nat → Prop) (n m : Nat) : Nat → Prop := fun b => nm b ∨ (n ≤ b ∧ b < m)
theorem nmE_same (nm : Nat → Prop) (n : Nat) : nmE nm n n = nm := by
  funext b; simp only [nmE, eq_iff_iff]; constructor
  · rintro (h | h)
    · exact h
    · omega
  · exact .inl
theorem nmE_lt {n m : Nat} (h : n ≤ m) : nmE (lt n) n m = lt m := by
  funext b; simp only [nmE, lt, eq_iff_iff]; omega

theorem step_le (hnx : ¬ nm nx) (hH : RepH w0 hp nm η w) (hsub : ∀ b o, lk hp0 b = some o → lk hp b = some o) (ht : Turns hp hp0 η w w')
    (hp1 : ∀ k, p.1 = some k → w.heap.size ≤ k ∨ ∃ b, lk hp b ≠ none ∧ (η b).1 = some k) : (cxS w0 hp nm η w).le (cxS w0 ((nx, ob) :: hp0) (nmE nm nx (nx + 1)) (upd η nx p) w') := by
  refine ⟨fun b hb => ?_, fun b hb => .inl hb, fun k ⟨h1, h2⟩ => ⟨⟨Nat.lt_of_lt_of_le h1.1 ht.size, h1.2⟩, fun b hb => ?_⟩, fun k ⟨h1, h2⟩ => ht.keep k h1.1 (fun b hb _ => h2 b hb)⟩
  · have : b ≠ nx := by intro e; subst e; exact hnx hb
    simp [cxS, upd, this]
  · by_cases hbn : b = nx
    · subst hbn
      simp only [upd, if_true]
      intro he
      rcases hp1 k he with h | ⟨c, hc, hc2⟩
      · have := h1.1; omega
      · exact h2 c hc hc2
    · simp only [upd, hbn, if_false]
      simp only [lk, hbn, if_false] at hb
      refine h2 b ?_
      cases hl : lk hp0 b with
      | none => exact (hb hl).elim
      | some o => rw [hsub b o hl]; simp

theorem step_rep (hnx : ¬ nm nx) (hH : RepH w0 hp nm η w) (hsub : ∀ b o, lk hp0 b = some o → lk hp b = some o) (ht : Turns hp hp0 η w w')
    (hp1 : ∀ k, p.1 = some k → (w.heap.size ≤ k ∧ k < w'.heap.size) ∨ ∃ b, lk hp b ≠ none ∧ lk hp0 b = none ∧ (η b).1 = some k)
    (hob : RO (cxS w0 ((nx, ob) :: hp0) (nmE nm nx (nx + 1)) (upd η nx p) w') nx ob) : RepH w0 ((nx, ob) :: hp0) (nmE nm nx (nx + 1)) (upd η nx p) w' := by
  have hle := step_le (ob := ob) hnx hH hsub ht (fun k hk => (hp1 k hk).imp (·.1) (fun ⟨b, h1, _, h3⟩ => ⟨b, h1, h3⟩))
  have hin : ∀ b, b ≠ nx → lk ((nx, ob) :: hp0) b ≠ none → lk hp0 b ≠ none ∧ lk hp b ≠ none := fun b hb h => by
    simp only [lk, hb, if_false] at h
    refine ⟨h, ?_⟩
    cases hl : lk hp0 b with
    | none => exact (h hl).elim
    | some o => rw [hsub b o hl]; simp
  have hkept : ∀ b k, lk hp0 b ≠ none → lk hp b ≠ none → (η b).1 = some k → w'.heap[k]? = w.heap[k]? := fun b k h0 h1 hk =>
    ht.keep k (hH.new b k h1 hk).2 (fun c hc hc0 he => h0 (by rw [hH.sep b c k h1 hc hk he]; exact hc0))
  refine ⟨fun b o ho => ?_, fun b c k hb hc hbk hck => ?_, fun b k hb hk => ?_, fun b hb => ?_, ?_⟩
  · by_cases hbn : b = nx
    · subst hbn
      simp only [lk, if_true, Option.some.injEq] at ho
      subst ho
      exact hob
    · obtain ⟨h0, h1⟩ := hin b hbn (by rw [ho]; simp)
      simp only [lk, hbn, if_false] at ho
      exact RO.mono hle (hH.nxt b h1) (fun k hk => hkept b k h0 h1 hk) (hH.obs b o (hsub b o ho))
  · by_cases hbn : b = nx
    · by_cases hcn : c = nx
      · rw [hbn, hcn]
      · obtain ⟨h0, h1⟩ := hin c hcn hc
        subst hbn
        simp only [upd, if_true, hcn, if_false] at hbk hck
        rcases hp1 k hbk with h | ⟨d, hd, hd0, hdk⟩
        · have := (hH.new c k h1 hck).2; omega
        · exact (h0 (by rw [hH.sep c d k h1 hd hck hdk]; exact hd0)).elim
    · obtain ⟨h0, h1⟩ := hin b hbn hb
      by_cases hcn : c = nx
      · subst hcn
        simp only [upd, if_true, hbn, if_false] at hbk hck
        rcases hp1 k hck with h | ⟨d, hd, hd0, hdk⟩
        · have := (hH.new b k h1 hbk).2; omega
        · exact (h0 (by rw [hH.sep b d k h1 hd hbk hdk]; exact hd0)).elim
      · obtain ⟨h2, h3⟩ := hin c hcn hc
        simp only [upd, hbn, hcn, if_false] at hbk hck
        exact hH.sep b c k h1 h3 hbk hck
  · by_cases hbn : b = nx
    · subst hbn
      simp only [upd, if_true] at hk
      rcases hp1 k hk with h | ⟨d, hd, hd0, hdk⟩
      · exact ⟨W0.new (Nat.le_trans hH.bel.size h.1), h.2⟩
      · have := hH.new d k hd hdk; exact ⟨this.1, Nat.lt_of_lt_of_le this.2 ht.size⟩
    · obtain ⟨h0, h1⟩ := hin b hbn hb
      simp only [upd, hbn, if_false] at hk
      have := hH.new b k h1 hk
      exact ⟨this.1, Nat.lt_of_lt_of_le this.2 ht.size⟩
  · by_cases hbn : b = nx
    · exact .inr (by omega)
    · exact .inl (hH.nxt b (hin b hbn hb).2)
  · exact hH.bel.trans ht.os ht.tape ht.output ht.size fun k hk => ht.keep k (Nat.lt_of_lt_of_le hk.1 hH.bel.size) (fun b hb _ he => (hH.new b k hb he).1 hk)

theorem rm_sub {b : Nat} : ∀ c o, lk (rm hp b) c = some o → lk hp c = some o := fun c o h => by
  rw [lk_rm] at h
  split at h
  · cases h
  · exact h
theorem turns_allocr (o : Obj) : Turns hp (rm hp nx) η w (w.alloc o) :=
  ⟨rfl, rfl, rfl, by simp, fun k hk _ => Below.heap_alloc w o k hk⟩
theorem lk_put {b : Nat} {ob : Ob} {hp : List (Nat × Ob)} (c : Nat) : lk ((b, ob) :: rm hp b) c = if c = b then some ob else lk hp c := by
  simp only [lk]
  split
  · rfl
  · rename_i h; rw [lk_rm, if_neg h]

/-- one name's block is turned, the name stays -/
theorem step_set {b k : Nat} {ob' : Ob} (hH : RepH w0 hp nm η w) (hb : lk hp b ≠ none) (hk : (η b).1 = some k) (hos : w'.os = w.os) (htp : w'.tape = w.tape) (hout : w'.output = w.output) (hsz : w'.heap.size = w.heap.size)
    (hkeep : ∀ j, j ≠ k → w'.heap[j]? = w.heap[j]?) (hob : RO (cxS w0 ((b, ob') :: rm hp b) nm η w') b ob') :
    RepH w0 ((b, ob') :: rm hp b) nm η w' ∧ (cxS w0 hp nm η w).le (cxS w0 ((b, ob') :: rm hp b) nm η w') := by
  have hlk : ∀ c, lk ((b, ob') :: rm hp b) c ≠ none ↔ lk hp c ≠ none := fun c => by
    rw [lk_put]
    by_cases hc : c = b
    · subst hc; simp [hb]
    · simp [hc]
  have hle : (cxS w0 hp nm η w).le (cxS w0 ((b, ob') :: rm hp b) nm η w') :=
    ⟨fun _ _ => rfl, fun _ h => h, fun j ⟨h1, h2⟩ => ⟨⟨by rw [hsz]; exact h1.1, h1.2⟩, fun c hc => h2 c ((hlk c).1 hc)⟩, fun j ⟨h1, h2⟩ => hkeep j (fun e => h2 b hb (by rw [e]; exact hk))⟩
  refine ⟨⟨fun c o ho => ?_, fun c d j h1 h2 => hH.sep c d j ((hlk c).1 h1) ((hlk d).1 h2), fun c j h1 h2 => ?_, fun c hc => hH.nxt c ((hlk c).1 hc), ?_⟩, hle⟩
  · rw [lk_put] at ho
    by_cases hc : c = b
    · subst hc
      simp only [if_true, Option.some.injEq] at ho
      subst ho
      exact hob
    · simp only [hc, if_false] at ho
      have h1 : lk hp c ≠ none := by rw [ho]; simp
      exact RO.mono hle (hH.nxt c h1) (fun j hj => hkeep j (fun e => hc (hH.sep c b k h1 hb (by rw [← e]; exact hj) hk))) (hH.obs c o ho)
  · rw [hsz]; exact hH.new c j ((hlk c).1 h1) h2
  · exact hH.bel.trans hos htp hout (by rw [hsz]; exact Nat.le_refl _) fun j hj => hkeep j (fun e => (hH.new b k hb hk).1 (by rw [← e]; exact hj))
end

theorem set_le {w0 : W0} {hp : List (Nat × Ob)} {nm : Nat → Prop} {η : Nat → Option Nat × Value} {w w' : World} {b k : Nat} {ob' : Ob} (hH : RepH w0 hp nm η w) (hb : lk hp b ≠ none) (hk : (η b).1 = some k) (hsz : w'.heap.size = w.heap.size)
    (hkeep : ∀ j, j ≠ k → w'.heap[j]? = w.heap[j]?) : (cxS w0 hp nm η w).le (cxS w0 ((b, ob') :: rm hp b) nm η w') := by
  have hlk : ∀ c, lk ((b, ob') :: rm hp b) c ≠ none → lk hp c ≠ none := fun c hc => by
    rw [lk_put] at hc
    by_cases h : c = b
    · subst h; exact hb
    · simpa [h] using hc
  exact ⟨fun _ _ => rfl, fun _ h => h, fun j ⟨h1, h2⟩ => ⟨⟨by rw [hsz]; exact h1.1, h1.2⟩, fun c hc => h2 c (hlk c hc)⟩, fun j ⟨h1, h2⟩ => hkeep j (fun e => h2 b hb (by rw [e]; exact hk))⟩

/-! ### the operations -/

structure E where
  hyp : Option Prop
  pre : Option Prop
  v : SV
  ch : List (Nat × Option Ob)
  nx : Nat

/-- the objects, turned -/
def apC : List (Nat × Ob) → List (Nat × Option Ob) → List (Nat × Ob)
  | hp, [] => hp
  | hp, (b, some o) :: r => apC ((b, o) :: rm hp b) r
  | hp, (b, none) :: r => apC (rm hp b) r

/-- a value's cells, if they are as many as its type has -/
def cellsOf (i : TI) : SV → Option (List C)
  | .c y => if i.tk.agg = false ∧ i.sz = 1 then some [y] else none
  | .agg l => if i.tk.agg = true ∧ l.length = i.sz then some l else none
  | _ => none

def alV (i : Option TI) (T : TypeId) (hp : List (Nat × Ob)) (nx : Nat) : Option E :=
  match i with
  | some i => some ⟨none, none, .c (.ptr nx 0), [(nx, some (.cells T i.zero))], nx + 1⟩
  | none => none

def bxV (i : Option TI) (T : TypeId) (hp : List (Nat × Ob)) (nx : Nat) (s : SV) : Option E :=
  match i with
  | some i => match cellsOf i s with
    | some l => some ⟨none, none, .c (.ptr nx 0), [(nx, some (.cells T l))], nx + 1⟩
    | none => none
  | none => none

def stV (i : Option TI) (hp : List (Nat × Ob)) (nx : Nat) (p s : SV) : Option E :=
  match i, p with
  | some i, .c (.ptr b o) => match cellsOf i s, lk hp b with
    | some m, some (.cells T l) => if m.length = i.sz ∧ o + m.length ≤ l.length then some ⟨none, none, .un, [(b, some (.cells T (l.take o ++ m ++ l.drop (o + m.length))))], nx⟩ else none
    | _, _ => none
  | some i, .c (.prw b j sz o) => match cellsOf i s, lk hp b with
    | some m, some (.row T d xs) => if sz = d.sz ∧ m.length = i.sz ∧ o + m.length ≤ d.sz then (match d.ps ((d.cs (gt xs j)).take o ++ m ++ (d.cs (gt xs j)).drop (o + m.length)) with
      | some (y, []) => some ⟨none, some (0 ≤ j ∧ j < xs.length), .un, [(b, some (.row T d (xs.set j.toNat y)))], nx⟩
      | _ => none) else none
    | some m, some (.wid T d xs c) => if sz = d.sz ∧ m.length = i.sz ∧ o + m.length ≤ d.sz then (match d.ps ((d.cs (gt xs j)).take o ++ m ++ (d.cs (gt xs j)).drop (o + m.length)) with
      | some (y, []) => some ⟨none, some (0 ≤ j ∧ j < xs.length), .un, [(b, some (.wid T d (xs.set j.toNat y) c))], nx⟩
      | _ => none) else none
    | _, _ => none
  | _, _ => none

/-- the data of parts of a slice literal, in their order -/
def psAll (i : TI) : Nat → List (Nat × SV) → Option (List i.d.T)
  | _, [] => some []
  | n, (k, s) :: r => if k = n then (match cellsOf i s with
    | some l => match i.d.ps l with
      | some (x, []) => match psAll i (n + 1) r with
        | some xs => some (x :: xs)
        | none => none
      | _ => none
    | none => none) else none

/-- the parts' cells, one behind the other -/
def pcAll (i : TI) : Nat → List (Nat × SV) → Option (List C)
  | _, [] => some []
  | n, (k, s) :: r => if k = n then (match cellsOf i s with
    | some l => match pcAll i (n + 1) r with
      | some m => some (l ++ m)
      | none => none
    | none => none) else none

/-- own rows in a row are to be data first -/
def nrL : List C → Bool
  | [] => true
  | .row _ :: _ => false
  | _ :: l => nrL l
def bsV (ti : Nat → Option TI) (T : TypeId) (len : Nat) (parts : List (Nat × SV)) (hp : List (Nat × Ob)) (nx : Nat) : Option E :=
  match ti T with
  | some ⟨.slice e, _, _, _, _⟩ => match ti e with
    | some i => if parts.length = len ∧ i.d.sz = i.sz ∧ len ≤ 4096 ∧ i.sz ≤ 4096 then (match psAll i 0 parts with
      | some xs => some ⟨none, none, .c (.row nx), [(nx, some (.row e i.d xs))], nx + 1⟩
      | none => match pcAll i 0 parts with
        | some l => match nrL l with
          | true => some ⟨none, none, .c (.csl nx len), [(nx, some (.cells e l))], nx + 1⟩
          | false => none
        | none => none) else none
    | none => none
  | _ => none

/-- what is appended -/
def srcV (d : D) (hp : List (Nat × Ob)) : SV → Option (List d.T)
  | .c (.dat d' ys) => if h : d' = d then some (h ▸ ys) else none
  | .c (.row b) => match lk hp b with
    | some (.row _ d' ys) => if h : d' = d then some (h ▸ ys) else none
    | _ => none
  | .c (.val (.slice none 0 0)) => some []
  | _ => none

def apV (ti : Nat → Option TI) (T : TypeId) (hp : List (Nat × Ob)) (nx : Nat) : SV → SV → Option E
  | .c (.row b), y => match ti T, lk hp b with
    | some ⟨.slice e, _, _, _, _⟩, some (.row e' d xs) => match ti e, srcV d hp y with
      | some i, some ys => if e = e' ∧ i.sz = d.sz then
        some ⟨none, some ((xs.length + ys.length) * i.byt ≤ 140737488355328), .c (.row nx), [(b, none), (nx, some (.row e d (xs ++ ys)))], nx + 1⟩ else none
      | _, _ => none
    | _, _ => none
  | .c (.val (.slice none 0 0)), y => match ti T with
    | some ⟨.slice e, _, _, _, _⟩ => match ti e with
      | some i => match srcV i.d hp y with
        | some ys => if i.sz = i.d.sz then some ⟨none, some (ys.length * i.byt ≤ 140737488355328), .c (.row nx), [(nx, some (.row e i.d ys))], nx + 1⟩ else none
        | none => none
      | none => none
    | _ => none
  | _, _ => none

/-- what a copy reads: a condition, the elements, how many -/
def srcC (d : D) (hp : List (Nat × Ob)) (n : Nat) : SV → Option (Prop × List d.T × Nat)
  | .c (.dat d' ys) => if h : d' = d then some (True, (h ▸ ys).take n, min ys.length n) else none
  | .c (.row b) => match lk hp b with
    | some (.row _ d' ys) => if h : d' = d then some (True, (h ▸ ys).take n, min ys.length n) else none
    | _ => none
  | .c (.sub b o sz m c) => match lk hp b with
    | some (.wid _ d' xs _) => if h : d' = d then (if sz = d.sz then some (o + min m n ≤ xs.length, ((h ▸ xs).drop o).take (min m n), min m n) else none) else none
    | _ => none
  | .c (.val (.slice none 0 0)) => some (True, [], 0)
  | _ => none

def cpV (ti : Nat → Option TI) (T : TypeId) (hp : List (Nat × Ob)) (nx : Nat) : SV → SV → Option E
  | .c (.sub b o sz n c), y => match ti T, lk hp b with
    | some ⟨.slice e, _, _, _, _⟩, some (.wid e' d xs c0) => match srcC d hp n y with
      | some (p, zs, k) => if sz? ti e = some d.sz ∧ sz = d.sz then some ⟨none, some (p ∧ o ≤ xs.length ∧ o + k ≤ c0), .c (.int .i64 k), [(b, some (.wid e' d (xs.take o ++ zs ++ xs.drop (o + k)) c0))], nx⟩ else none
      | none => none
    | _, _ => none
  | _, _ => none

/-- append of zero values, where there is no room -/
def apM (ti : Nat → Option TI) (T T' : TypeId) (hp : List (Nat × Ob)) (nx : Nat) : SV → SV → Option E
  | .c (.sub b o sz n c), .c (.int _ m) => match ti T, ti T', lk hp b with
    | some ⟨.slice e, _, _, _, _⟩, some ⟨.int _, _, _, _, _⟩, some (.wid e' d xs _) => match ti e with
      | some i => match d.ps i.zero with
        | some (z, []) => if e = e' ∧ i.sz = d.sz ∧ sz = d.sz then
          some ⟨none, some (0 < m ∧ (c : Int) < n + m ∧ o + n ≤ xs.length ∧ ((n : Int) + m) * i.byt ≤ 140737488355328), .c (.row nx), [(nx, some (.row e d ((xs.drop o).take n ++ List.replicate m.toNat z)))], nx + 1⟩ else none
        | _ => none
      | none => none
    | _, _, _ => none
  | _, _ => none

/-- append onto all of a row whose capacity is known -/
def apS (ti : Nat → Option TI) (T : TypeId) (hp : List (Nat × Ob)) (nx : Nat) : SV → SV → Option E
  | .c (.sub b o sz n c), y => match ti T, lk hp b with
    | some ⟨.slice e, _, _, _, _⟩, some (.wid e' d xs c0) => match ti e, srcV d hp y with
      | some i, some ys => if e = e' ∧ i.sz = d.sz ∧ sz = d.sz then
        some ⟨none, some ((o = 0 ∧ n = xs.length ∧ c = c0) ∧ (xs.length + ys.length) * i.byt ≤ 140737488355328), .c (.row nx), [(b, none), (nx, some (.row e d (xs ++ ys)))], nx + 1⟩ else none
      | _, _ => none
    | _, _ => none
  | _, _ => none

/-- append of a part of a row onto another part of it, where there is room -/
def apI (ti : Nat → Option TI) (T : TypeId) (hp : List (Nat × Ob)) (nx : Nat) : SV → SV → Option E
  | .c (.sub b o sz n c), .c (.sub b2 o2 sz2 m _) => match Nat.beq b b2 with
    | true => match ti T, lk hp b with
      | some ⟨.slice e, _, _, _, _⟩, some (.wid e' d xs c0) => if sz? ti e = some d.sz ∧ sz = d.sz ∧ sz2 = d.sz then
        some ⟨none, some (n + m ≤ c ∧ o + c = c0 ∧ o + n ≤ xs.length ∧ o2 + m ≤ xs.length), .c (.sub b o sz (n + m) c), [(b, some (.wid e' d (xs.take (o + n) ++ (xs.drop o2).take m ++ xs.drop (o + n + m)) c0))], nx⟩ else none
      | _, _ => none
    | false => none
  | _, _ => none

/-- zero values in a part of a row -/
def clV (ti : Nat → Option TI) (T : TypeId) (hp : List (Nat × Ob)) (nx : Nat) : SV → Option E
  | .c (.sub b o sz n _) => match ti T, lk hp b with
    | some ⟨.slice e, _, _, _, _⟩, some (.wid e' d xs c0) => match ti e with
      | some i => match d.ps i.zero with
        | some (z, []) => if i.sz = d.sz ∧ sz = d.sz then
          some ⟨none, some (o + n ≤ xs.length), .tup [], [(b, some (.wid e' d (xs.take o ++ List.replicate n z ++ xs.drop (o + n)) c0))], nx⟩ else none
        | _ => none
      | none => none
    | _, _ => none
  | _ => none

def ef (ti : Nat → Option TI) (hp : List (Nat × Ob)) (nx : Nat) (g : Operand → SV) : Op → Option E
  | .alloc T => alV (ti T) T hp nx
  | .box T x => bxV (ti T) T hp nx (g x)
  | .store T p x => stV (ti T) hp nx (g p) (g x)
  | .buildSlice T len parts => bsV ti T len (parts.toList.map fun p => (p.1, g p.2)) hp nx
  | .call c => match c.callee, c.args.toList, c.argTypes.toList with
    | .builtin .append, [s, x], [t, t'] => if t = t' then (match apV ti t hp nx (g s) (g x) with
      | some e => some e
      | none => match apS ti t hp nx (g s) (g x) with
        | some e => some e
        | none => apI ti t hp nx (g s) (g x)) else apM ti t t' hp nx (g s) (g x)
    | .builtin .copy, [d, s], [t, _] => cpV ti t hp nx (g d) (g s)
    | .builtin .clear, [x], [t] => clV ti t hp nx (g x)
    | _, _, _ => none
  | _ => none

theorem ef_nx {ti : Nat → Option TI} {hp : List (Nat × Ob)} {nx : Nat} {g : Operand → SV} {op : Op} {e : E} (h : ef ti hp nx g op = some e) : nx ≤ e.nx ∧ e.nx ≤ nx + 1 := by
  unfold ef at h
  split at h
  · unfold alV at h; split at h <;> cases h; simp
  · unfold bxV at h; repeat' split at h
    all_goals first | (cases h; simp; done) | cases h
  · unfold stV at h; repeat' split at h
    all_goals first | (cases h; simp; done) | cases h
  · unfold bsV at h; repeat' split at h
    all_goals first | (cases h; simp; done) | cases h
  · split at h
    · split at h
      · split at h
        · rename_i hq
          cases h
          unfold apV at hq; repeat' split at hq
          all_goals first | (cases hq; simp; done) | cases hq
        · split at h
          · rename_i hq
            cases h
            unfold apS at hq; repeat' split at hq
            all_goals first | (cases hq; simp; done) | cases hq
          · unfold apI at h; repeat' split at h
            all_goals first | (cases h; simp; done) | cases h
      · unfold apM at h; repeat' split at h
        all_goals first | (cases h; simp; done) | cases h
    · unfold cpV at h; repeat' split at h
      all_goals first | (cases h; simp; done) | cases h
    · unfold clV at h; repeat' split at h
      all_goals first | (cases h; simp; done) | cases h
    · cases h
  · cases h

/-! ### they are right -/

theorem cellsOf_sound {x : Cx} {i : TI} {s : SV} {l : List C} {v : Value} (h : cellsOf i s = some l) (hv : RS x s v) : l.length = i.sz ∧ RL (RC x) l v.cells.toList ∧ (∀ u ∈ v.cells.toList, u.oneCell' = true) := by
  unfold cellsOf at h
  split at h
  · rename_i y
    split at h
    · rename_i hc
      cases h
      have hv : RC x y v := hv
      have h1 := RC.one hv
      have hc' : v.cells = #[v] := by cases v <;> simp_all [Value.oneCell', Value.cells]
      rw [hc']
      exact ⟨hc.2.symm, ⟨hv, trivial⟩, by simpa using h1⟩
    · cases h
  · rename_i m
    split at h
    · rename_i hc
      cases h
      obtain ⟨vs, rfl, hl⟩ := hv
      refine ⟨hc.2, hl, ?_⟩
      have : ∀ {l : List C} {m : List Value}, RL (RC x) l m → ∀ u ∈ m, u.oneCell' = true := by
        intro l
        induction l with
        | nil => intro m h u hu; cases m with | nil => cases hu | cons _ _ => exact h.elim
        | cons c l ih =>
          intro m h u hu
          cases m with
          | nil => cases hu
          | cons v m =>
            cases hu with
            | head => exact RC.one h.1
            | tail _ hu => exact ih h.2 u hu
      exact this hl
    · cases h
  · cases h

theorem zero_sound {ti : Nat → Option TI} (ht : TabOk P ti) {t : TypeId} {i : TI} (hi : ti t = some i) : ∃ z, (∀ w, (zeroValue t).run P w = .ok z w) ∧ z.cells.size = i.sz ∧ ∀ x, RL (RC x) i.zero z.cells.toList := by
  have is := ht.is hi
  obtain ⟨j, z, hj, hz, hzz⟩ := is.zero
  refine ⟨z, fun w => by simp [zeroValue, typeInfo, hj, hz], ?_⟩
  have hrl : ∀ x : Cx, RL (RC x) i.zero z.cells.toList := by
    intro x
    cases hag : i.tk.agg with
    | true =>
      rw [if_pos hag] at hzz
      obtain ⟨cs, rfl, h⟩ := hzz
      exact rl_of_allIs h
    | false =>
      rw [if_neg (by simp [hag])] at hzz
      have hr : RL (RC x) i.zero [z] := rl_of_allIs hzz
      have : z.cells = #[z] := by
        cases hzl : i.zero with
        | nil => rw [hzl] at hr; exact hr.elim
        | cons c l =>
          rw [hzl] at hr
          have := RC.one hr.1
          cases z <;> simp_all [Value.oneCell', Value.cells]
      rw [this]
      exact hr
  refine ⟨?_, hrl⟩
  have := RL.len (hrl ⟨default, fun _ => (none, default), fun _ => True, fun _ => True⟩)
  rw [is.zlen] at this
  simpa using this.symm

/-- what an effect must come to -/
def Does (P : Program) (w0 : W0) (hp : List (Nat × Ob)) (nm : Nat → Prop) (nx : Nat) (η : Nat → Option Nat × Value) (w : World) (s : Sem Next) (e : E) : Prop :=
  ∃ n v w' η', s.run P w = .ok n w' ∧ (n = .value v ∨ (n = .skip ∧ v = undef)) ∧ RepH w0 (apC hp e.ch) (nmE nm nx e.nx) η' w' ∧ (cxS w0 hp nm η w).le (cxS w0 (apC hp e.ch) (nmE nm nx e.nx) η' w') ∧ RS (cxS w0 (apC hp e.ch) (nmE nm nx e.nx) η' w') e.v v

/-- a new block of known cells -/
theorem does_new {w0 : W0} {hp : List (Nat × Ob)} {nm : Nat → Prop} {nx : Nat} {η : Nat → Option Nat × Value} {w : World} (hnx : ¬ nm nx) (hH : RepH w0 hp nm η w) {T : TypeId} {l : List C} {vs : Array Value} (hl : RL (RC (cxS w0 hp nm η w)) l vs.toList)
    {s : Sem Next} (hr : s.run P w = .ok (.value (.pointer (some ⟨w.heap.size, 0, none⟩))) (w.alloc (.cells vs T))) :
    Does P w0 hp nm nx η w s ⟨none, none, .c (.ptr nx 0), [(nx, some (.cells T l))], nx + 1⟩ := by
  have ht := turns_allocr (nx := nx) (hp := hp) (η := η) (w := w) (.cells vs T)
  have hle := step_le (p := (some w.heap.size, undef)) (ob := .cells T l) hnx hH rm_sub ht (fun k hk => .inl (by cases hk; exact Nat.le_refl _))
  refine ⟨_, _, _, upd η nx (some w.heap.size, undef), hr, .inl rfl, ?_, hle, ?_⟩
  · refine step_rep hnx hH rm_sub ht (fun k hk => .inl (by cases hk; simp)) ⟨w.heap.size, vs, by simp [cxS, upd], ?_, RL.imp (fun _ _ => RC.mono hle) hl⟩
    exact heap_alloc_new w _
  · exact ⟨.inr ⟨Nat.le_refl _, Nat.lt_succ_self _⟩, w.heap.size, by simp [cxS, upd], rfl⟩

theorem alV_sound {ti : Nat → Option TI} (ht : TabOk P ti) {w0 : W0} {hp hq : List (Nat × Ob)} {nm : Nat → Prop} {nx : Nat} {η : Nat → Option Nat × Value} {w : World} (hnx : ¬ nm nx) (hH : RepH w0 hp nm η w) {t : TypeId} {e : E}
    {ρ : Operand → Value} (h : alV (ti t) t hq nx = some e) {o : Oper} (ho : o.op = .alloc t) : OP e.hyp ∧ (OP e.pre → Does P w0 hp nm nx η w (execOp ρ o) e) := by
  unfold alV at h
  split at h
  · rename_i i hi
    cases h
    obtain ⟨z, hz, hzs, hzr⟩ := zero_sound ht hi
    refine ⟨trivial, fun _ => does_new hnx hH (hzr _) ?_⟩
    simp [execOp, ho, Instr.alloc, hz, newVar, newRow]
  · cases h

theorem bxV_sound {ti : Nat → Option TI} {w0 : W0} {hp hq : List (Nat × Ob)} {nm : Nat → Prop} {nx : Nat} {η : Nat → Option Nat × Value} {w : World} (hnx : ¬ nm nx) (hH : RepH w0 hp nm η w) {t : TypeId} {s : SV} {e : E}
    {X : Operand} {ρ : Operand → Value} (h : bxV (ti t) t hq nx s = some e) (hx : RS (cxS w0 hp nm η w) s (ρ X)) {o : Oper} (ho : o.op = .box t X) : OP e.hyp ∧ (OP e.pre → Does P w0 hp nm nx η w (execOp ρ o) e) := by
  unfold bxV at h
  split at h
  · split at h
    · rename_i l hl
      cases h
      obtain ⟨_, h2, _⟩ := cellsOf_sound hl hx
      refine ⟨trivial, fun _ => does_new hnx hH h2 ?_⟩
      simp [execOp, ho, Instr.box, newVar, newRow]
    · cases h
  · cases h

/-! ### slice literals -/

theorem rl_cons {α β : Type} {R : α → β → Prop} {a : α} {l : List α} {m : List β} (h : RL R (a :: l) m) : ∃ b m', m = b :: m' ∧ R a b ∧ RL R l m' := by
  cases m with
  | nil => exact h.elim
  | cons b m' => exact ⟨b, m', rfl, h.1, h.2⟩

theorem asList_sound {x : Cx} {a : D} {c : C} {xs : List a.T} {v : Value} (h : c.asList a = some xs) (hv : RC x c v) : Rd x.w x.ok (.list a) xs [v] := by
  unfold C.asList at h
  split at h
  · rename_i a' ys
    split at h
    · rename_i e
      subst e
      simp only [Option.some.injEq] at h
      subst h
      exact hv
    · cases h
  · simp only [Option.some.injEq] at h
    subst h
    obtain ⟨rfl, _⟩ := hv
    simp only [Rd]
    exact ⟨none, 0, by simp, by simp, by simp [maxLen], fun _ => rfl, .inl rfl⟩
  · cases h

theorem D.ps_sound {x : Cx} : ∀ {d : D} {l : List C} {y : d.T} {r : List C} {vs : List Value}, d.ps l = some (y, r) → RL (RC x) l vs →
    ∃ v1 v2, vs = v1 ++ v2 ∧ Rd x.w x.ok d y v1 ∧ RL (RC x) r v2
  | .int k, l, y, r, vs, h, hl => by
    cases l with
    | nil => simp [D.ps] at h
    | cons c l =>
      obtain ⟨v, vs', rfl, hv, hl'⟩ := rl_cons hl
      cases c <;> simp only [D.ps, reduceCtorEq] at h
      split at h
      · rename_i hk
        subst hk
        simp only [Option.some.injEq, Prod.mk.injEq] at h
        obtain ⟨rfl, rfl⟩ := h
        exact ⟨[v], vs', rfl, by simp only [RC] at hv; simp [Rd, hv], hl'⟩
      · cases h
  | .bool, l, y, r, vs, h, hl => by
    cases l with
    | nil => simp [D.ps] at h
    | cons c l =>
      obtain ⟨v, vs', rfl, hv, hl'⟩ := rl_cons hl
      cases c <;> simp only [D.ps, reduceCtorEq, Option.some.injEq, Prod.mk.injEq] at h
      obtain ⟨rfl, rfl⟩ := h
      exact ⟨[v], vs', rfl, by simp only [RC] at hv; simp [Rd, hv], hl'⟩
  | .str, l, y, r, vs, h, hl => by
    cases l with
    | nil => simp [D.ps] at h
    | cons c l =>
      obtain ⟨v, vs', rfl, hv, hl'⟩ := rl_cons hl
      cases c <;> simp only [D.ps, reduceCtorEq, Option.some.injEq, Prod.mk.injEq] at h
      obtain ⟨rfl, rfl⟩ := h
      exact ⟨[v], vs', rfl, by simp only [RC] at hv; simp [Rd, hv], hl'⟩
  | .pair a b, l, y, r, vs, h, hl => by
    simp only [D.ps] at h
    split at h
    · rename_i y1 l1 h1
      split at h
      · rename_i y2 l2 h2
        simp only [Option.some.injEq, Prod.mk.injEq] at h
        obtain ⟨rfl, rfl⟩ := h
        obtain ⟨v1, v2, rfl, r1, r2⟩ := D.ps_sound h1 hl
        obtain ⟨v3, v4, rfl, r3, r4⟩ := D.ps_sound h2 r2
        exact ⟨v1 ++ v3, v4, by simp, ⟨v1, v3, rfl, r1, r3⟩, r4⟩
      · cases h
    · cases h
  | .list a, l, y, r, vs, h, hl => by
    cases l with
    | nil => simp [D.ps] at h
    | cons c l =>
      obtain ⟨v, vs', rfl, hv, hl'⟩ := rl_cons hl
      simp only [D.ps] at h
      split at h
      · rename_i xs hxs
        simp only [Option.some.injEq, Prod.mk.injEq] at h
        obtain ⟨rfl, rfl⟩ := h
        exact ⟨[v], vs', rfl, asList_sound hxs hv, hl'⟩
      · cases h

/-- the parts' values: all their cells, one part behind the other -/
theorem splice {α : Type} (cl m : List α) (a S N off : Nat) (h1 : a + S ≤ N) (h2 : N ≤ cl.length) (h3 : off + m.length ≤ S) :
    (cl.take (a + off) ++ m ++ cl.drop (a + off + m.length)).take N = (cl.take N).take a ++ (((cl.drop a).take S).take off ++ m ++ ((cl.drop a).take S).drop (off + m.length)) ++ (cl.take N).drop (a + S) := by
  apply List.ext_getElem?
  intro i
  have e1 : (cl.take (a + off)).length = a + off := by rw [List.length_take]; omega
  have e2 : ((cl.take N).take a).length = a := by rw [List.length_take, List.length_take]; omega
  have e3 : (((cl.drop a).take S).take off).length = off := by rw [List.length_take, List.length_take, List.length_drop]; omega
  have e4 : (((cl.drop a).take S).drop (off + m.length)).length = S - (off + m.length) := by rw [List.length_drop, List.length_take, List.length_drop]; omega
  simp only [List.getElem?_take, List.getElem?_append, List.length_append, e1, e2, e3, e4, List.getElem?_drop]
  by_cases c1 : i < a
  · simp [c1, show i < N by omega, show i < a + off + m.length by omega, show i < a + off by omega, show i < a + (off + m.length + (S - (off + m.length))) by omega]
  · by_cases c2 : i < a + off
    · simp [c1, c2, show i < N by omega, show i < a + off + m.length by omega, show i < a + (off + m.length + (S - (off + m.length))) by omega, show i - a < off by omega, show i - a < off + m.length by omega, show i - a < S by omega, show a + (i - a) = i by omega]
    · by_cases c3 : i < a + off + m.length
      · simp [c1, c2, c3, show i < N by omega, show i < a + (off + m.length + (S - (off + m.length))) by omega, show ¬ i - a < off by omega, show i - a < off + m.length by omega, show i - a - off = i - (a + off) by omega]
      · by_cases c4 : i < a + S
        · simp [c1, c3, show i < N by omega, show i < a + (off + m.length + (S - (off + m.length))) by omega, show ¬ i - a < off + m.length by omega, show off + m.length + (i - a - (off + m.length)) < S by omega, show a + (off + m.length + (i - a - (off + m.length))) = i by omega, show a + off + m.length + (i - (a + off + m.length)) = i by omega]
        · simp [c3, show ¬ i < a + (off + m.length + (S - (off + m.length))) by omega, show a + off + m.length + (i - (a + off + m.length)) = i by omega, show a + S + (i - (a + (off + m.length + (S - (off + m.length))))) = i by omega]
theorem RdF.put {α : Type} {R : α → List Value → Prop} {sz : Nat} (hs : ∀ x cs, R x cs → cs.length = sz) {xs : List α} {cs : List Value} (h : RdF R xs cs) {j : Nat} (hj : j < xs.length) {y : α} {v : List Value} (hv : R y v) :
    RdF R (xs.set j y) (cs.take (j * sz) ++ v ++ cs.drop (j * sz + sz)) := by
  have h1 := RdF.take hs j h
  have h2 := RdF.drop hs (j + 1) h
  have h3 : RdF R [y] v := ⟨v, [], by simp, hv, rfl⟩
  have := RdF.app (RdF.app h1 h3) h2
  rw [Nat.add_mul, Nat.one_mul] at this
  rw [List.set_eq_take_append_cons_drop, if_pos hj]
  simpa using this

theorem stV_sound {ti : Nat → Option TI} (ht : TabOk P ti) {w0 : W0} {hp0 hq : List (Nat × Ob)} {nm : Nat → Prop} {nx : Nat} {η : Nat → Option Nat × Value} {w : World} (hH : RepH w0 hp0 nm η w) (hs : ∀ b o, lk hq b = some o → lk hp0 b = some o) {t : TypeId} {p s : SV} {e : E}
    {X Y : Operand} {ρ : Operand → Value} (h : stV (ti t) hq nx p s = some e) (hx : RS (cxS w0 hp0 nm η w) p (ρ X)) (hy : RS (cxS w0 hp0 nm η w) s (ρ Y)) {o : Oper} (ho : o.op = .store t X Y) :
    OP e.hyp ∧ (OP e.pre → Does P w0 hp0 nm nx η w (execOp ρ o) e) := by
  unfold stV at h
  split at h
  · rename_i i b off hi
    obtain ⟨hb, k, hk, ex⟩ := hx
    split at h
    · rename_i m T l hm hlk
      split at h
      · rename_i hc
        cases h
        obtain ⟨h1, h2, h3⟩ := cellsOf_sound hm hy
        obtain ⟨k', vs, hk', hbk, hl⟩ := hH.obs b _ (hs _ _ hlk)
        have : k' = k := by have : some k' = some k := hk'.symm.trans hk; simpa using this
        subst this
        have hll := RL.len hl
        have h2l := RL.len h2
        simp only [Array.length_toList] at hll h2l
        have hst := run_storeCells_at P k' off T (ρ Y).cells.toList 0 vs w hbk (by simp; omega) h3
        obtain ⟨j, hj, hjs, _⟩ := (ht.is hi).info
        have hsize : (Go.sizeOf t).run P w = .ok i.sz w := by simp [Go.sizeOf, typeInfo, hj, hjs]
        have hne : ¬ ((ρ Y).cells.size ≠ i.sz) := by omega
        have hlk' : lk hp0 b ≠ none := by rw [hs _ _ hlk]; simp
        have hset := step_set (w' := w.setRow k' (vs.toList.take (off + 0) ++ (ρ Y).cells.toList ++ vs.toList.drop (off + 0 + (ρ Y).cells.toList.length)).toArray) (ob' := .cells T (l.take off ++ m ++ l.drop (off + m.length)))
          hH (b := b) (k := k') hlk' hk rfl rfl rfl (by simp) (fun j hj => setRow_other w k' j _ hj)
        have hle : (cxS w0 hp0 nm η w).le (cxS w0 ((b, .cells T (l.take off ++ m ++ l.drop (off + m.length))) :: rm hp0 b) nm η (w.setRow k' (vs.toList.take (off + 0) ++ (ρ Y).cells.toList ++ vs.toList.drop (off + 0 + (ρ Y).cells.toList.length)).toArray)) := by
          refine ⟨fun _ _ => rfl, fun _ h => h, fun j ⟨g1, g2⟩ => ⟨⟨by simpa using g1.1, g1.2⟩, fun c hc => g2 c ?_⟩, fun j ⟨g1, g2⟩ => setRow_other w k' j _ (fun e => g2 b hlk' (by rw [e]; exact hk))⟩
          rw [lk_put] at hc
          by_cases hcb : c = b
          · subst hcb; exact hlk'
          · simpa [hcb] using hc
        refine ⟨trivial, fun _ => ?_⟩
        obtain ⟨g1, g2⟩ := hset ⟨k', _, hk, setRow_heap w k' vs _ T _ hbk, by
          have := RL.app (RL.app (RL.take off hl) h2) (RL.drop (off + m.length) hl)
          simpa only [Nat.add_zero, Array.length_toList, ← h2l] using RL.imp (fun _ _ => RC.mono hle) this⟩
        unfold Does
        rw [nmE_same]
        refine ⟨.skip, undef, _, η, ?_, .inr ⟨rfl, rfl⟩, g1, g2, trivial⟩
        have hst' : (storeCells ⟨k', off, none⟩ (ρ Y).cells.toList).run P w = _ := hst
        simp only [execOp, ho, ex, Instr.storeAt, Instr.sureAddr, pure_bind, storeVar, Sem.run_bind, hsize, Result.andThen_ok, Sem.run_ite, hne, if_false, Sem.run_pure, hst']
      · cases h
    · cases h
  · rename_i i b j sz off hi
    obtain ⟨hb, k, hk, ex⟩ := hx
    have goal : ∀ (d : D) (xs : List d.T) (m : List C) (y : d.T) (cur : Array Value) (T : TypeId) (c0 : Nat), cellsOf i s = some m → lk hp0 b ≠ none → w.heap[k]? = some (.cells cur T (0, 0)) → cur.size = c0 * d.sz → xs.length ≤ c0 →
        RdF (Rd w (okS w0 hp0 η w) d) xs (cur.toList.take (xs.length * d.sz)) → sz = d.sz → m.length = i.sz → off + m.length ≤ d.sz → d.ps ((d.cs (gt xs j)).take off ++ m ++ (d.cs (gt xs j)).drop (off + m.length)) = some (y, []) → (0 ≤ j ∧ j < xs.length) →
        ∃ cur' : Array Value, (execOp ρ o).run P w = .ok .skip (w.setRow k cur') ∧ cur'.size = cur.size ∧ RdF (Rd w (okS w0 hp0 η w) d) (xs.set j.toNat y) (cur'.toList.take (xs.length * d.sz)) := by
      intro d xs m y cur T c0 hm hlk hcur hcs hlc hf hsz hml hfit hps hp
      subst hsz
      obtain ⟨h1, h2, h3⟩ := cellsOf_sound hm hy
      have h2l := RL.len h2
      simp only [Array.length_toList] at h2l
      have hjn : j.toNat < xs.length := by omega
      have hA : j.toNat * d.sz + d.sz ≤ xs.length * d.sz := by
        have : (j.toNat + 1) * d.sz ≤ xs.length * d.sz := Nat.mul_le_mul_right _ (by omega)
        rw [Nat.add_mul, Nat.one_mul] at this; exact this
      have hB : xs.length * d.sz ≤ c0 * d.sz := Nat.mul_le_mul_right _ hlc
      have hN : xs.length * d.sz ≤ cur.toList.length := by rw [Array.length_toList (xs := cur), hcs]; exact hB
      have hst := run_storeCells_at P k (j.toNat * d.sz + off) T (ρ Y).cells.toList 0 cur w hcur (by simp only [Array.length_toList, Nat.add_zero]; omega) h3
      simp only [Nat.add_zero] at hst
      obtain ⟨jj, hj, hjs, _⟩ := (ht.is hi).info
      have hsize : (Go.sizeOf t).run P w = .ok i.sz w := by simp [Go.sizeOf, typeInfo, hj, hjs]
      have hne : ¬ ((ρ Y).cells.size ≠ i.sz) := by omega
      refine ⟨(cur.toList.take (j.toNat * d.sz + off) ++ (ρ Y).cells.toList ++ cur.toList.drop (j.toNat * d.sz + off + (ρ Y).cells.toList.length)).toArray, ?_, ?_, ?_⟩
      · simp only [execOp, ho, ex, Instr.storeAt, Instr.sureAddr, pure_bind, storeVar, Sem.run_bind, hsize, Result.andThen_ok, Sem.run_ite, hne, if_false, Sem.run_pure, hst]
      · simp only [List.size_toArray, List.length_append, List.length_take, List.length_drop, Array.length_toList]; omega
      · -- the element's cells
        have hel := RdF.get (fun _ _ => Rd.len) hf (gt_get hp.1 hp.2)
        have hcsl := rl_cs (x := cxS w0 hp0 nm η w) hel
        have hE : ((cur.toList.take (xs.length * d.sz)).drop (j.toNat * d.sz)).take d.sz = (cur.toList.drop (j.toNat * d.sz)).take d.sz := by
          rw [List.drop_take, List.take_take, Nat.min_eq_left (by omega)]
        rw [hE] at hcsl
        have hnew := RL.app (RL.app (RL.take off hcsl) h2) (RL.drop (off + m.length) hcsl)
        obtain ⟨v1, v2, ev, hv1, hv2⟩ := D.ps_sound hps hnew
        have : v2 = [] := by cases v2 with | nil => rfl | cons _ _ => exact hv2.elim
        subst this
        rw [List.append_nil] at ev
        have hput := RdF.put (fun _ _ => Rd.len) hf hjn hv1
        have h2l' : (ρ Y).cells.toList.length = m.length := by rw [Array.length_toList]; exact h2l.symm
        have hEl : ((cur.toList.drop (j.toNat * d.sz)).take d.sz).length = d.sz := by rw [List.length_take, List.length_drop, Array.length_toList]; omega
        have e5 : ((cur.toList.take (j.toNat * d.sz + off) ++ (ρ Y).cells.toList ++ cur.toList.drop (j.toNat * d.sz + off + (ρ Y).cells.toList.length)).toArray.toList).take (xs.length * d.sz) = (cur.toList.take (xs.length * d.sz)).take (j.toNat * d.sz) ++ v1 ++ (cur.toList.take (xs.length * d.sz)).drop (j.toNat * d.sz + d.sz) := by
          rw [← ev, List.toList_toArray, ← h2l']
          exact splice cur.toList (ρ Y).cells.toList (j.toNat * d.sz) d.sz (xs.length * d.sz) off hA hN (by rw [h2l']; exact hfit)
        rw [e5]
        exact hput
    split at h
    · rename_i m T d xs hm hlk
      split at h
      · rename_i hc
        split at h
        · rename_i y hps
          cases h
          refine ⟨trivial, fun hp => ?_⟩
          simp only [OP_some] at hp
          have hlk' : lk hp0 b ≠ none := by rw [hs _ _ hlk]; simp
          obtain ⟨cs, r1, r2, r3⟩ := hH.obs b _ (hs _ _ hlk)
          rcases r2.2 with ⟨_, hn⟩ | ⟨g, cap, cur, hv, hb0, hg, hc1, hc2, hc3, hc4⟩
          · omega
          have hgk : g = k := by
            rw [hv] at r1
            have : some k = some g := hk.symm.trans r1
            simpa using this.symm
          subst hgk
          obtain ⟨cur', q1, q2, q3⟩ := goal d xs m y cur T cap hm hlk' hg hc3 hc1 (by rw [hc4]; exact r3) hc.1 hc.2.1 hc.2.2 hps hp
          have hset := step_set (w' := w.setRow g cur') (ob' := .row T d (xs.set j.toNat y)) hH (b := b) (k := g) hlk' hk rfl rfl rfl (by simp) (fun j hj => setRow_other w g j _ hj)
          have hle := set_le (w' := w.setRow g cur') (ob' := .row T d (xs.set j.toNat y)) hH hlk' hk (by simp) (fun j hj => setRow_other w g j _ hj)
          have hsz' : cur'.size = cap * d.sz := by rw [q2]; exact hc3
          obtain ⟨f1, f2⟩ := hset ⟨cur'.toList.take (xs.length * d.sz), r1, ⟨by
            rw [List.length_take, Array.length_toList (xs := cur'), List.length_set, hsz', Nat.min_eq_left]
            exact Nat.mul_le_mul_right _ hc1, .inr ⟨g, cap, cur', by rw [List.length_set]; exact hv, hb0, setRow_heap w g cur _ T _ hg, by rw [List.length_set]; exact hc1, hc2, hsz', by rw [List.length_set]⟩⟩, RdF.imp (fun _ _ => Rd.mono hle.ok hle.heap) q3⟩
          unfold Does
          rw [nmE_same]
          exact ⟨.skip, undef, _, η, q1, .inr ⟨rfl, rfl⟩, f1, f2, trivial⟩
        · cases h
      · cases h
    · rename_i m T d xs c0 hm hlk
      split at h
      · rename_i hc
        split at h
        · rename_i y hps
          cases h
          refine ⟨trivial, fun hp => ?_⟩
          simp only [OP_some] at hp
          have hlk' : lk hp0 b ≠ none := by rw [hs _ _ hlk]; simp
          obtain ⟨k3, cur, hk3, hg, hcs, hlc, hcm, hf⟩ := hH.obs b _ (hs _ _ hlk)
          have hgk : k3 = k := by have : some k3 = some k := hk3.symm.trans hk; simpa using this
          subst hgk
          obtain ⟨cur', q1, q2, q3⟩ := goal d xs m y cur T c0 hm hlk' hg hcs hlc hf hc.1 hc.2.1 hc.2.2 hps hp
          have hset := step_set (w' := w.setRow k3 cur') (ob' := .wid T d (xs.set j.toNat y) c0) hH (b := b) (k := k3) hlk' hk rfl rfl rfl (by simp) (fun j hj => setRow_other w k3 j _ hj)
          have hle := set_le (w' := w.setRow k3 cur') (ob' := .wid T d (xs.set j.toNat y) c0) hH hlk' hk (by simp) (fun j hj => setRow_other w k3 j _ hj)
          obtain ⟨f1, f2⟩ := hset ⟨k3, cur', hk, setRow_heap w k3 cur _ T _ hg, by rw [q2]; exact hcs, by rw [List.length_set]; exact hlc, hcm, by rw [List.length_set]; exact RdF.imp (fun _ _ => Rd.mono hle.ok hle.heap) q3⟩
          unfold Does
          rw [nmE_same]
          exact ⟨.skip, undef, _, η, q1, .inr ⟨rfl, rfl⟩, f1, f2, trivial⟩
        · cases h
      · cases h
    · cases h
  · cases h

theorem psAll_sound {x : Cx} {i : TI} : ∀ {parts : List (Nat × SV)} {vals : List (Nat × Value)} {n : Nat} {xs : List i.d.T}, psAll i n parts = some xs →
    RL (fun (p : Nat × SV) (u : Nat × Value) => p.1 = u.1 ∧ RS x p.2 u.2) parts vals →
    RdF (Rd x.w x.ok i.d) xs (vals.flatMap fun u => u.2.cells.toList) ∧ xs.length = parts.length ∧ ∀ size, i.sz = size → ∀ (cs : Array Value), (n + vals.length) * size ≤ cs.size →
      Instr.fill (fun k => some (k * size, size)) cs vals = some (cs.toList.take (n * size) ++ (vals.flatMap fun u => u.2.cells.toList) ++ cs.toList.drop ((n + vals.length) * size)).toArray
  | [], [], n, xs, h, _ => by
    simp only [psAll, Option.some.injEq] at h
    subst h
    refine ⟨rfl, rfl, fun size _ cs _ => ?_⟩
    simp [Instr.fill]
  | (k, s) :: r, (k', u) :: vals, n, xs, h, ⟨⟨e, hu⟩, hr⟩ => by
    simp only at e hu
    subst e
    simp only [psAll] at h
    split at h
    · rename_i hk
      subst hk
      split at h
      · rename_i l hl
        split at h
        · rename_i y hy
          split at h
          · rename_i ys hys
            simp only [Option.some.injEq] at h
            subst h
            obtain ⟨h1, h2, h3⟩ := cellsOf_sound hl hu
            obtain ⟨v1, v2, e, r1, r2⟩ := D.ps_sound hy h2
            have hv2 : v2 = [] := by cases v2 with | nil => rfl | cons _ _ => exact r2.elim
            subst hv2
            rw [List.append_nil] at e
            obtain ⟨g1, g2, g3⟩ := psAll_sound hys hr
            refine ⟨⟨u.cells.toList, _, rfl, by rw [e]; exact r1, g1⟩, by simp [g2], fun size hs cs hle => ?_⟩
            subst hs
            have hlen : u.cells.size = i.sz := by
              have := RL.len h2
              rw [h1] at this
              simpa using this.symm
            simp only [List.length_cons] at hle
            have hle2 : k * i.sz + i.sz ≤ cs.size := by
              have : (k + 1) * i.sz ≤ (k + (vals.length + 1)) * i.sz := Nat.mul_le_mul_right _ (by omega)
              rw [Nat.add_mul, Nat.one_mul] at this
              omega
            have hfold := foldl_set u.cells.toList 0 (k * i.sz) cs (by simp; omega)
            have hfold' : u.cells.zipIdx.foldl (fun cs (p : Value × Nat) => cs.setIfInBounds (k * i.sz + p.2) p.1) cs = (cs.toList.take (k * i.sz) ++ u.cells.toList ++ cs.toList.drop (k * i.sz + i.sz)).toArray := by
              rw [← Array.foldl_toList, Array.toList_zipIdx]
              simpa [hlen] using hfold
            have hsz' : (cs.toList.take (k * i.sz) ++ u.cells.toList ++ cs.toList.drop (k * i.sz + i.sz)).length = cs.size := by
              simp [hlen]; omega
            have := g3 i.sz rfl (cs.toList.take (k * i.sz) ++ u.cells.toList ++ cs.toList.drop (k * i.sz + i.sz)).toArray (by
              rw [List.size_toArray, hsz', Nat.add_assoc, Nat.add_comm 1]; exact hle)
            simp only [Instr.fill]
            refine (if_neg (by simp [hlen]; omega)).trans ?_
            refine (congrArg (fun z => Instr.fill (fun k => some (k * i.sz, i.sz)) z vals) hfold').trans ?_
            rw [this]
            congr 2
            have e1 : (k + 1) * i.sz = k * i.sz + i.sz := by rw [Nat.add_mul, Nat.one_mul]
            have e2 : (k + (vals.length + 1)) * i.sz = (k + 1 + vals.length) * i.sz := by congr 1; omega
            have e3 : (cs.toList.take (k * i.sz) ++ u.cells.toList).length = k * i.sz + i.sz := by simp [hlen]; omega
            simp only [List.flatMap_cons, List.length_cons]
            rw [e1, e2, List.take_append_of_le_length (by omega), List.take_of_length_le (by omega), List.drop_append, e3]
            have : (cs.toList.take (k * i.sz) ++ u.cells.toList).drop ((k + 1 + vals.length) * i.sz) = [] := by
              apply List.drop_of_length_le
              rw [e3, ← e1]
              exact Nat.mul_le_mul_right _ (by omega)
            rw [this, List.nil_append, List.drop_drop]
            have e4 : k * i.sz + i.sz + ((k + 1 + vals.length) * i.sz - (k * i.sz + i.sz)) = (k + 1 + vals.length) * i.sz := by
              have : (k + 1) * i.sz ≤ (k + 1 + vals.length) * i.sz := Nat.mul_le_mul_right _ (by omega)
              omega
            rw [e4]
            simp
          · cases h
        · cases h
      · cases h
    · cases h
  | [], _ :: _, _, _, _, h => h.elim
  | _ :: _, [], _, _, _, h => h.elim

theorem pcAll_sound {x : Cx} {i : TI} : ∀ {parts : List (Nat × SV)} {vals : List (Nat × Value)} {n : Nat} {xs : List C}, pcAll i n parts = some xs →
    RL (fun (p : Nat × SV) (u : Nat × Value) => p.1 = u.1 ∧ RS x p.2 u.2) parts vals →
    RL (RC x) xs (vals.flatMap fun u => u.2.cells.toList) ∧ vals.length = parts.length ∧ ∀ size, i.sz = size → ∀ (cs : Array Value), (n + vals.length) * size ≤ cs.size →
      Instr.fill (fun k => some (k * size, size)) cs vals = some (cs.toList.take (n * size) ++ (vals.flatMap fun u => u.2.cells.toList) ++ cs.toList.drop ((n + vals.length) * size)).toArray
  | [], [], n, xs, h, _ => by
    simp only [pcAll, Option.some.injEq] at h
    subst h
    refine ⟨trivial, rfl, fun size _ cs _ => ?_⟩
    simp [Instr.fill]
  | (k, s) :: r, (k', u) :: vals, n, xs, h, ⟨⟨e, hu⟩, hr⟩ => by
    simp only at e hu
    subst e
    simp only [pcAll] at h
    split at h
    · rename_i hk
      subst hk
      split at h
      · rename_i l hl
        split at h
        · rename_i ys hys
          · simp only [Option.some.injEq] at h
            subst h
            obtain ⟨h1, h2, h3⟩ := cellsOf_sound hl hu
            obtain ⟨g1, g2, g3⟩ := pcAll_sound hys hr
            refine ⟨by simpa using RL.app h2 g1, by simp [g2], fun size hs cs hle => ?_⟩
            subst hs
            have hlen : u.cells.size = i.sz := by
              have := RL.len h2
              rw [h1] at this
              simpa using this.symm
            simp only [List.length_cons] at hle
            have hle2 : k * i.sz + i.sz ≤ cs.size := by
              have : (k + 1) * i.sz ≤ (k + (vals.length + 1)) * i.sz := Nat.mul_le_mul_right _ (by omega)
              rw [Nat.add_mul, Nat.one_mul] at this
              omega
            have hfold := foldl_set u.cells.toList 0 (k * i.sz) cs (by simp; omega)
            have hfold' : u.cells.zipIdx.foldl (fun cs (p : Value × Nat) => cs.setIfInBounds (k * i.sz + p.2) p.1) cs = (cs.toList.take (k * i.sz) ++ u.cells.toList ++ cs.toList.drop (k * i.sz + i.sz)).toArray := by
              rw [← Array.foldl_toList, Array.toList_zipIdx]
              simpa [hlen] using hfold
            have hsz' : (cs.toList.take (k * i.sz) ++ u.cells.toList ++ cs.toList.drop (k * i.sz + i.sz)).length = cs.size := by
              simp [hlen]; omega
            have := g3 i.sz rfl (cs.toList.take (k * i.sz) ++ u.cells.toList ++ cs.toList.drop (k * i.sz + i.sz)).toArray (by
              rw [List.size_toArray, hsz', Nat.add_assoc, Nat.add_comm 1]; exact hle)
            simp only [Instr.fill]
            refine (if_neg (by simp [hlen]; omega)).trans ?_
            refine (congrArg (fun z => Instr.fill (fun k => some (k * i.sz, i.sz)) z vals) hfold').trans ?_
            rw [this]
            congr 2
            have e1 : (k + 1) * i.sz = k * i.sz + i.sz := by rw [Nat.add_mul, Nat.one_mul]
            have e2 : (k + (vals.length + 1)) * i.sz = (k + 1 + vals.length) * i.sz := by congr 1; omega
            have e3 : (cs.toList.take (k * i.sz) ++ u.cells.toList).length = k * i.sz + i.sz := by simp [hlen]; omega
            simp only [List.flatMap_cons, List.length_cons]
            rw [e1, e2, List.take_append_of_le_length (by omega), List.take_of_length_le (by omega), List.drop_append, e3]
            have : (cs.toList.take (k * i.sz) ++ u.cells.toList).drop ((k + 1 + vals.length) * i.sz) = [] := by
              apply List.drop_of_length_le
              rw [e3, ← e1]
              exact Nat.mul_le_mul_right _ (by omega)
            rw [this, List.nil_append, List.drop_drop]
            have e4 : k * i.sz + i.sz + ((k + 1 + vals.length) * i.sz - (k * i.sz + i.sz)) = (k + 1 + vals.length) * i.sz := by
              have : (k + 1) * i.sz ≤ (k + 1 + vals.length) * i.sz := Nat.mul_le_mul_right _ (by omega)
              omega
            rw [e4]
            simp
        · cases h
      · cases h
    · cases h
  | [], _ :: _, _, _, _, h => h.elim
  | _ :: _, [], _, _, _, h => h.elim

end OE

/- OE, part 4b: slice literals and append; all effects together. Own work; generic over the program. -/
set_option linter.unusedVariables false
namespace OE
open Go Go.RowKit

variable {P : Program}

theorem bsV_sound {ti : Nat → Option TI} (ht : TabOk P ti) {w0 : W0} {hp hq : List (Nat × Ob)} {nm : Nat → Prop} {nx : Nat} {η : Nat → Option Nat × Value} {w : World} (hnx : ¬ nm nx) (hH : RepH w0 hp nm η w) (hs : ∀ b o, lk hq b = some o → lk hp b = some o) {t : TypeId} {len : Nat}
    {parts : Array (Nat × Operand)} {g : Operand → SV} {ρ : Operand → Value} (hg : ∀ o, RS (cxS w0 hp nm η w) (g o) (ρ o)) {e : E}
    (h : bsV ti t len (parts.toList.map fun p => (p.1, g p.2)) hq nx = some e) {o : Oper} (ho : o.op = .buildSlice t len parts) : OP e.hyp ∧ (OP e.pre → Does P w0 hp nm nx η w (execOp ρ o) e) := by
  unfold bsV at h
  split at h
  · rename_i el _ _ _ _ hi
    have hu := tk_slice (ht.is hi).tk
    split at h
    · rename_i i hie
      split at h
      · rename_i hc
        obtain ⟨hlen, hds, hl1, hl2⟩ := hc
        split at h
        · rename_i xs hxs
          cases h
          have hpm : RL (fun (p : Nat × SV) (u : Nat × Value) => p.1 = u.1 ∧ RS (cxS w0 hp nm η w) p.2 u.2) (parts.toList.map fun p => (p.1, g p.2)) (parts.toList.map fun p => (p.1, ρ p.2)) := by
            generalize parts.toList = pl
            induction pl with
            | nil => trivial
            | cons p pl ih => exact ⟨⟨rfl, hg _⟩, ih⟩
          obtain ⟨h1, h2, h3⟩ := psAll_sound hxs hpm
          obtain ⟨z, hz, hzs, _⟩ := zero_sound ht hie
          obtain ⟨j, hj, hjs, hjb⟩ := (ht.is hie).info
          have hsize : (Go.sizeOf el).run P w = .ok i.sz w := by simp [Go.sizeOf, typeInfo, hj, hjs]
          have hpl : (parts.toList.map fun p => (p.1, ρ p.2)).length = len := by simpa using hlen
          refine ⟨trivial, fun _ => ?_⟩
          have hbig : ¬ (len * i.sz > 2 ^ 24) := by
            have : len * i.sz ≤ 4096 * 4096 := Nat.mul_le_mul hl1 hl2
            omega
          generalize hvs : ((parts.toList.map fun p => (p.1, ρ p.2)).flatMap fun u => u.2.cells.toList) = vs at h1 h3
          have hvl : vs.length = len * i.sz := by
            have := RdF.len (fun _ _ => Rd.len) h1
            rw [this, h2, hds, hlen]
          have hfill : ∀ z0 : Array Value, Instr.fill (fun k => some (k * i.sz, i.sz)) ((Array.range (len * i.sz)).map (fun k => z0[k % z0.size]!)) (parts.toList.map fun p => (p.1, ρ p.2)) = some vs.toArray := by
            intro z0
            have := h3 i.sz rfl ((Array.range (len * i.sz)).map (fun k => z0[k % z0.size]!)) (by rw [hpl]; simp)
            rw [this, hpl]
            simp
          have hrun : (execOp ρ o).run P w = .ok (.value (.slice (some ⟨w.heap.size, 0, none⟩) len len)) (w.alloc (.cells vs.toArray el)) := by
            have e1 : ((parts.map fun (p : Nat × Operand) => (p.1, ρ p.2)).toList) = parts.toList.map fun p => (p.1, ρ p.2) := by simp
            simp only [execOp, ho, Instr.buildSlice, Sem.run_bind, und_run hu, Result.andThen_ok, hsize, hbig, if_false, Sem.run_pure, e1, Sem.run_ite]
            split <;> simp only [Sem.run_bind, Sem.run_pure, Result.andThen_ok, hz, hfill, newRow, run_newObj, World.alloc_eq]
          have htn := turns_allocr (nx := nx) (hp := hp) (η := η) (w := w) (.cells vs.toArray el)
          have hle := step_le (p := (some w.heap.size, .slice (some ⟨w.heap.size, 0, none⟩) len len)) (ob := .row el i.d xs) hnx hH rm_sub htn (fun k hk => .inl (by cases hk; exact Nat.le_refl _))
          refine ⟨_, _, _, upd η nx (some w.heap.size, .slice (some ⟨w.heap.size, 0, none⟩) len len), hrun, .inl rfl, ?_, hle, ?_⟩
          · refine step_rep hnx hH rm_sub htn (fun k hk => .inl (by cases hk; simp)) ⟨vs, by simp [cxS, upd, Value.ownBlock], ?_, RdF.imp (fun _ _ => Rd.mono hle.ok hle.heap) h1⟩
            have hxl : xs.length = len := h2.trans (by simpa using hlen)
            refine ⟨by rw [hvl, hxl, hds], .inr ⟨w.heap.size, len, vs.toArray, by simp [cxS, upd, hxl], Nat.zero_le _, heap_alloc_new w _, by omega, by simp only [maxLen_eq]; omega, by simp [hvl, hds], ?_⟩⟩
            rw [hxl, hds]
            exact List.take_of_length_le (by simp [hvl])
          · exact ⟨.inr ⟨Nat.le_refl _, Nat.lt_succ_self _⟩, by simp [cxS, upd], _, _, _, rfl⟩
        · split at h
          · rename_i l hl
            split at h
            rotate_left
            · cases h
            cases h
            have hpm : RL (fun (p : Nat × SV) (u : Nat × Value) => p.1 = u.1 ∧ RS (cxS w0 hp nm η w) p.2 u.2) (parts.toList.map fun p => (p.1, g p.2)) (parts.toList.map fun p => (p.1, ρ p.2)) := by
              generalize parts.toList = pl
              induction pl with
              | nil => trivial
              | cons p pl ih => exact ⟨⟨rfl, hg _⟩, ih⟩
            obtain ⟨h1, h2, h3⟩ := pcAll_sound hl hpm
            obtain ⟨z, hz, hzs, _⟩ := zero_sound ht hie
            obtain ⟨j, hj, hjs, hjb⟩ := (ht.is hie).info
            have hsize : (Go.sizeOf el).run P w = .ok i.sz w := by simp [Go.sizeOf, typeInfo, hj, hjs]
            have hpl : (parts.toList.map fun p => (p.1, ρ p.2)).length = len := by simpa using hlen
            refine ⟨trivial, fun _ => ?_⟩
            have hbig : ¬ (len * i.sz > 2 ^ 24) := by
              have : len * i.sz ≤ 4096 * 4096 := Nat.mul_le_mul hl1 hl2
              omega
            have hcell : ∀ u ∈ parts.toList.map (fun p => (p.1, ρ p.2)), u.2.cells.size = i.sz := by
              have key : ∀ {parts : List (Nat × SV)} {vals : List (Nat × Value)} {n : Nat} {l : List C}, pcAll i n parts = some l → RL (fun (p : Nat × SV) (u : Nat × Value) => p.1 = u.1 ∧ RS (cxS w0 hp nm η w) p.2 u.2) parts vals → ∀ u ∈ vals, u.2.cells.size = i.sz := by
                intro parts
                induction parts with
                | nil => intro vals n l _ hr u hu; cases vals with | nil => cases hu | cons _ _ => exact hr.elim
                | cons p parts ih =>
                  intro vals n l hpc hr u hu
                  obtain ⟨k, s⟩ := p
                  cases vals with
                  | nil => exact hr.elim
                  | cons q vals =>
                    simp only [pcAll] at hpc
                    split at hpc
                    · split at hpc
                      · rename_i l1 hl1
                        split at hpc
                        · rename_i m hm
                          rcases List.mem_cons.1 hu with rfl | hu
                          · obtain ⟨c1, c2, _⟩ := cellsOf_sound hl1 hr.1.2
                            have := RL.len c2
                            rw [c1] at this
                            simpa using this.symm
                          · exact ih hm hr.2 u hu
                        · cases hpc
                      · cases hpc
                    · cases hpc
              exact key hl hpm
            generalize hvs : ((parts.toList.map fun p => (p.1, ρ p.2)).flatMap fun u => u.2.cells.toList) = vs at h1 h3
            have hvl : vs.length = len * i.sz := by
              rw [← hvs, ← hpl]
              clear hvs h1 h3 hpm hl hpl
              generalize parts.toList.map (fun p => (p.1, ρ p.2)) = vals at hcell
              induction vals with
              | nil => simp
              | cons u vals ih =>
                have h0 := hcell u (by simp)
                have := ih (fun v hv => hcell v (by simp [hv]))
                simp only [List.flatMap_cons, List.length_append, Array.length_toList, h0, this, List.length_cons, Nat.add_mul, Nat.one_mul]
                omega
            have hfill : ∀ z0 : Array Value, Instr.fill (fun k => some (k * i.sz, i.sz)) ((Array.range (len * i.sz)).map (fun k => z0[k % z0.size]!)) (parts.toList.map fun p => (p.1, ρ p.2)) = some vs.toArray := by
              intro z0
              have := h3 i.sz rfl ((Array.range (len * i.sz)).map (fun k => z0[k % z0.size]!)) (by rw [hpl]; simp)
              rw [this, hpl]
              simp
            have hrun : (execOp ρ o).run P w = .ok (.value (.slice (some ⟨w.heap.size, 0, none⟩) len len)) (w.alloc (.cells vs.toArray el)) := by
              have e1 : ((parts.map fun (p : Nat × Operand) => (p.1, ρ p.2)).toList) = parts.toList.map fun p => (p.1, ρ p.2) := by simp
              simp only [execOp, ho, Instr.buildSlice, Sem.run_bind, und_run hu, Result.andThen_ok, hsize, hbig, if_false, Sem.run_pure, e1, Sem.run_ite]
              split <;> simp only [Sem.run_bind, Sem.run_pure, Result.andThen_ok, hz, hfill, newRow, run_newObj, World.alloc_eq]
            have htn := turns_allocr (nx := nx) (hp := hp) (η := η) (w := w) (.cells vs.toArray el)
            have hle := step_le (p := (some w.heap.size, undef)) (ob := .cells el l) hnx hH rm_sub htn (fun k hk => .inl (by cases hk; exact Nat.le_refl _))
            refine ⟨_, _, _, upd η nx (some w.heap.size, undef), hrun, .inl rfl, ?_, hle, ?_⟩
            · exact step_rep hnx hH rm_sub htn (fun k hk => .inl (by cases hk; simp)) ⟨w.heap.size, vs.toArray, by simp [cxS, upd], heap_alloc_new w _, RL.imp (fun _ _ => RC.mono hle) h1⟩
            · exact ⟨.inr ⟨Nat.le_refl _, Nat.lt_succ_self _⟩, w.heap.size, by simp [cxS, upd], rfl⟩
          · cases h
      · cases h
    · cases h
  · cases h

/-- the source of an append: what the machine reads there -/
theorem srcV_sound {w0 : W0} {hp hq : List (Nat × Ob)} {nm : Nat → Prop} {η : Nat → Option Nat × Value} {w : World} (hH : RepH w0 hp nm η w) (hs : ∀ b o, lk hq b = some o → lk hp b = some o) {d : D} {s : SV} {ys : List d.T} {v : Value} (h : srcV d hq s = some ys)
    (hx : RS (cxS w0 hp nm η w) s v) : ∃ news, RdF (Rd w (okS w0 hp η w) d) ys news ∧ (v = .slice none 0 0 ∧ ys = [] ∨ ∃ a c, v = .slice (some a) ys.length c ∧ (∀ j u, news[j]? = some u → w.cell? (a.add j) = some u)) := by
  have cells : ∀ {k off : Nat} {cells : Array Value} {T : TypeId} {fz : Nat × Nat} {n : Nat}, w.heap[k]? = some (.cells cells T fz) → ∀ j u, ((cells.toList.drop off).take n)[j]? = some u → w.cell? ((⟨k, off, none⟩ : Addr).add j) = some u := by
    intro k off cells T fz n hk j u hj
    rw [add_plain', cell_of hk]
    rw [List.getElem?_take] at hj
    split at hj
    · simpa using hj
    · cases hj
  unfold srcV at h
  split at h
  · rename_i d' zs
    split at h
    · rename_i e
      subst e
      simp only [Option.some.injEq] at h
      subst h
      have hx' : Rd w (okS w0 hp η w) (.list d') zs [v] := hx
      simp only [Rd] at hx'
      obtain ⟨A, c, e, hc, hm, hn, hr⟩ := hx'
      simp only [List.cons.injEq, and_true] at e
      rcases hr with hr | ⟨k, off, cs, T, fz, hA, hok, hb, hf⟩
      · have hz : zs = [] := hr
        subst hz
        refine ⟨[], rfl, ?_⟩
        cases A with
        | none => left; rw [hn rfl] at e; exact ⟨e, rfl⟩
        | some a => right; exact ⟨a, c, e, fun j u hj => by simp at hj⟩
      · exact ⟨_, hf, .inr ⟨_, c, by rw [e, hA], cells hb⟩⟩
    · cases h
  · rename_i b
    split at h
    · rename_i T d' zs hlk
      split at h
      · rename_i e
        subst e
        simp only [Option.some.injEq] at h
        subst h
        obtain ⟨hb, e, _⟩ := hx
        obtain ⟨cs, r1, r2, r3⟩ := hH.obs b _ (hs _ _ hlk)
        refine ⟨cs, r3, ?_⟩
        rcases r2.2 with ⟨hv, hn⟩ | ⟨g, cap, cur, hv, _, hg, hc1, hc2, hc3, hc4⟩
        · left; exact ⟨e.trans hv, List.eq_nil_of_length_eq_zero hn⟩
        · right
          refine ⟨_, cap, e.trans hv, fun j u hj => ?_⟩
          rw [← hc4] at hj
          exact cells (off := 0) hg j u (by simpa using hj)
      · cases h
    · cases h
  · simp only [Option.some.injEq] at h
    subst h
    obtain ⟨e, _⟩ := hx
    exact ⟨[], rfl, .inl ⟨e, rfl⟩⟩
  · cases h

theorem rdf_one {w : World} {ok : Nat → Prop} : ∀ {d : D} {y : d.T} {cs : List Value}, Rd w ok d y cs → ∀ u ∈ cs, u.oneCell' = true
  | .int _, _, _, h => by simp only [Rd] at h; subst h; simp [Value.oneCell']
  | .bool, _, _, h => by simp only [Rd] at h; subst h; simp [Value.oneCell']
  | .str, _, _, h => by simp only [Rd] at h; subst h; simp [Value.oneCell']
  | .pair a b, _, _, h => by
    simp only [Rd] at h
    obtain ⟨c1, c2, rfl, h1, h2⟩ := h
    intro u hu
    rcases List.mem_append.1 hu with h | h
    · exact rdf_one h1 u h
    · exact rdf_one h2 u h
  | .list a, _, _, h => by
    simp only [Rd] at h
    obtain ⟨A, c, rfl, _⟩ := h
    simp [Value.oneCell']

theorem rdf_ones {w : World} {ok : Nat → Prop} {d : D} : ∀ {ys : List d.T} {cs : List Value}, RdF (Rd w ok d) ys cs → ∀ u ∈ cs, u.oneCell' = true
  | [], _, h => by simp only [RdF] at h; subst h; simp
  | y :: ys, _, ⟨c1, c2, e, h1, h2⟩ => by
    subst e
    intro u hu
    rcases List.mem_append.1 hu with h | h
    · exact rdf_one h1 u h
    · exact rdf_ones h2 u h

/-- append onto a row of the call's own, or onto nil -/
theorem append_does {ti : Nat → Option TI} (ht : TabOk P ti) {w0 : W0} {hp hp0 : List (Nat × Ob)} {nm : Nat → Prop} {nx : Nat} {ch : List (Nat × Option Ob)} {η : Nat → Option Nat × Value} {w : World} (hnx : ¬ nm nx) (hH : RepH w0 hp nm η w) {t el : TypeId} {i : TI} {d : D}
    (hu : P.underlying t = some (.slice el)) (hi : ti el = some i) (hsz : i.sz = d.sz) {v x : Value} {xs ys : List d.T} {cs news : List Value} (hown : w.ownsRow 0 el d.sz v xs.length cs) (hcs : RdF (Rd w (okS w0 hp η w) d) xs cs)
    (hnews : RdF (Rd w (okS w0 hp η w) d) ys news) (hsrc : x = .slice none 0 0 ∧ ys = [] ∨ ∃ a c, x = .slice (some a) ys.length c ∧ (∀ j u, news[j]? = some u → w.cell? (a.add j) = some u))
    (hpre : (xs.length + ys.length) * i.byt ≤ 140737488355328) (hch : apC hp ch = (nx, .row el d (xs ++ ys)) :: hp0) (hsub : ∀ b o, lk hp0 b = some o → lk hp b = some o)
    (hv : ∀ k, v.ownBlock = some k → ∃ b, lk hp b ≠ none ∧ lk hp0 b = none ∧ (η b).1 = some k)
    {ρ : Operand → Value} {o : Oper} {S X : Operand} {c : Call} (ho : o.op = .call c) (h1 : c.callee = .builtin .append) (h2 : c.args.toList = [S, X]) (h3 : c.argTypes.toList = [t, t]) (hS : ρ S = v) (hX : ρ X = x) :
    Does P w0 hp nm nx η w (execOp ρ o) ⟨none, some ((xs.length + ys.length) * i.byt ≤ 140737488355328), .c (.row nx), ch, nx + 1⟩ := by
  have h2' : c.args = #[S, X] := by rw [← Array.toList_inj]; simpa using h2
  have h3' : c.argTypes = #[t, t] := by rw [← Array.toList_inj]; simpa using h3
  obtain ⟨j, hj, hjs, hjb⟩ := (ht.is hi).info
  have hbyt := (ht.is hi).byt
  obtain ⟨j', z, hj', hjz, _⟩ := (ht.is hi).zero
  rw [hj] at hj'
  cases hj'
  obtain ⟨z', hz', hzs, _⟩ := zero_sound ht hi
  have hzz : z' = z := by
    have := hz' w
    simp [zeroValue, typeInfo, hj, hjz] at this
    exact this.symm
  subst hzz
  have key : ∃ v' w', (Builtin.append_ #[t, t] o.type #[v, x]).run P w = .ok v' w' ∧ w'.ownsRow 0 el d.sz v' (xs.length + ys.length) (cs ++ news) ∧ w.grownBy w' v.ownBlock ∧
      (v'.ownBlock = v.ownBlock ∨ ∀ k, v'.ownBlock = some k → w.heap.size ≤ k ∧ k < w'.heap.size) := by
    rcases hsrc with ⟨rfl, rfl⟩ | ⟨a, cap, rfl, hc⟩
    · have : news = [] := hnews
      subst this
      refine ⟨v, w, run_append_owned_none (P := P) (w := w) 0 t o.type el j d.sz hu hj v xs.length cs hown, by simpa using hown, ⟨rfl, rfl, rfl, Nat.le_refl _, fun _ _ _ => rfl⟩, .inl rfl⟩
    · have hml : xs.length + ys.length ≤ 140737488355328 := Nat.le_trans (Nat.le_mul_of_pos_right _ hbyt) hpre
      obtain ⟨v', w', r1, r2, r3, r4⟩ := run_append_own (P := P) (w := w) 0 t o.type el j z' d.sz i.byt hu hj hjz (by rw [hjs, hsz]) hjb (by rw [hzs, hsz]) (D.sz_pos d) v xs.length cs hown a ys.length cap news
        (by rw [RdF.len (fun _ _ => Rd.len) hnews]) hc (rdf_ones hnews) (by simp only [maxLen_eq]; omega) hpre (Nat.zero_le _)
      refine ⟨v', w', r1, r2, r3, ?_⟩
      have hnl : news.length = ys.length * j.size := by rw [RdF.len (fun _ _ => Rd.len) hnews, hjs, hsz]
      rcases hown.2 with ⟨rfl, hn⟩ | ⟨g, cap', cur, rfl, _, hg, hnc, hcm, hcs', htake⟩
      · by_cases hm : ys.length = 0
        · rw [r4.2 ⟨rfl, hm⟩]; exact .inl rfl
        · have hex := run_append_nil (P := P) w t o.type el j z' hu hj hjz a ys.length cap news hnl hc (by omega) (by omega) (by rw [hjb]; rw [hn] at hpre; simp at hpre; omega)
          rw [r1] at hex
          cases hex
          exact .inr fun k hk => by simp [Value.ownBlock] at hk; subst hk; exact ⟨Nat.le_refl _, by simp⟩
      · by_cases hroom : xs.length + ys.length ≤ cap'
        · have hfit : xs.length * j.size + news.length ≤ cur.size := by rw [hnl, hcs', ← Nat.add_mul, hjs, hsz]; exact Nat.mul_le_mul_right _ hroom
          have hex := run_append_room (P := P) w t o.type el j hu hj g xs.length cap' cur hg a ys.length cap news hnl hc (rdf_ones hnews) hroom hfit
          rw [r1] at hex
          cases hex
          exact .inl rfl
        · have holds : ∀ j u, cs[j]? = some u → w.cell? ((⟨g, 0, none⟩ : Addr).add j) = some u := hown.cells (g := g) rfl
          have hex := run_append_grow (P := P) w t o.type el j z' hu hj hjz ⟨g, 0, none⟩ xs.length cap' cs (by rw [hown.1, hjs, hsz]) holds a ys.length cap news hnl hc (by omega) (by omega) (growslice_fits (by omega) (by rw [hjb]; exact hpre))
          rw [r1] at hex
          cases hex
          exact .inr fun k hk => by simp [Value.ownBlock] at hk; subst hk; exact ⟨Nat.le_refl _, by simp⟩
  obtain ⟨v', w', r1, r2, r3, r4⟩ := key
  have hrun : (execOp ρ o).run P w = .ok (.value v') w' := by
    simp [execOp, ho, resolve, h1, h2', h3', invoke, builtin, hS, hX, r1]
  have htn : Turns hp hp0 η w w' := ⟨r3.os, r3.tape, r3.output, r3.size, fun k hk hno => r3.block k hk (fun e => by
    obtain ⟨b, hb1, hb2, hb3⟩ := hv k e.symm
    exact hno b hb1 hb2 hb3)⟩
  have hp1 : ∀ k, v'.ownBlock = some k → (w.heap.size ≤ k ∧ k < w'.heap.size) ∨ ∃ b, lk hp b ≠ none ∧ lk hp0 b = none ∧ (η b).1 = some k := fun k hk => by
    rcases r4 with e | h
    · rw [e] at hk; exact .inr (hv k hk)
    · exact .inl (h k hk)
  have hle := step_le (p := (v'.ownBlock, v')) (ob := .row el d (xs ++ ys)) hnx hH hsub htn (fun k hk => (hp1 k hk).imp (·.1) (fun ⟨b, h1, _, h3⟩ => ⟨b, h1, h3⟩))
  unfold Does
  rw [hch]
  refine ⟨_, _, _, upd η nx (v'.ownBlock, v'), hrun, .inl rfl, ?_, hle, ?_⟩
  · refine step_rep hnx hH hsub htn hp1 ⟨cs ++ news, by simp [cxS, upd], ?_, RdF.imp (fun _ _ => Rd.mono hle.ok hle.heap) (RdF.app hcs hnews)⟩
    simpa [cxS, upd] using r2
  · refine ⟨.inr ⟨Nat.le_refl _, Nat.lt_succ_self _⟩, by simp [cxS, upd], ?_⟩
    rcases r2.2 with ⟨e, _⟩ | ⟨g, cap, cur, e, _⟩
    · exact ⟨_, _, _, e⟩
    · exact ⟨_, _, _, e⟩

theorem apV_sound {ti : Nat → Option TI} (ht : TabOk P ti) {w0 : W0} {hp hq : List (Nat × Ob)} {nm : Nat → Prop} {nx : Nat} {η : Nat → Option Nat × Value} {w : World} (hnx : ¬ nm nx) (hH : RepH w0 hp nm η w) (hs : ∀ b o, lk hq b = some o → lk hp b = some o) {t : TypeId} {s y : SV} {e : E}
    {ρ : Operand → Value} {S X : Operand} (h : apV ti t hq nx s y = some e) (hsv : RS (cxS w0 hp nm η w) s (ρ S)) (hy : RS (cxS w0 hp nm η w) y (ρ X)) {o : Oper} {c : Call} (ho : o.op = .call c)
    (h1 : c.callee = .builtin .append) (h2 : c.args.toList = [S, X]) (h3 : c.argTypes.toList = [t, t]) : OP e.hyp ∧ (OP e.pre → Does P w0 hp nm nx η w (execOp ρ o) e) := by
  unfold apV at h
  split at h
  · rename_i b
    obtain ⟨hb, es, _⟩ := hsv
    split at h
    · rename_i el _ _ _ _ el' d xs hi hlk
      split at h
      · rename_i i ys hie hys
        split at h
        · rename_i hc
          obtain ⟨rfl, hsz⟩ := hc
          cases h
          have hu := tk_slice (ht.is hi).tk
          obtain ⟨cs, r1, r2, r3⟩ := hH.obs b _ (hs _ _ hlk)
          obtain ⟨news, g1, g2⟩ := srcV_sound hH hs hys hy
          refine ⟨trivial, fun hp => append_does ht hnx hH hu hie hsz (v := (η b).2) r2 r3 g1 g2 hp rfl (fun c o h => rm_sub c o (rm_sub c o h)) (fun k hk => ⟨b, by rw [hs _ _ hlk]; simp, by rw [lk_rm, lk_rm]; simp, ?_⟩) ho h1 h2 h3 es rfl⟩
          have : (η b).1 = (η b).2.ownBlock := r1
          rw [this]; exact hk
        · cases h
      · cases h
    · cases h
  · obtain ⟨es, _⟩ := hsv
    split at h
    · rename_i el _ _ _ _ hi
      split at h
      · rename_i i hie
        split at h
        · rename_i ys hys
          split at h
          · rename_i hsz
            cases h
            have hu := tk_slice (ht.is hi).tk
            obtain ⟨news, g1, g2⟩ := srcV_sound hH hs hys hy
            refine ⟨trivial, fun hp => ?_⟩
            have := append_does ht hnx hH hu hie hsz (v := .slice none 0 0) (xs := []) (cs := []) (ch := [(nx, some (.row el i.d ys))]) (World.ownsRow_nil w 0 el i.d.sz) rfl g1 g2 (by simpa using hp) rfl rm_sub
              (fun k hk => by simp [Value.ownBlock] at hk) ho h1 h2 h3 es rfl
            simpa using this
          · cases h
        · cases h
      · cases h
    · cases h
  · cases h

/-! ### rows whose capacity is known -/

theorem first_run {w : World} {A : Option Addr} {n c sz k : Nat} {cs : List Value} (hl : cs.length = k * sz) (hA : cs = [] ∨ ∃ a, A = some a ∧ ∀ j v, cs[j]? = some v → w.cell? (a.add j) = some v) : (Builtin.firstCells sz k (.slice A n c)).run P w = .ok cs.toArray w := by
  cases A with
  | none =>
    rcases hA with rfl | ⟨a, h, _⟩
    · exact run_firstCells_none w sz k n c
    · cases h
  | some a =>
    refine run_firstCells_some w sz k a n c cs hl (fun j v hj => ?_)
    rcases hA with rfl | ⟨a', h, h2⟩
    · simp at hj
    · cases h; exact h2 j v hj

theorem seg_cell {w : World} {k off n m : Nat} {cells : Array Value} {T : TypeId} {fz : Nat × Nat} (hk : w.heap[k]? = some (.cells cells T fz)) (j : Nat) (u : Value) (hj : (((cells.toList.take n).drop off).take m)[j]? = some u) : w.cell? ((⟨k, off, none⟩ : Addr).add j) = some u := by
  rw [add_plain', cell_of hk]
  rw [List.getElem?_take] at hj
  split at hj
  · rw [List.getElem?_drop, List.getElem?_take] at hj
    split at hj
    · simpa using hj
    · cases hj
  · cases hj

theorem srcC_sound {w0 : W0} {hp hq : List (Nat × Ob)} {nm : Nat → Prop} {η : Nat → Option Nat × Value} {w : World} (hH : RepH w0 hp nm η w) (hs : ∀ b o, lk hq b = some o → lk hp b = some o) {d : D} {n : Nat} {s : SV} {p : Prop} {zs : List d.T} {k : Nat} {v : Value}
    (h : srcC d hq n s = some (p, zs, k)) (hx : RS (cxS w0 hp nm η w) s v) (hpz : p) :
    zs.length = k ∧ k ≤ n ∧ ∃ news sl, RdF (Rd w (okS w0 hp η w) d) zs news ∧ (∀ w', (Builtin.lenOf v).run P w' = .ok sl w') ∧ Nat.min sl n = k ∧ (Builtin.firstCells d.sz k v).run P w = .ok news.toArray w := by
  have dat : ∀ (ys : List d.T), RS (cxS w0 hp nm η w) (.c (.dat d ys)) v → (ys.take n).length = min ys.length n ∧ min ys.length n ≤ n ∧ ∃ news sl, RdF (Rd w (okS w0 hp η w) d) (ys.take n) news ∧ (∀ w', (Builtin.lenOf v).run P w' = .ok sl w') ∧ Nat.min sl n = min ys.length n ∧ (Builtin.firstCells d.sz (min ys.length n) v).run P w = .ok news.toArray w := by
    intro ys hx
    have hx' : Rd w (okS w0 hp η w) (.list d) ys [v] := hx
    simp only [Rd] at hx'
    obtain ⟨A, c, e, hc, hm, hn, hr⟩ := hx'
    simp only [List.cons.injEq, and_true] at e
    subst e
    refine ⟨by rw [List.length_take, Nat.min_comm], Nat.min_le_right _ _, ?_⟩
    rcases hr with hr | ⟨k, off, cs, T, fz, hA, hok, hb, hf⟩
    · subst hr
      exact ⟨[], 0, by simp [RdF], fun w' => by simp [Builtin.lenOf], by simp, first_run (by simp) (.inl rfl)⟩
    · refine ⟨((cs.toList.drop off).take (ys.length * d.sz)).take (n * d.sz), ys.length, RdF.take (fun _ _ => Rd.len) n hf, fun w' => by simp [Builtin.lenOf], rfl, first_run ?_ (.inr ⟨_, hA, fun j u hj => ?_⟩)⟩
      · have := RdF.len (fun _ _ => Rd.len) (RdF.take (fun _ _ => Rd.len) n hf)
        rw [this, List.length_take, Nat.min_comm]
      · rw [List.take_take, Nat.min_comm] at hj
        rw [add_plain', cell_of hb]
        rw [List.getElem?_take] at hj
        split at hj
        · simpa using hj
        · cases hj
  unfold srcC at h
  split at h
  · rename_i d' ys
    split at h
    · rename_i e
      subst e
      simp only [Option.some.injEq, Prod.mk.injEq] at h
      obtain ⟨_, rfl, rfl⟩ := h
      exact dat ys hx
    · cases h
  · rename_i b
    split at h
    · rename_i T d' ys hlk
      split at h
      · rename_i e
        subst e
        simp only [Option.some.injEq, Prod.mk.injEq] at h
        obtain ⟨_, rfl, rfl⟩ := h
        obtain ⟨hb, e, _⟩ := hx
        obtain ⟨cs, r1, r2, r3⟩ := hH.obs b _ (hs _ _ hlk)
        have e : v = (η b).2 := e
        refine ⟨by rw [List.length_take, Nat.min_comm], Nat.min_le_right _ _, ?_⟩
        have r2 : w.ownsRow 0 T d'.sz (η b).2 ys.length cs := r2
        rw [← e] at r2
        rcases r2.2 with ⟨hv, hn⟩ | ⟨g, cap, cur, hv, _, hg, hc1, hc2, hc3, hc4⟩
        · have : ys = [] := List.eq_nil_of_length_eq_zero hn
          subst this
          subst hv
          exact ⟨[], 0, by simp [RdF], fun w' => by simp [Builtin.lenOf], by simp, first_run (by simp) (.inl rfl)⟩
        · subst hv
          refine ⟨cs.take (n * d'.sz), ys.length, RdF.take (fun _ _ => Rd.len) n r3, fun w' => by simp [Builtin.lenOf], rfl, first_run ?_ (.inr ⟨_, rfl, fun j u hj => ?_⟩)⟩
          · have := RdF.len (fun _ _ => Rd.len) (RdF.take (fun _ _ => Rd.len) n r3)
            rw [this, List.length_take, Nat.min_comm]
          · rw [← hc4] at hj
            exact seg_cell (off := 0) hg j u (by simpa using hj)
      · cases h
    · cases h
  · rename_i b o sz m c
    split at h
    · rename_i T d' xs c0 hlk
      split at h
      · rename_i e
        subst e
        split at h
        · rename_i hsz
          subst hsz
          simp only [Option.some.injEq, Prod.mk.injEq] at h
          obtain ⟨hpp, rfl, rfl⟩ := h
          have hle : o + min m n ≤ xs.length := by rw [← hpp] at hpz; exact hpz
          obtain ⟨hb, hmc, hcm, k2, o', hk, e, ho'⟩ := hx
          obtain ⟨k3, cur, hk3, hcur, hcs, hlc, hcm', hf⟩ := hH.obs b _ (hs _ _ hlk)
          have hkk : k3 = k2 := by have : some k3 = some k2 := hk3.symm.trans hk; simpa using this
          subst hkk
          subst e
          have hlen : ((xs.drop o).take (min m n)).length = min m n := by rw [List.length_take, List.length_drop]; omega
          refine ⟨hlen, Nat.min_le_right _ _, (((cur.toList.take (xs.length * d'.sz)).drop (o * d'.sz)).take (min m n * d'.sz)), m, RdF.take (fun _ _ => Rd.len) _ (RdF.drop (fun _ _ => Rd.len) o hf), fun w' => by simp [Builtin.lenOf], rfl, first_run ?_ ?_⟩
          · rw [RdF.len (fun _ _ => Rd.len) (RdF.take (fun _ _ => Rd.len) (min m n) (RdF.drop (fun _ _ => Rd.len) o hf)), hlen]
          · by_cases h0 : min m n = 0
            · left; rw [h0]; simp
            · right
              refine ⟨_, rfl, fun j u hj => ?_⟩
              rw [ho' (by omega)]
              exact seg_cell hcur j u hj
        · cases h
      · cases h
    · cases h
  · simp only [Option.some.injEq, Prod.mk.injEq] at h
    obtain ⟨_, rfl, rfl⟩ := h
    obtain ⟨e, _⟩ := hx
    subst e
    exact ⟨rfl, Nat.zero_le _, [], 0, rfl, fun w' => by simp [Builtin.lenOf], by simp, first_run (by simp) (.inl rfl)⟩
  · cases h

theorem cpV_sound {ti : Nat → Option TI} (ht : TabOk P ti) {w0 : W0} {hp hq : List (Nat × Ob)} {nm : Nat → Prop} {nx : Nat} {η : Nat → Option Nat × Value} {w : World} (hH : RepH w0 hp nm η w) (hs : ∀ b o, lk hq b = some o → lk hp b = some o) {t t' : TypeId} {s y : SV} {e : E}
    {ρ : Operand → Value} {S X : Operand} (h : cpV ti t hq nx s y = some e) (hsv : RS (cxS w0 hp nm η w) s (ρ S)) (hy : RS (cxS w0 hp nm η w) y (ρ X)) {o : Oper} {c : Call} (ho : o.op = .call c)
    (h1 : c.callee = .builtin .copy) (h2 : c.args.toList = [S, X]) (h3 : c.argTypes.toList = [t, t']) : OP e.hyp ∧ (OP e.pre → Does P w0 hp nm nx η w (execOp ρ o) e) := by
  have h2' : c.args = #[S, X] := by rw [← Array.toList_inj]; simpa using h2
  have h3' : c.argTypes = #[t, t'] := by rw [← Array.toList_inj]; simpa using h3
  unfold cpV at h
  split at h
  · rename_i b o1 sz n cc
    split at h
    · rename_i el _ _ _ _ e' d xs c0 hi hlk
      split at h
      · rename_i p zs k hsrc
        split at h
        · rename_i hc
          obtain ⟨hsz, rfl⟩ := hc
          cases h
          refine ⟨trivial, ?_⟩
          rintro ⟨hp1, hp2, hp3⟩
          have hu := tk_slice (ht.is hi).tk
          obtain ⟨ie, hie, hie2⟩ := sz_some hsz
          obtain ⟨j, hj, hjs, _⟩ := (ht.is hie).info
          obtain ⟨g1, g2, news, sl, g3, g4, g5, g6⟩ := srcC_sound (P := P) hH hs hsrc hy hp1
          obtain ⟨hb, hnc, hcm, kd, od, hk, ev, hod⟩ := hsv
          obtain ⟨k3, cur, hk3, hcur, hcs, hlc, hcm', hf⟩ := hH.obs b _ (hs _ _ hlk)
          have hkk : k3 = kd := by have : some k3 = some kd := hk3.symm.trans hk; simpa using this
          subst hkk
          have hlk' : lk hp b ≠ none := by rw [hs _ _ hlk]; simp
          have hnl : news.length = k * d.sz := by rw [RdF.len (fun _ _ => Rd.len) g3, g1]
          have hL : (xs.take o1 ++ zs ++ xs.drop (o1 + k)).length = o1 + k + (xs.length - (o1 + k)) := by
            simp only [List.length_append, List.length_take, List.length_drop, g1]; omega
          -- the world behind it
          have key : ∃ w', (Builtin.copy_ #[t, t'] o.type #[ρ S, ρ X]).run P w = .ok (goInt k) w' ∧ w'.os = w.os ∧ w'.tape = w.tape ∧ w'.output = w.output ∧ w'.heap.size = w.heap.size ∧ (∀ j, j ≠ k3 → w'.heap[j]? = w.heap[j]?) ∧
              w'.heap[k3]? = some (.cells (cur.toList.take (o1 * d.sz) ++ news ++ cur.toList.drop (o1 * d.sz + news.length)).toArray e' (0, 0)) := by
            have hsize : ∀ w', (Go.sizeOf el).run P w' = .ok d.sz w' := fun w' => by simp [Go.sizeOf, typeInfo, hj, hjs, hie2]
            by_cases h0 : k = 0
            · subst h0
              have hn0 : news = [] := by apply List.eq_nil_of_length_eq_zero; simpa using hnl
              subst hn0
              refine ⟨w, ?_, rfl, rfl, rfl, rfl, fun _ _ => rfl, ?_⟩
              · simp [Builtin.copy_, und_run hu, ev, g4, g5, hsize, g6, storeCells]
              · simp only [List.append_nil, List.length_nil, Nat.add_zero, List.take_append_drop, Array.toArray_toList]
                exact hcur
            · have hod := hod (.inl (by omega))
              subst hod
              have hfit : o1 * d.sz + news.length ≤ cur.size := by
                rw [hnl, hcs, ← Nat.add_mul]; exact Nat.mul_le_mul_right _ hp3
              have hst := run_storeCells_at P k3 (o1 * d.sz) e' news 0 cur w hcur (by simpa using hfit) (rdf_ones g3)
              refine ⟨w.setRow k3 (cur.toList.take (o1 * d.sz) ++ news ++ cur.toList.drop (o1 * d.sz + news.length)).toArray, ?_, rfl, rfl, rfl, by simp, fun j hj => setRow_other w k3 j _ hj, setRow_heap w k3 cur _ e' _ hcur⟩
              simp only [Nat.add_zero] at hst
              simp [Builtin.copy_, und_run hu, ev, g4, g5, hsize, g6, hst]
          obtain ⟨w', hrun, q1, q2, q3, q4, q5, q6⟩ := key
          have hset := step_set (w' := w') (ob' := .wid e' d (xs.take o1 ++ zs ++ xs.drop (o1 + k)) c0) hH (b := b) (k := k3) hlk' hk q1 q2 q3 q4 q5
          have hle : (cxS w0 hp nm η w).le (cxS w0 ((b, .wid e' d (xs.take o1 ++ zs ++ xs.drop (o1 + k)) c0) :: rm hp b) nm η w') := by
            refine ⟨fun _ _ => rfl, fun _ h => h, fun j ⟨g1, g2⟩ => ⟨⟨by rw [q4]; exact g1.1, g1.2⟩, fun c hc => g2 c ?_⟩, fun j ⟨g1, g2⟩ => q5 j (fun e => g2 b hlk' (by rw [e]; exact hk))⟩
            rw [lk_put] at hc
            by_cases hcb : c = b
            · subst hcb; exact hlk'
            · simpa [hcb] using hc
          have hwid : RdF (Rd w (okS w0 hp η w) d) (xs.take o1 ++ zs ++ xs.drop (o1 + k)) ((cur.toList.take (o1 * d.sz) ++ news ++ cur.toList.drop (o1 * d.sz + news.length)).take ((o1 + k + (xs.length - (o1 + k))) * d.sz)) := by
            have r := RdF.app (RdF.app (RdF.take (fun _ _ => Rd.len) o1 hf) g3) (RdF.drop (fun _ _ => Rd.len) (o1 + k) hf)
            have e1 : (cur.toList.take (xs.length * d.sz)).take (o1 * d.sz) = cur.toList.take (o1 * d.sz) := by
              rw [List.take_take, Nat.min_eq_left (Nat.mul_le_mul_right _ hp2)]
            have hAl : (cur.toList.take (o1 * d.sz)).length = o1 * d.sz := by
              rw [List.length_take, Array.length_toList, hcs, Nat.min_eq_left]
              exact Nat.mul_le_mul_right _ (by omega)
            have e2 : (cur.toList.take (o1 * d.sz) ++ news ++ cur.toList.drop (o1 * d.sz + news.length)).take ((o1 + k + (xs.length - (o1 + k))) * d.sz) = cur.toList.take (o1 * d.sz) ++ news ++ (cur.toList.take (xs.length * d.sz)).drop ((o1 + k) * d.sz) := by
              have e3 : (cur.toList.take (o1 * d.sz) ++ news).length = (o1 + k) * d.sz := by rw [List.length_append, hAl, hnl, Nat.add_mul]
              have e4 : (o1 + k + (xs.length - (o1 + k))) * d.sz = (o1 + k) * d.sz + (xs.length * d.sz - (o1 + k) * d.sz) := by rw [Nat.add_mul, Nat.sub_mul]
              rw [e4, List.take_append, e3, List.take_of_length_le (by rw [e3]; omega), Nat.add_sub_cancel_left, List.drop_take, hnl, ← Nat.add_mul]
            rw [e2, ← e1]
            exact r
          unfold Does
          rw [nmE_same]
          obtain ⟨f1, f2⟩ := hset ⟨k3, _, hk, q6, by
            simp only [List.size_toArray, List.length_append, List.length_take, List.length_drop, Array.length_toList, hnl, hcs]
            have a1 : o1 * d.sz ≤ c0 * d.sz := Nat.mul_le_mul_right _ (by omega)
            have a2 : o1 * d.sz + k * d.sz ≤ c0 * d.sz := by rw [← Nat.add_mul]; exact Nat.mul_le_mul_right _ hp3
            omega, by rw [hL]; omega, hcm', by rw [hL]; exact RdF.imp (fun _ _ => Rd.mono hle.ok hle.heap) hwid⟩
          refine ⟨.value (goInt k), goInt k, w', η, ?_, .inl rfl, f1, f2, rfl⟩
          simp [execOp, ho, resolve, h1, h2', h3', invoke, builtin, hrun]
        · cases h
      · cases h
    · cases h
  · cases h

/-- a part of a row whose capacity is known is written anew -/
theorem wid_put {w0 : W0} {hp : List (Nat × Ob)} {nm : Nat → Prop} {η : Nat → Option Nat × Value} {w w' : World} {b k : Nat} {e' : TypeId} {d : D} {xs zs : List d.T} {c0 p cnt : Nat} {cur : Array Value} {news : List Value} (hH : RepH w0 hp nm η w) (hlk' : lk hp b ≠ none) (hk : (η b).1 = some k)
    (hcs : cur.size = c0 * d.sz) (hlc : xs.length ≤ c0) (hcm : c0 ≤ maxLen) (hf : RdF (Rd w (okS w0 hp η w) d) xs (cur.toList.take (xs.length * d.sz))) (g1 : zs.length = cnt) (g3 : RdF (Rd w (okS w0 hp η w) d) zs news) (hp2 : p ≤ xs.length) (hp3 : p + cnt ≤ c0)
    (q1 : w'.os = w.os) (q2 : w'.tape = w.tape) (q3 : w'.output = w.output) (q4 : w'.heap.size = w.heap.size) (q5 : ∀ j, j ≠ k → w'.heap[j]? = w.heap[j]?)
    (q6 : w'.heap[k]? = some (.cells (cur.toList.take (p * d.sz) ++ news ++ cur.toList.drop (p * d.sz + news.length)).toArray e' (0, 0))) :
    RepH w0 ((b, .wid e' d (xs.take p ++ zs ++ xs.drop (p + cnt)) c0) :: rm hp b) nm η w' ∧ (cxS w0 hp nm η w).le (cxS w0 ((b, .wid e' d (xs.take p ++ zs ++ xs.drop (p + cnt)) c0) :: rm hp b) nm η w') := by
  have hnl : news.length = cnt * d.sz := by rw [RdF.len (fun _ _ => Rd.len) g3, g1]
  have hL : (xs.take p ++ zs ++ xs.drop (p + cnt)).length = p + cnt + (xs.length - (p + cnt)) := by
    simp only [List.length_append, List.length_take, List.length_drop, g1]; omega
  have hset := step_set (w' := w') (ob' := .wid e' d (xs.take p ++ zs ++ xs.drop (p + cnt)) c0) hH (b := b) (k := k) hlk' hk q1 q2 q3 q4 q5
  have hle := set_le (w' := w') (ob' := .wid e' d (xs.take p ++ zs ++ xs.drop (p + cnt)) c0) hH hlk' hk q4 q5
  have hwid : RdF (Rd w (okS w0 hp η w) d) (xs.take p ++ zs ++ xs.drop (p + cnt)) ((cur.toList.take (p * d.sz) ++ news ++ cur.toList.drop (p * d.sz + news.length)).take ((p + cnt + (xs.length - (p + cnt))) * d.sz)) := by
    have r := RdF.app (RdF.app (RdF.take (fun _ _ => Rd.len) p hf) g3) (RdF.drop (fun _ _ => Rd.len) (p + cnt) hf)
    have e1 : (cur.toList.take (xs.length * d.sz)).take (p * d.sz) = cur.toList.take (p * d.sz) := by
      rw [List.take_take, Nat.min_eq_left (Nat.mul_le_mul_right _ hp2)]
    have hAl : (cur.toList.take (p * d.sz)).length = p * d.sz := by
      rw [List.length_take, Array.length_toList (xs := cur), hcs, Nat.min_eq_left]
      exact Nat.mul_le_mul_right _ (by omega)
    have e2 : (cur.toList.take (p * d.sz) ++ news ++ cur.toList.drop (p * d.sz + news.length)).take ((p + cnt + (xs.length - (p + cnt))) * d.sz) = cur.toList.take (p * d.sz) ++ news ++ (cur.toList.take (xs.length * d.sz)).drop ((p + cnt) * d.sz) := by
      have e3 : (cur.toList.take (p * d.sz) ++ news).length = (p + cnt) * d.sz := by rw [List.length_append, hAl, hnl, Nat.add_mul]
      have e4 : (p + cnt + (xs.length - (p + cnt))) * d.sz = (p + cnt) * d.sz + (xs.length * d.sz - (p + cnt) * d.sz) := by rw [Nat.add_mul, Nat.sub_mul]
      rw [e4, List.take_append, e3, List.take_of_length_le (by rw [e3]; omega), Nat.add_sub_cancel_left, List.drop_take, hnl, ← Nat.add_mul]
    rw [e2, ← e1]
    exact r
  exact hset ⟨k, _, hk, q6, by
    simp only [List.size_toArray, List.length_append, List.length_take, List.length_drop, Array.length_toList (xs := cur), hnl, hcs]
    have a1 : p * d.sz ≤ c0 * d.sz := Nat.mul_le_mul_right _ (by omega)
    have a2 : p * d.sz + cnt * d.sz ≤ c0 * d.sz := by rw [← Nat.add_mul]; exact Nat.mul_le_mul_right _ hp3
    omega, by rw [hL]; omega, hcm, by rw [hL]; exact RdF.imp (fun _ _ => Rd.mono hle.ok hle.heap) hwid⟩

theorem apI_sound {ti : Nat → Option TI} (ht : TabOk P ti) {w0 : W0} {hp hq : List (Nat × Ob)} {nm : Nat → Prop} {nx : Nat} {η : Nat → Option Nat × Value} {w : World} (hH : RepH w0 hp nm η w) (hs : ∀ b o, lk hq b = some o → lk hp b = some o) {t : TypeId} {s y : SV} {e : E}
    {ρ : Operand → Value} {S X : Operand} (h : apI ti t hq nx s y = some e) (hsv : RS (cxS w0 hp nm η w) s (ρ S)) (hy : RS (cxS w0 hp nm η w) y (ρ X)) {o : Oper} {c : Call} (ho : o.op = .call c)
    (h1 : c.callee = .builtin .append) (h2 : c.args.toList = [S, X]) (h3 : c.argTypes.toList = [t, t]) : OP e.hyp ∧ (OP e.pre → Does P w0 hp nm nx η w (execOp ρ o) e) := by
  have h2' : c.args = #[S, X] := by rw [← Array.toList_inj]; simpa using h2
  have h3' : c.argTypes = #[t, t] := by rw [← Array.toList_inj]; simpa using h3
  unfold apI at h
  split at h
  · rename_i b o1 sz n cc b2 o2 sz2 m c2
    split at h
    · rename_i hbb
      have hbb := Nat.eq_of_beq_eq_true hbb
      subst hbb
      split at h
      · rename_i el _ _ _ _ e' d xs c0 hi hlk
        split at h
        · rename_i hc
          obtain ⟨hsz, rfl, rfl⟩ := hc
          cases h
          refine ⟨trivial, ?_⟩
          rintro ⟨p1, p2, p3, p4⟩
          have hu := tk_slice (ht.is hi).tk
          obtain ⟨ie, hie, hie2⟩ := sz_some hsz
          obtain ⟨j, hj, hjs, _⟩ := (ht.is hie).info
          obtain ⟨hb, hnc, hcm, kd, od, hk, ev, hod⟩ := hsv
          obtain ⟨_, hnc2, hcm2, kd2, od2, hk2, ev2, hod2⟩ := hy
          obtain ⟨k3, cur, hk3, hcur, hcs, hlc, hcm', hf⟩ := hH.obs b _ (hs _ _ hlk)
          have hkk : k3 = kd := by have : some k3 = some kd := hk3.symm.trans hk; simpa using this
          subst hkk
          have hkk : k3 = kd2 := by have : some k3 = some kd2 := hk3.symm.trans hk2; simpa using this
          subst hkk
          have hlk' : lk hp b ≠ none := by rw [hs _ _ hlk]; simp
          have g3 : RdF (Rd w (okS w0 hp η w) d) ((xs.drop o2).take m) (((cur.toList.take (xs.length * d.sz)).drop (o2 * d.sz)).take (m * d.sz)) := RdF.take (fun _ _ => Rd.len) m (RdF.drop (fun _ _ => Rd.len) o2 hf)
          have g1 : ((xs.drop o2).take m).length = m := by rw [List.length_take, List.length_drop]; omega
          generalize hnews : ((cur.toList.take (xs.length * d.sz)).drop (o2 * d.sz)).take (m * d.sz) = news at g3
          have hnl : news.length = m * d.sz := by rw [RdF.len (fun _ _ => Rd.len) g3, g1]
          have hsize : ∀ w', (Go.sizeOf el).run P w' = .ok d.sz w' := fun w' => by simp [Go.sizeOf, typeInfo, hj, hjs, hie2]
          have key : ∃ w', (Builtin.append_ #[t, t] o.type #[ρ S, ρ X]).run P w = .ok (.slice (some ⟨k3, od, none⟩) (n + m) cc) w' ∧ w'.os = w.os ∧ w'.tape = w.tape ∧ w'.output = w.output ∧ w'.heap.size = w.heap.size ∧ (∀ j, j ≠ k3 → w'.heap[j]? = w.heap[j]?) ∧
              w'.heap[k3]? = some (.cells (cur.toList.take ((o1 + n) * d.sz) ++ news ++ cur.toList.drop ((o1 + n) * d.sz + news.length)).toArray e' (0, 0)) := by
            by_cases h0 : m = 0
            · subst h0
              have hn0 : news = [] := by apply List.eq_nil_of_length_eq_zero; simpa using hnl
              subst hn0
              have hfc := run_firstCells_some (P := P) w d.sz 0 ⟨k3, od2, none⟩ 0 c2 [] (by simp) (fun j v hj => by simp at hj)
              refine ⟨w, ?_, rfl, rfl, rfl, rfl, fun _ _ => rfl, ?_⟩
              · have hroom : n ≤ cc := hnc
                simp [Builtin.append_, und_run hu, ev, ev2, hsize, Builtin.lenOf, hroom, hfc, storeCells]
              · simp only [List.append_nil, List.length_nil, Nat.add_zero, List.take_append_drop, Array.toArray_toList]
                exact hcur
            · have hod := hod (.inl (by omega))
              have hod2 := hod2 (.inl (by omega))
              subst hod
              subst hod2
              have hfc := run_firstCells_some (P := P) w d.sz m ⟨k3, o2 * d.sz, none⟩ m c2 news hnl (fun j v hj => seg_cell hcur j v (by rw [hnews]; exact hj))
              have hfit : (o1 + n) * d.sz + news.length ≤ cur.size := by
                rw [hnl, hcs, ← Nat.add_mul]; exact Nat.mul_le_mul_right _ (by omega)
              have hst := run_storeCells_at P k3 ((o1 + n) * d.sz) e' news 0 cur w hcur (by simpa using hfit) (rdf_ones g3)
              refine ⟨w.setRow k3 (cur.toList.take ((o1 + n) * d.sz) ++ news ++ cur.toList.drop ((o1 + n) * d.sz + news.length)).toArray, ?_, rfl, rfl, rfl, by simp, fun j hj => setRow_other w k3 j _ hj, setRow_heap w k3 cur _ e' _ hcur⟩
              simp only [Nat.add_zero] at hst
              have ea : (⟨k3, o1 * d.sz, none⟩ : Addr).add (n * d.sz) = ⟨k3, (o1 + n) * d.sz, none⟩ := by rw [add_plain', Nat.add_mul]
              simp [Builtin.append_, und_run hu, ev, ev2, hsize, Builtin.lenOf, p1, hfc, ea, hst]
          obtain ⟨w', hrun, q1, q2, q3, q4, q5, q6⟩ := key
          obtain ⟨f1, f2⟩ := wid_put hH hlk' hk hcs hlc hcm' hf g1 g3 (p := o1 + n) p3 (by omega) q1 q2 q3 q4 q5 q6
          unfold Does
          rw [nmE_same]
          refine ⟨.value _, .slice (some ⟨k3, od, none⟩) (n + m) cc, w', η, ?_, .inl rfl, f1, f2, ⟨hb, p1, hcm, k3, od, hk, rfl, hod⟩⟩
          simp [execOp, ho, resolve, h1, h2', h3', invoke, builtin, hrun]
        · cases h
      · cases h
    · cases h
  · cases h

theorem zeroCells_list (zs : Array Value) : ∀ n, (Builtin.zeroCells zs n).toList = (List.replicate n zs.toList).flatten
  | 0 => by simp [Builtin.zeroCells]
  | n + 1 => by
    have ih := zeroCells_list zs n
    have e1 : (List.range zs.size).map (fun i => zs[i % zs.size]!) = zs.toList := by
      apply List.ext_getElem
      · simp
      · intro i h1 h2
        have hi : i < zs.size := by simpa using h1
        simp [Nat.mod_eq_of_lt hi, hi]
    simp only [Builtin.zeroCells, Array.toList_map, Array.toList_range] at ih ⊢
    rw [Nat.add_mul, Nat.one_mul, Nat.add_comm, List.range_add, List.map_append, e1, List.replicate_succ, List.flatten_cons, ← ih, List.map_map]
    congr 1
    apply List.map_congr_left
    intro i _
    simp [Nat.add_mod_left]

theorem rdf_rep {α : Type} {R : α → List Value → Prop} {z : α} {cs : List Value} (h : R z cs) : ∀ n, RdF R (List.replicate n z) ((List.replicate n cs).flatten)
  | 0 => by simp [RdF]
  | n + 1 => by rw [List.replicate_succ, List.replicate_succ, List.flatten_cons]; exact ⟨cs, _, rfl, h, rdf_rep h n⟩

theorem apM_sound {ti : Nat → Option TI} (ht : TabOk P ti) {w0 : W0} {hp hq : List (Nat × Ob)} {nm : Nat → Prop} {nx : Nat} {η : Nat → Option Nat × Value} {w : World} (hnx : ¬ nm nx) (hH : RepH w0 hp nm η w) (hs : ∀ b o, lk hq b = some o → lk hp b = some o) {t t' : TypeId} {s y : SV} {e : E}
    {ρ : Operand → Value} {S X : Operand} (h : apM ti t t' hq nx s y = some e) (hsv : RS (cxS w0 hp nm η w) s (ρ S)) (hy : RS (cxS w0 hp nm η w) y (ρ X)) {o : Oper} {c : Call} (ho : o.op = .call c)
    (h1 : c.callee = .builtin .append) (h2 : c.args.toList = [S, X]) (h3 : c.argTypes.toList = [t, t']) : OP e.hyp ∧ (OP e.pre → Does P w0 hp nm nx η w (execOp ρ o) e) := by
  have h2' : c.args = #[S, X] := by rw [← Array.toList_inj]; simpa using h2
  have h3' : c.argTypes = #[t, t'] := by rw [← Array.toList_inj]; simpa using h3
  unfold apM at h
  split at h
  · rename_i b o1 sz n cc kk m
    split at h
    · rename_i el _ _ _ _ k' _ _ _ _ e' d xs c0 hi hi' hlk
      split at h
      · rename_i i hie
        split at h
        · rename_i z hz
          split at h
          · rename_i hc
            obtain ⟨rfl, hsz, rfl⟩ := hc
            cases h
            refine ⟨trivial, ?_⟩
            rintro ⟨hp1, hp2, hp3, hp4⟩
            have hu := tk_slice (ht.is hi).tk
            have hu' := tk_int (ht.is hi').tk
            obtain ⟨j, hj, hjs, hjb⟩ := (ht.is hie).info
            have hbyt := (ht.is hie).byt
            obtain ⟨j', zv, hj', hjz, _⟩ := (ht.is hie).zero
            rw [hj] at hj'
            cases hj'
            obtain ⟨z', hz', hzs, hzr⟩ := zero_sound ht hie
            have hzz : z' = zv := by
              have := hz' w
              simp [zeroValue, typeInfo, hj, hjz] at this
              exact this.symm
            subst hzz
            obtain ⟨M, rfl⟩ := Int.eq_ofNat_of_zero_le (Int.le_of_lt hp1)
            have hy := rs_int hy
            obtain ⟨hb, hnc, hcm, k2, o', hk, ev, ho'⟩ := hsv
            obtain ⟨k3, cur, hk3, hcur, hcs, hlc, hcm', hf⟩ := hH.obs b _ (hs _ _ hlk)
            have hkk : k3 = k2 := by have : some k3 = some k2 := hk3.symm.trans hk; simpa using this
            subst hkk
            have hpn : (n + M) * i.byt ≤ 140737488355328 := by
              have : (((n + M) * i.byt : Nat) : Int) ≤ 140737488355328 := by rw [Int.natCast_mul, Int.natCast_add]; exact hp4
              omega
            have hnM : n + M ≤ 140737488355328 := Nat.le_trans (Nat.le_mul_of_pos_right _ hbyt) hpn
            have hMb : M * i.byt ≤ 140737488355328 := Nat.le_trans (Nat.mul_le_mul_right _ (Nat.le_add_left _ _)) hpn
            have hlen : ((xs.drop o1).take n).length = n := by rw [List.length_take, List.length_drop]; omega
            obtain ⟨olds, hO⟩ : ∃ olds, olds = ((cur.toList.take (xs.length * d.sz)).drop (o1 * d.sz)).take (n * d.sz) := ⟨_, rfl⟩
            have hOr : RdF (Rd w (okS w0 hp η w) d) ((xs.drop o1).take n) olds := by rw [hO]; exact RdF.take (fun _ _ => Rd.len) _ (RdF.drop (fun _ _ => Rd.len) o1 hf)
            have hOl : olds.length = n * d.sz := by rw [RdF.len (fun _ _ => Rd.len) hOr, hlen]
            have hold : (Builtin.firstCells j.size n (.slice (some ⟨k3, o', none⟩) n cc)).run P w.drew = .ok olds.toArray w.drew := by
              rw [hjs, hsz]
              refine first_run hOl ?_
              by_cases h0 : n = 0
              · left; apply List.eq_nil_of_length_eq_zero; rw [hOl, h0, Nat.zero_mul]
              · right
                refine ⟨_, rfl, fun j u hj => ?_⟩
                rw [ho' (by omega)]
                rw [hO] at hj
                exact seg_cell (w := w) hcur j u hj
            have hgrow : cc < n + M := by omega
            have hr := Lib.run_append_grow_zeros w t t' o.type el j z' kk k' hu hu' hj hjz (some ⟨k3, o', none⟩) n cc olds hold M (by omega) (by rw [hjs, hsz]; exact D.sz_pos d) hgrow (by omega) (by rw [hjb]; omega) (by rw [hjb]; exact growslice_fits hgrow hpn)
            obtain ⟨G, hG⟩ : ∃ G, G = grownCap w (n + M) cc el := ⟨_, rfl⟩
            have hGn : n + M ≤ G := by rw [hG]; exact grownCap_ge w _ _ _
            have hGm : G ≤ maxLen := by rw [hG]; exact grownCap_le_maxLen w _ _ _ (by simp only [maxLen_eq]; omega)
            rw [← hG] at hr
            have hzd : Rd w (okS w0 hp η w) d z z'.cells.toList := by
              obtain ⟨v1, v2, e1, r1, r2⟩ := D.ps_sound hz (hzr (cxS w0 hp nm η w))
              cases v2 with
              | nil => rw [e1, List.append_nil]; exact r1
              | cons _ _ => exact r2.elim
            have hzsz : z'.cells.size = d.sz := by rw [hzs, hsz]
            have hnew : RdF (Rd w (okS w0 hp η w) d) ((xs.drop o1).take n ++ List.replicate M z) (olds ++ (Builtin.zeroCells z'.cells M).toList) := by
              rw [zeroCells_list]
              exact RdF.app hOr (rdf_rep hzd M)
            obtain ⟨ROW, hROW⟩ : ∃ ROW : Array Value, ROW = olds.toArray ++ Builtin.zeroCells z'.cells M ++ Builtin.zeroCells z'.cells (G - (n + M)) := ⟨_, rfl⟩
            rw [← hROW] at hr
            have hrun : (execOp ρ o).run P w = .ok (.value (.slice (some ⟨w.heap.size, 0, none⟩) (n + M) G)) (w.drew.alloc (.cells ROW el)) := by
              simp only [execOp, ho, resolve, h1, h2', h3', invoke, builtin, ev, hy, Sem.run_bind, Sem.run_pure, Result.andThen_ok, List.map_toArray, List.map_cons, List.map_nil]
              rw [hr]
              rfl
            have htn : Turns hp (rm hp nx) η w (w.drew.alloc (.cells ROW el)) := ⟨rfl, rfl, rfl, by show w.heap.size ≤ (w.heap.push _).size; simp, fun k hk _ => Below.heap_alloc w.drew _ k hk⟩
            have hle := step_le (p := (some w.heap.size, .slice (some ⟨w.heap.size, 0, none⟩) (n + M) G)) (ob := .row el d ((xs.drop o1).take n ++ List.replicate M z)) hnx hH rm_sub htn (fun k hk => .inl (by cases hk; exact Nat.le_refl _))
            have hML : ((xs.drop o1).take n ++ List.replicate M z).length = n + M := by rw [List.length_append, hlen, List.length_replicate]
            unfold Does
            show ∃ n' v w' η', _
            refine ⟨_, _, _, upd η nx (some w.heap.size, .slice (some ⟨w.heap.size, 0, none⟩) (n + M) G), hrun, .inl rfl, ?_, hle, ?_⟩
            · refine step_rep hnx hH rm_sub htn (fun k hk => .inl (by cases hk; exact ⟨Nat.le_refl _, by show w.heap.size < (w.heap.push _).size; simp⟩)) ⟨olds ++ (Builtin.zeroCells z'.cells M).toList, by simp [cxS, upd, Value.ownBlock], ?_, RdF.imp (fun _ _ => Rd.mono hle.ok hle.heap) hnew⟩
              show World.ownsRow _ 0 el d.sz _ ((xs.drop o1).take n ++ List.replicate M z).length _
              rw [hML]
              have hNl : (olds ++ (Builtin.zeroCells z'.cells M).toList).length = (n + M) * d.sz := by
                rw [List.length_append, hOl, Array.length_toList, size_zeroCells, hzsz, Nat.add_mul]
              refine ⟨hNl, .inr ⟨w.heap.size, G, ROW, by simp [cxS, upd], Nat.zero_le _, heap_alloc_new w.drew _, hGn, hGm, ?_, ?_⟩⟩
              · rw [hROW]
                simp only [Array.size_append, List.size_toArray, size_zeroCells, hzsz, hOl]
                rw [← Nat.add_mul, ← Nat.add_mul]
                congr 1
                omega
              · rw [hROW]
                simp only [Array.toList_append]
                rw [List.take_append_of_le_length (by rw [hNl]; exact Nat.le_refl _), List.take_of_length_le (by rw [hNl]; exact Nat.le_refl _)]
            · exact ⟨.inr ⟨Nat.le_refl _, Nat.lt_succ_self _⟩, by simp [cxS, upd], _, _, _, rfl⟩
          · cases h
        · cases h
      · cases h
    · cases h
  · cases h

theorem apS_sound {ti : Nat → Option TI} (ht : TabOk P ti) {w0 : W0} {hp hq : List (Nat × Ob)} {nm : Nat → Prop} {nx : Nat} {η : Nat → Option Nat × Value} {w : World} (hnx : ¬ nm nx) (hH : RepH w0 hp nm η w) (hs : ∀ b o, lk hq b = some o → lk hp b = some o) {t : TypeId} {s y : SV} {e : E}
    {ρ : Operand → Value} {S X : Operand} (h : apS ti t hq nx s y = some e) (hsv : RS (cxS w0 hp nm η w) s (ρ S)) (hy : RS (cxS w0 hp nm η w) y (ρ X)) {o : Oper} {c : Call} (ho : o.op = .call c)
    (h1 : c.callee = .builtin .append) (h2 : c.args.toList = [S, X]) (h3 : c.argTypes.toList = [t, t]) : OP e.hyp ∧ (OP e.pre → Does P w0 hp nm nx η w (execOp ρ o) e) := by
  unfold apS at h
  split at h
  · rename_i b o1 sz n cc
    obtain ⟨hb, hnc, hcm, k2, o', hk, ev, ho'⟩ := hsv
    split at h
    · rename_i el _ _ _ _ el' d xs c0 hi hlk
      split at h
      · rename_i i ys hie hys
        split at h
        · rename_i hc
          obtain ⟨rfl, hsz, rfl⟩ := hc
          cases h
          refine ⟨trivial, ?_⟩
          rintro ⟨⟨rfl, rfl, rfl⟩, hpre⟩
          have hu := tk_slice (ht.is hi).tk
          obtain ⟨k3, cur, hk3, hcur, hcs, hlc, hcm', hf⟩ := hH.obs b _ (hs _ _ hlk)
          have hkk : k3 = k2 := by have : some k3 = some k2 := hk3.symm.trans hk; simpa using this
          subst hkk
          have ho' := ho' (.inr rfl)
          rw [Nat.zero_mul] at ho'
          subst ho'
          obtain ⟨news, g1, g2⟩ := srcV_sound hH hs hys hy
          have hown : w.ownsRow 0 el d.sz (.slice (some ⟨k3, 0, none⟩) xs.length cc) xs.length (cur.toList.take (xs.length * d.sz)) :=
            ⟨by rw [RdF.len (fun _ _ => Rd.len) hf], .inr ⟨k3, cc, cur, rfl, Nat.zero_le _, hcur, hlc, hcm', hcs, rfl⟩⟩
          exact append_does ht hnx hH hu hie hsz (v := .slice (some ⟨k3, 0, none⟩) xs.length cc) hown hf g1 g2 hpre rfl (fun c o h => rm_sub c o (rm_sub c o h)) (fun k hk' => ⟨b, by rw [hs _ _ hlk]; simp, by rw [lk_rm, lk_rm]; simp, by simp [Value.ownBlock] at hk'; subst hk'; exact hk⟩) ho h1 h2 h3 ev rfl
        · cases h
      · cases h
    · cases h
  · cases h

theorem clV_sound {ti : Nat → Option TI} (ht : TabOk P ti) {w0 : W0} {hp hq : List (Nat × Ob)} {nm : Nat → Prop} {nx : Nat} {η : Nat → Option Nat × Value} {w : World} (hH : RepH w0 hp nm η w) (hs : ∀ b o, lk hq b = some o → lk hp b = some o) {t : TypeId} {s : SV} {e : E}
    {ρ : Operand → Value} {S : Operand} (h : clV ti t hq nx s = some e) (hsv : RS (cxS w0 hp nm η w) s (ρ S)) {o : Oper} {c : Call} (ho : o.op = .call c)
    (h1 : c.callee = .builtin .clear) (h2 : c.args.toList = [S]) (h3 : c.argTypes.toList = [t]) : OP e.hyp ∧ (OP e.pre → Does P w0 hp nm nx η w (execOp ρ o) e) := by
  have h2' : c.args = #[S] := by rw [← Array.toList_inj]; simpa using h2
  have h3' : c.argTypes = #[t] := by rw [← Array.toList_inj]; simpa using h3
  unfold clV at h
  split at h
  · rename_i b o1 sz n cc
    split at h
    · rename_i el _ _ _ _ e' d xs c0 hi hlk
      split at h
      · rename_i i hie
        split at h
        · rename_i z hz
          split at h
          · rename_i hc
            obtain ⟨hsz, rfl⟩ := hc
            cases h
            refine ⟨trivial, fun hp1 => ?_⟩
            simp only [OP_some] at hp1
            have hu := tk_slice (ht.is hi).tk
            obtain ⟨zv, hzr, hzs, hzl⟩ := zero_sound ht hie
            obtain ⟨v1, v2, ev0, hv1, hv2⟩ := D.ps_sound hz (hzl (cxS w0 hp nm η w))
            have : v2 = [] := by cases v2 with | nil => rfl | cons _ _ => exact hv2.elim
            subst this
            rw [List.append_nil] at ev0
            obtain ⟨hb, hnc, hcm, kd, od, hk, ev, hod⟩ := hsv
            obtain ⟨k3, cur, hk3, hcur, hcs, hlc, hcm', hf⟩ := hH.obs b _ (hs _ _ hlk)
            have hkk : k3 = kd := by have : some k3 = some kd := hk3.symm.trans hk; simpa using this
            subst hkk
            have hlk' : lk hp b ≠ none := by rw [hs _ _ hlk]; simp
            have g3 : RdF (Rd w (okS w0 hp η w) d) (List.replicate n z) ((List.replicate n v1).flatten) := rdf_rep hv1 n
            have g1 : (List.replicate n z).length = n := by simp
            have hzc : (Builtin.zeroCells zv.cells n).toList = (List.replicate n v1).flatten := by rw [zeroCells_list, ev0]
            generalize hnews : (List.replicate n v1).flatten = news at g3 hzc
            have hnl : news.length = n * d.sz := by rw [RdF.len (fun _ _ => Rd.len) g3, g1]
            have key : ∃ w', (Builtin.clear_ #[t] o.type #[ρ S]).run P w = .ok (.tuple #[]) w' ∧ w'.os = w.os ∧ w'.tape = w.tape ∧ w'.output = w.output ∧ w'.heap.size = w.heap.size ∧ (∀ j, j ≠ k3 → w'.heap[j]? = w.heap[j]?) ∧
                w'.heap[k3]? = some (.cells (cur.toList.take (o1 * d.sz) ++ news ++ cur.toList.drop (o1 * d.sz + news.length)).toArray e' (0, 0)) := by
              by_cases h0 : n = 0
              · subst h0
                have hn0 : news = [] := by apply List.eq_nil_of_length_eq_zero; simpa using hnl
                subst hn0
                refine ⟨w, ?_, rfl, rfl, rfl, rfl, fun _ _ => rfl, ?_⟩
                · simp [Builtin.clear_, und_run hu, ev]
                · simp only [List.append_nil, List.length_nil, Nat.add_zero, List.take_append_drop, Array.toArray_toList]
                  exact hcur
              · have hod := hod (.inl (by omega))
                subst hod
                have hfit : o1 * d.sz + news.length ≤ cur.size := by
                  rw [hnl, hcs, ← Nat.add_mul]; exact Nat.mul_le_mul_right _ (by omega)
                have hst := run_storeCells_at P k3 (o1 * d.sz) e' news 0 cur w hcur (by simpa using hfit) (rdf_ones g3)
                refine ⟨w.setRow k3 (cur.toList.take (o1 * d.sz) ++ news ++ cur.toList.drop (o1 * d.sz + news.length)).toArray, ?_, rfl, rfl, rfl, by simp, fun j hj => setRow_other w k3 j _ hj, setRow_heap w k3 cur _ e' _ hcur⟩
                simp only [Nat.add_zero] at hst
                obtain ⟨n', rfl⟩ : ∃ n', n = n' + 1 := ⟨n - 1, by omega⟩
                simp [Builtin.clear_, und_run hu, ev, hzr, hzc, hst]
            obtain ⟨w', hrun, q1, q2, q3, q4, q5, q6⟩ := key
            obtain ⟨f1, f2⟩ := wid_put hH hlk' hk hcs hlc hcm' hf g1 g3 (p := o1) (by omega) (by omega) q1 q2 q3 q4 q5 q6
            unfold Does
            rw [nmE_same]
            refine ⟨.value _, .tuple #[], w', η, ?_, .inl rfl, f1, f2, ⟨#[], rfl, trivial⟩⟩
            simp [execOp, ho, resolve, h1, h2', h3', invoke, builtin, hrun]
          · cases h
        · cases h
      · cases h
    · cases h
  · cases h

theorem ef_sound {ti : Nat → Option TI} (ht : TabOk P ti) {w0 : W0} {hp hq : List (Nat × Ob)} {nm : Nat → Prop} {nx : Nat} {η : Nat → Option Nat × Value} {w : World} (hnx : ¬ nm nx) (hH : RepH w0 hp nm η w) (hs : ∀ b o, lk hq b = some o → lk hp b = some o)
    {g : Operand → SV} {ρ : Operand → Value} (hg : ∀ o, RS (cxS w0 hp nm η w) (g o) (ρ o)) {o : Oper} {e : E} (h : ef ti hq nx g o.op = some e) :
    OP e.hyp ∧ (OP e.pre → Does P w0 hp nm nx η w (execOp ρ o) e) := by
  unfold ef at h
  split at h
  · rename_i t ho
    exact alV_sound ht hnx hH h ho
  · rename_i t x ho
    exact bxV_sound hnx hH h (hg x) ho
  · rename_i t p x ho
    exact stV_sound ht hH hs h (hg p) (hg x) ho
  · rename_i t len parts ho
    exact bsV_sound ht hnx hH hs hg h ho
  · rename_i c ho
    split at h
    · rename_i s x t t' h1 h2 h3
      split at h
      · rename_i e
        subst e
        split at h
        · rename_i e' hq'
          cases h
          exact apV_sound ht hnx hH hs hq' (hg s) (hg x) ho h1 h2 h3
        · split at h
          · rename_i e' hq'
            cases h
            exact apS_sound ht hnx hH hs hq' (hg s) (hg x) ho h1 h2 h3
          · exact apI_sound ht hH hs h (hg s) (hg x) ho h1 h2 h3
      · exact apM_sound ht hnx hH hs h (hg s) (hg x) ho h1 h2 h3
    · rename_i d s t t' h1 h2 h3
      exact cpV_sound ht hH hs h (hg d) (hg s) ho h1 h2 h3
    · rename_i x t h1 h2 h3
      exact clV_sound ht hH hs h (hg x) ho h1 h2 h3
    · cases h
  · cases h

end OE

/- OE, part 4b: the operations on the call's own maps. Own work; generic over the program. -/
set_option linter.unusedVariables false
namespace OE
open Go Go.RowKit

variable {P : Program}

theorem tk_map {t k e : TypeId} {kd : D} (h : tkIs P t (.map k e kd) = true) : P.underlying t = some (.map k e) ∧ keyB P k kd = true := by
  simp only [tkIs] at h
  split at h
  · rename_i k' e' hu; simp at h; obtain ⟨⟨rfl, rfl⟩, h3⟩ := h; exact ⟨hu, h3⟩
  · cases h

/-- a datum out of a value -/
def psS (d : D) : SV → Option d.T
  | .c y => match d with
    | .pair _ _ => none
    | d => match d.ps [y] with | some (x, []) => some x | _ => none
  | .agg l => match d with
    | .pair a b => match (D.pair a b).ps l with | some (x, []) => some x | _ => none
    | _ => none
  | _ => none
/-- a datum's value, as an abstract value -/
def svD (d : D) (y : d.T) : SV := match d with
  | .pair a b => .agg ((D.pair a b).cs y)
  | .int k => .c (.int k y)
  | .bool => .c (.bool (.sym y))
  | .str => .c (.str y)
  | .list a => .c (.dat a y)
theorem svD_sound {x : Cx} : ∀ {d : D} (y : d.T), d.plain = true → RS x (svD d y) (d.v y)
  | .int _, _, _ => rfl
  | .bool, _, _ => rfl
  | .str, _, _ => rfl
  | .pair a b, p, h => ⟨_, rfl, rl_cs (D.vs_rd (w := x.w) (ok := x.ok) (d := .pair a b) p h)⟩
  | .list _, _, h => by simp [D.plain] at h
theorem psS_sound {x : Cx} : ∀ {d : D} {s : SV} {y : d.T} {v : Value}, d.plain = true → psS d s = some y → RS x s v → v = d.v y
  | .int k, .c c, y, v, hp, h, hv => by
    simp only [psS] at h
    split at h
    · rename_i y' hy
      cases h
      obtain ⟨c1, c2, e, h1, h2⟩ := D.ps_sound (x := x) (d := .int k) hy (vs := [v]) ⟨hv, trivial⟩
      have := rd_vs (d := .int k) rfl h1
      cases c2 with
      | nil => rw [List.append_nil] at e; rw [this] at e; simpa [D.vs, D.v] using e
      | cons _ _ => exact h2.elim
    · cases h
  | .bool, .c c, y, v, hp, h, hv => by
    simp only [psS] at h
    split at h
    · rename_i y' hy
      cases h
      obtain ⟨c1, c2, e, h1, h2⟩ := D.ps_sound (x := x) (d := .bool) hy (vs := [v]) ⟨hv, trivial⟩
      have := rd_vs (d := .bool) rfl h1
      cases c2 with
      | nil => rw [List.append_nil] at e; rw [this] at e; simpa [D.vs, D.v] using e
      | cons _ _ => exact h2.elim
    · cases h
  | .str, .c c, y, v, hp, h, hv => by
    simp only [psS] at h
    split at h
    · rename_i y' hy
      cases h
      obtain ⟨c1, c2, e, h1, h2⟩ := D.ps_sound (x := x) (d := .str) hy (vs := [v]) ⟨hv, trivial⟩
      have := rd_vs (d := .str) rfl h1
      cases c2 with
      | nil => rw [List.append_nil] at e; rw [this] at e; simpa [D.vs, D.v] using e
      | cons _ _ => exact h2.elim
    · cases h
  | .list a, .c c, y, v, hp, h, hv => by simp [D.plain] at hp
  | .pair a b, .agg l, y, v, hp, h, hv => by
    simp only [psS] at h
    split at h
    · rename_i y' hy
      cases h
      obtain ⟨vs, rfl, hl⟩ := hv
      obtain ⟨c1, c2, e, h1, h2⟩ := D.ps_sound (x := x) (d := .pair a b) hy hl
      have := rd_vs (d := .pair a b) hp h1
      cases c2 with
      | nil =>
        rw [List.append_nil] at e
        rw [this] at e
        show Value.agg vs = .agg _
        congr 1
        apply Array.ext'
        simpa using e
      | cons _ _ => exact h2.elim
    · cases h
  | .pair a b, .c c, y, v, hp, h, hv => by simp [psS] at h
  | .pair a b, .tup c, y, v, hp, h, hv => by simp [psS] at h
  | .pair a b, .un, y, v, hp, h, hv => by simp [psS] at h
  | .int _, .agg c, y, v, hp, h, hv => by simp [psS] at h
  | .int _, .tup c, y, v, hp, h, hv => by simp [psS] at h
  | .int _, .un, y, v, hp, h, hv => by simp [psS] at h
  | .bool, .agg c, y, v, hp, h, hv => by simp [psS] at h
  | .bool, .tup c, y, v, hp, h, hv => by simp [psS] at h
  | .bool, .un, y, v, hp, h, hv => by simp [psS] at h
  | .str, .agg c, y, v, hp, h, hv => by simp [psS] at h
  | .str, .tup c, y, v, hp, h, hv => by simp [psS] at h
  | .str, .un, y, v, hp, h, hv => by simp [psS] at h
  | .list _, .agg c, y, v, hp, h, hv => by simp [psS] at h
  | .list _, .tup c, y, v, hp, h, hv => by simp [psS] at h
  | .list _, .un, y, v, hp, h, hv => by simp [psS] at h

/-- the zero value of a type is a datum's -/
def zeroD (i : TI) : Bool := i.d.plain && (match i.d with | .pair _ _ => i.tk.agg | _ => !i.tk.agg) && allIs i.zero (i.d.vs i.d.df)

theorem valIs_inj {c : C} {u v : Value} (h1 : valIs c u = true) (h2 : valIs c v = true) : u = v := by
  cases c with
  | int k n => cases u <;> simp [valIs] at h1; cases v <;> simp [valIs] at h2; rw [← h1.1, ← h1.2, ← h2.1, ← h2.2]
  | bool b => cases u <;> simp [valIs] at h1; cases v <;> simp [valIs] at h2; rw [← h1, ← h2]
  | str s =>
    cases u <;> simp [valIs] at h1
    cases v <;> simp [valIs] at h2
    rename_i a b
    cases a; cases b
    have := h1.trans h2.symm
    simp only [Value.string.injEq, ByteArray.mk.injEq]
    exact Array.ext' (by simpa using this)
  | val w =>
    have key : ∀ u, valIs (.val w) u = true → u = w := by
      intro u h
      unfold valIs at h
      split at h <;> simp_all
    rw [key u h1, key v h2]
  | _ => simp [valIs] at h1
theorem allIs_inj : ∀ {l : List C} {m m' : List Value}, allIs l m = true → allIs l m' = true → m = m'
  | [], [], [], _, _ => rfl
  | c :: l, a :: m, b :: m', h1, h2 => by
    simp only [allIs, Bool.and_eq_true] at h1 h2
    rw [valIs_inj h1.1 h2.1, allIs_inj h1.2 h2.2]
  | [], _ :: _, _, h, _ => by simp [allIs] at h
  | [], [], _ :: _, _, h => by simp [allIs] at h
  | _ :: _, [], _, h, _ => by simp [allIs] at h
  | _ :: _, _ :: _, [], _, h => by simp [allIs] at h

theorem zeroD_sound {ti : Nat → Option TI} (ht : TabOk P ti) {t : TypeId} {i : TI} (hi : ti t = some i) (h : zeroD i = true) : ∀ w, (zeroValue t).run P w = .ok (i.d.v i.d.df) w := by
  simp only [zeroD, Bool.and_eq_true] at h
  obtain ⟨⟨hp, hag⟩, hz⟩ := h
  obtain ⟨j, z, hj, hjz, hzz⟩ := (ht.is hi).zero
  have : z = i.d.v i.d.df := by
    cases hd : i.d with
    | pair a b =>
      rw [hd] at hag hz
      simp only at hag
      rw [if_pos hag] at hzz
      obtain ⟨cs, rfl, h⟩ := hzz
      have := allIs_inj h hz
      show Value.agg cs = .agg _
      congr 1
      exact Array.ext' (by simpa using this)
    | list a => rw [hd] at hp; simp [D.plain] at hp
    | int k =>
      rw [hd] at hag hz
      have hag : i.tk.agg = false := by simpa using hag
      rw [if_neg (by simp [hag])] at hzz
      have := allIs_inj hzz hz
      simpa [D.vs, D.v] using this
    | bool =>
      rw [hd] at hag hz
      have hag : i.tk.agg = false := by simpa using hag
      rw [if_neg (by simp [hag])] at hzz
      have := allIs_inj hzz hz
      simpa [D.vs, D.v] using this
    | str =>
      rw [hd] at hag hz
      have hag : i.tk.agg = false := by simpa using hag
      rw [if_neg (by simp [hag])] at hzz
      have := allIs_inj hzz hz
      simpa [D.vs, D.v] using this
  intro w
  rw [← this]
  simp [zeroValue, typeInfo, hj, hjz]

theorem RL.at_ {α β : Type} {R : α → β → Prop} : ∀ {l : List α} {m : List β} (_ : RL R l m) {i : Nat} {b : β}, m[i]? = some b → ∃ a, l[i]? = some a ∧ R a b
  | [], [], _, i, b, h => by simp at h
  | x :: xs, y :: ys, h, 0, b, hb => by simp at hb; subst hb; exact ⟨x, rfl, h.1⟩
  | x :: xs, y :: ys, h, i + 1, b, hb => by simpa using RL.at_ h.2 (by simpa using hb)
  | [], _ :: _, h, _, _, _ => h.elim
  | _ :: _, [], h, _, _, _ => h.elim

abbrev DmR (kd vd : D) (p : kd.T × vd.T) (e : MapEntry) : Prop := e.key = kd.v p.1 ∧ e.val = vd.v p.2

theorem find_dmp {kt : TypeId} {kd vd : D} (hB : keyB P kt kd = true) {es : List (kd.T × vd.T)} {arr : Array MapEntry} (h : RL (DmR kd vd) es arr.toList) (hd : es.Pairwise (fun p q => p.1 ≠ q.1)) (hok : ∀ p ∈ es, kd.ok p.1)
    {y : kd.T} (hy : kd.ok y) (w : World) : (Instr.findKey kt (kd.v y) arr.toList).run P w = .ok ((midx es y).map fun i => (i, vd.v (mval es y))) w := by
  have K := keyB_keyed hB
  have hpl := keyB_plain hB
  obtain ⟨l, hl⟩ := keyB_of hB hy
  have hall : ∀ e ∈ arr.toList, ∃ l, keyOf P kt e.key = some l := by
    intro e he
    obtain ⟨i, hi⟩ := List.getElem?_of_mem he
    obtain ⟨p, hp, h1, _⟩ := RL.at_ h hi
    rw [h1]
    exact keyB_of hB (hok p (List.mem_of_getElem? hp))
  rcases K.find w hl arr.toList hall with ⟨h1, h2⟩ | ⟨j, e, h1, h2, h3⟩
  · have : midx es y = none := by
      cases hm : midx es y with
      | none => rfl
      | some i =>
        obtain ⟨v, hv⟩ := midx_some hm
        obtain ⟨e, he, h3, _⟩ := RL.get h hv
        exact (h2 e (List.mem_of_getElem? he) h3).elim
    rw [h1, this]; rfl
  · obtain ⟨p, hp, h4, h5⟩ := RL.at_ h h2
    have hk : p.1 = y := D.v_inj hpl (h4.symm.trans h3)
    have hm : midx es y = some j := midx_at hd (v := p.2) (by rw [hp, ← hk])
    rw [h1, hm]
    simp [mval, hm, hp, h5]

def mkV (ti : Nat → Option TI) (T : TypeId) (nx : Nat) : Option E := match ti T with
  | some ⟨.map _ e kd, _, _, _, _⟩ => match ti e with
    | some i => if zeroD i = true then some ⟨none, none, .c (.mp nx), [(nx, some (.dmp T kd i.d []))], nx + 1⟩ else (match kd with
      | .int kk => some ⟨none, none, .c (.mp nx), [(nx, some (.lmp T kk []))], nx + 1⟩
      | _ => none)
    | none => none
  | _ => none

theorem does_map {w0 : W0} {hp : List (Nat × Ob)} {nm : Nat → Prop} {nx : Nat} {η : Nat → Option Nat × Value} {w : World} (hnx : ¬ nm nx) (hH : RepH w0 hp nm η w) {ob : Ob}
    (hob : ∀ (x : Cx) b r, (x.η b).1 = some r → x.w.heap[r]? = some (.map #[] 0) → RO x b ob)
    {s : Sem Next} (hr : s.run P w = .ok (.value (.map (some w.heap.size))) (w.alloc (.map #[] 0))) :
    Does P w0 hp nm nx η w s ⟨none, none, .c (.mp nx), [(nx, some ob)], nx + 1⟩ := by
  have ht := turns_allocr (nx := nx) (hp := hp) (η := η) (w := w) (.map #[] 0)
  have hle := step_le (p := (some w.heap.size, undef)) (ob := ob) hnx hH rm_sub ht (fun k hk => .inl (by cases hk; exact Nat.le_refl _))
  refine ⟨_, _, _, upd η nx (some w.heap.size, undef), hr, .inl rfl, ?_, hle, ?_⟩
  · refine step_rep hnx hH rm_sub ht (fun k hk => .inl (by cases hk; simp)) (hob _ _ w.heap.size (by simp [cxS, upd]) ?_)
    exact heap_alloc_new w _
  · exact ⟨.inr ⟨Nat.le_refl _, Nat.lt_succ_self _⟩, w.heap.size, by simp [cxS, upd], rfl⟩

theorem mkV_sound {ti : Nat → Option TI} (ht : TabOk P ti) {w0 : W0} {hp : List (Nat × Ob)} {nm : Nat → Prop} {nx : Nat} {η : Nat → Option Nat × Value} {w : World} (hnx : ¬ nm nx) (hH : RepH w0 hp nm η w) {t : TypeId} {e : E}
    {ρ : Operand → Value} (h : mkV ti t nx = some e) {o : Oper} (ho : o.op = .makeMap t none) : OP e.hyp ∧ (OP e.pre → Does P w0 hp nm nx η w (execOp ρ o) e) := by
  have hrun : (execOp ρ o).run P w = .ok (.value (.map (some w.heap.size))) (w.alloc (.map #[] 0)) := by
    simp [execOp, ho, Instr.makeMap]
  unfold mkV at h
  split at h
  · split at h
    · split at h
      · cases h
        refine ⟨trivial, fun _ => does_map hnx hH (ob := .dmp _ _ _ []) (fun x b r h1 h2 => ⟨r, #[], h1, h2, trivial, by simp, by simp, by simp⟩) hrun⟩
      · split at h
        · cases h
          refine ⟨trivial, fun _ => does_map hnx hH (ob := .lmp _ _ []) (fun x b r h1 h2 => ⟨r, #[], h1, h2, trivial, by simp, by simp, by simp⟩) hrun⟩
        · cases h
    · cases h
  · cases h

/-- a map's block is turned -/
theorem does_put {w0 : W0} {hp : List (Nat × Ob)} {nm : Nat → Prop} {nx : Nat} {η : Nat → Option Nat × Value} {w : World} (hH : RepH w0 hp nm η w) {b r : Nat} {arr arr' : Array MapEntry} {c c' : Nat} {ob' : Ob} (hb : lk hp b ≠ none)
    (hr : (η b).1 = some r) (hw : w.heap[r]? = some (.map arr c))
    (hob : ∀ (x : Cx), (cxS w0 hp nm η w).le x → (x.η b).1 = some r → x.w.heap[r]? = some (.map arr' c') → RO x b ob') {s : Sem Next} {n : Next} {v : Value} {sv : SV} {pre : Option Prop}
    (hrun : s.run P w = .ok n { w with heap := w.heap.setIfInBounds r (.map arr' c') }) (hn : n = .value v ∨ (n = .skip ∧ v = undef)) (hv : ∀ x, RS x sv v) :
    Does P w0 hp nm nx η w s ⟨none, pre, sv, [(b, some ob')], nx⟩ := by
  have hlt : r < w.heap.size := (Array.getElem?_eq_some_iff.1 hw).1
  have hother : ∀ j, j ≠ r → ({ w with heap := w.heap.setIfInBounds r (.map arr' c') } : World).heap[j]? = w.heap[j]? := fun j hj => by
    simp [Array.getElem?_setIfInBounds_ne (Ne.symm hj)]
  have hnew : ({ w with heap := w.heap.setIfInBounds r (.map arr' c') } : World).heap[r]? = some (.map arr' c') := by simp [hlt]
  have hle : (cxS w0 hp nm η w).le (cxS w0 ((b, ob') :: rm hp b) nm η { w with heap := w.heap.setIfInBounds r (.map arr' c') }) := by
    refine ⟨fun _ _ => rfl, fun _ h => h, fun j ⟨g1, g2⟩ => ⟨⟨by simpa using g1.1, g1.2⟩, fun d hd => g2 d ?_⟩, fun j ⟨g1, g2⟩ => hother j (fun e => g2 b hb (by rw [e]; exact hr))⟩
    rw [lk_put] at hd
    by_cases hdb : d = b
    · subst hdb; exact hb
    · simpa [hdb] using hd
  obtain ⟨g1, g2⟩ := step_set (w' := { w with heap := w.heap.setIfInBounds r (.map arr' c') }) (ob' := ob') hH (b := b) (k := r) hb hr rfl rfl rfl (by simp) hother (hob _ hle hr hnew)
  unfold Does
  rw [nmE_same]
  exact ⟨n, v, _, η, hrun, hn, g1, g2, hv _⟩

def ment {kd vd : D} (es : List (kd.T × vd.T)) (y : kd.T) : List (kd.T × vd.T) := if mhas es y = true then es else es ++ [(y, vd.df)]
def mput {kd vd : D} (es : List (kd.T × vd.T)) (n : Nat) (v : vd.T) : List (kd.T × vd.T) := match es[n]? with
  | some p => es.set n (p.1, v)
  | none => es
def partD (d : D) (y : d.T) : Bool × List C := match svD d y with
  | .agg l => (true, l)
  | .c c => (false, [c])
  | _ => (false, [])
theorem partD_sound {x : Cx} {d : D} (y : d.T) (hp : d.plain = true) : RP x (partD d y) (d.v y) := by
  have h := svD_sound (x := x) y hp
  cases d with
  | pair a b => exact h
  | list a => simp [D.plain] at hp
  | int k => exact ⟨_, rfl, h⟩
  | bool => exact ⟨_, rfl, h⟩
  | str => exact ⟨_, rfl, h⟩

theorem rl_push {α β : Type} {R : α → β → Prop} : ∀ {l : List α} {m : List β} {a : α} {b : β}, RL R l m → R a b → RL R (l ++ [a]) (m ++ [b]) := fun h hab => RL.app h ⟨hab, trivial⟩
theorem rl_set' {α β : Type} {R : α → β → Prop} {a : α} {b : β} (hab : R a b) {n : Nat} {l : List α} {m : List β} (h : RL R l m) : RL R (l.set n a) (m.set n b) := RL.set hab n h

/-- what is told of a map's entries behind a put -/
theorem put_entries {kd vd : D} {es : List (kd.T × vd.T)} {arr : Array MapEntry} (h : RL (DmR kd vd) es arr.toList) (hb : ∀ (i : Nat) (e : MapEntry), arr[i]? = some e → e.born = i) (y : kd.T) (v : vd.T) :
    (midx es y = none → RL (DmR kd vd) (mset es y v) (arr.push { key := kd.v y, val := vd.v v, born := es.length }).toList ∧ (mset es y v).length = es.length + 1 ∧
      ∀ (i : Nat) (e : MapEntry), (arr.push { key := kd.v y, val := vd.v v, born := es.length })[i]? = some e → e.born = i) ∧
    (∀ i, midx es y = some i → RL (DmR kd vd) (mset es y v) (arr.modify i fun e => { e with key := kd.v y, val := vd.v v }).toList ∧ (mset es y v).length = es.length ∧
      ∀ (j : Nat) (e : MapEntry), (arr.modify i fun e => { e with key := kd.v y, val := vd.v v })[j]? = some e → e.born = j) := by
  have hlen : es.length = arr.size := by simpa using RL.len h
  refine ⟨fun hm => ?_, fun i hm => ?_⟩
  · unfold mset
    rw [hm]
    refine ⟨by rw [Array.toList_push]; exact rl_push h ⟨rfl, rfl⟩, by simp, fun i e he => ?_⟩
    rw [Array.getElem?_push] at he
    split at he
    · rename_i hi; cases he; exact hlen.trans hi.symm
    · exact hb i e he
  · unfold mset
    rw [hm]
    obtain ⟨u, hu⟩ := midx_some hm
    have hi : i < arr.size := by rw [← hlen]; exact (List.getElem?_eq_some_iff.1 hu).1
    have hset : (arr.modify i fun e => { e with key := kd.v y, val := vd.v v }).toList = arr.toList.set i { key := kd.v y, val := vd.v v, born := i } := by
      apply List.ext_getElem?
      intro j
      rw [List.getElem?_set, Array.getElem?_toList, Array.getElem?_modify, Array.getElem?_toList]
      by_cases hj : i = j
      · subst hj
        have hl : i < arr.toList.length := by simpa using hi
        simp only [if_true, hl, Array.getElem?_eq_getElem hi, Option.map_some]
        rw [hb i arr[i] (Array.getElem?_eq_getElem hi)]
      · simp [hj]
    refine ⟨by rw [hset]; exact rl_set' ⟨rfl, rfl⟩ h, by simp, fun j e he => ?_⟩
    rw [Array.getElem?_modify] at he
    split at he
    · rename_i hj
      subst hj
      simp only [Option.map_eq_some_iff] at he
      obtain ⟨e0, h1, rfl⟩ := he
      exact hb i e0 h1
    · exact hb j e he

def muV (ti : Nat → Option TI) (T : TypeId) (hp : List (Nat × Ob)) (nx : Nat) (m k x : SV) : Option E := match m with
  | .c (.mp b) => match ti T, lk hp b with
    | some ⟨.map _ _ kd0, _, _, _, _⟩, some (.dmp T' kd vd es) => if T' = T ∧ kd = kd0 ∧ vd.plain = true then (match psS kd k, psS vd x with
      | some y, some v => some ⟨none, some (kd.ok y), .un, [(b, some (.dmp T' kd vd (mset es y v)))], nx⟩
      | _, _ => none) else none
    | some ⟨.map _ _ (.int kk0), _, _, _, _⟩, some (.lmp T' kk es) => match k with
      | .c (.int kk' n) => if kk' = kk ∧ kk = kk0 ∧ T' = T ∧ (es.all fun p => decide (p.1 ≠ n)) = true then some ⟨none, some ((Lit.int kk n).wf = true), .un, [(b, some (.lmp T' kk (es ++ [(n, x)])))], nx⟩ else none
      | _ => none
    | _, _ => none
  | _ => none

theorem muV_sound {ti : Nat → Option TI} (ht : TabOk P ti) {w0 : W0} {hp hq : List (Nat × Ob)} {nm : Nat → Prop} {nx : Nat} {η : Nat → Option Nat × Value} {w : World} (hH : RepH w0 hp nm η w) (hs : ∀ b o, lk hq b = some o → lk hp b = some o) {t : TypeId} {m k x : SV} {e : E}
    {M Y X : Operand} {ρ : Operand → Value} (h : muV ti t hq nx m k x = some e) (hm : RS (cxS w0 hp nm η w) m (ρ M)) (hk : RS (cxS w0 hp nm η w) k (ρ Y)) (hx : RS (cxS w0 hp nm η w) x (ρ X)) {o : Oper} (ho : o.op = .mapUpdate t M Y X ∨ o.op = .insert t M Y X) :
    OP e.hyp ∧ (OP e.pre → Does P w0 hp nm nx η w (execOp ρ o) e) := by
  have hexec : execOp ρ o = (do Instr.mapUpdate t (ρ M) (ρ Y) (ρ X); pure .skip) := by
    rcases ho with ho | ho <;> simp only [execOp, ho]
  unfold muV at h
  split at h
  · rename_i b
    obtain ⟨_, r0, hr0, em⟩ := hm
    split at h
    · rename_i kt et kd0 _ _ _ _ T' kd vd es hi hlk
      split at h
      · rename_i hc
        obtain ⟨rfl, rfl, hvp⟩ := hc
        split at h
        · rename_i y v hy hv
          cases h
          refine ⟨trivial, fun hok => ?_⟩
          have hok : kd.ok y := hok
          obtain ⟨hu, hB⟩ := tk_map (ht.is hi).tk
          have K := keyB_keyed hB
          obtain ⟨l, hl⟩ := keyB_of hB hok
          have ek := psS_sound (keyB_plain hB) hy hk
          have ex := psS_sound hvp hv hx
          obtain ⟨r, arr, g1, g2, g3, g4, g5, g6⟩ := hH.obs b _ (hs _ _ hlk)
          have hrr : r = r0 := by have : some r = some r0 := g1.symm.trans hr0; simpa using this
          subst hrr
          have g2 : w.heap[r]? = some (.map arr es.length) := g2
          have hf := find_dmp hB g3 g5 g6 hok w
          obtain ⟨p1, p2⟩ := put_entries g3 g4 y v
          have hlk' : lk hp b ≠ none := by rw [hs _ _ hlk]; simp
          have hoks : ∀ p ∈ mset es y v, kd.ok p.1 := by
            intro p hp
            unfold mset at hp
            split at hp
            · rename_i i hi
              rcases List.mem_or_eq_of_mem_set hp with h | rfl
              · exact g6 p h
              · exact hok
            · simp only [List.mem_append, List.mem_singleton] at hp
              rcases hp with h | rfl
              · exact g6 p h
              · exact hok
          rw [hexec, em, ek, ex]
          cases hmi : midx es y with
          | none =>
            obtain ⟨q1, q2, q3⟩ := p1 hmi
            rw [hmi] at hf
            refine does_put (ob' := .dmp T' kd vd (mset es y v)) (v := undef) (sv := .un) (n := .skip) (arr' := arr.push { key := kd.v y, val := vd.v v, born := es.length }) (c' := es.length + 1) hH hlk' hr0 g2 (fun x hle h1 h2 => ⟨r, _, h1, by rw [q2]; exact h2, q1, q3, mset_pairwise g5 y v, hoks⟩) ?_ (.inr ⟨rfl, rfl⟩) (fun _ => trivial)
            simp only [Instr.mapUpdate, Sem.run_bind, und_run hu, Result.andThen_ok, Go.MapKept.run_getObj_map g2, K.check w false hl, hf, Option.map_none, Go.MapKept.run_setObj_map _ g2, Sem.run_pure]
          | some i =>
            obtain ⟨q1, q2, q3⟩ := p2 i hmi
            rw [hmi] at hf
            obtain ⟨u, hu'⟩ := midx_some hmi
            obtain ⟨e0, he0, hk0, _⟩ := RL.get g3 hu'
            have he0' : arr[i]? = some e0 := by simpa using he0
            refine does_put (ob' := .dmp T' kd vd (mset es y v)) (v := undef) (sv := .un) (n := .skip) (arr' := arr.modify i fun e => { e with key := kd.v y, val := vd.v v }) (c' := es.length) hH hlk' hr0 g2 (fun x hle h1 h2 => ⟨r, _, h1, by rw [q2]; exact h2, q1, q3, mset_pairwise g5 y v, hoks⟩) ?_ (.inr ⟨rfl, rfl⟩) (fun _ => trivial)
            have hk0 : e0.key = kd.v y := hk0
            simp only [Instr.mapUpdate, Sem.run_bind, und_run hu, Result.andThen_ok, Go.MapKept.run_getObj_map g2, K.check w false hl, hf, Option.map_some, he0', Option.getD_some, hk0, K.stays w hl, Go.MapKept.run_setObj_map _ g2, Sem.run_pure]
        · cases h
      · cases h
    · rename_i kt et kk0 _ _ _ _ T' kk es hi hlk
      split at h
      · rename_i kk' n
        split at h
        · rename_i hc
          obtain ⟨rfl, rfl, rfl, hall⟩ := hc
          cases h
          refine ⟨trivial, fun hok => ?_⟩
          have hok : (Lit.int kk' n).wf = true := hok
          obtain ⟨hu, hB⟩ := tk_map (ht.is hi).tk
          have K := keyB_keyed hB
          obtain ⟨l, hl⟩ := keyB_of hB (y := n) hok
          have hl : keyOf P kt (.int kk' n) = some l := hl
          have ek : ρ Y = .int kk' n := hk
          obtain ⟨r, arr, g1, g2, g3, g4, g6, g7⟩ := hH.obs b _ (hs _ _ hlk)
          have hrr : r = r0 := by have : some r = some r0 := g1.symm.trans hr0; simpa using this
          subst hrr
          have g2 : w.heap[r]? = some (.map arr es.length) := g2
          have hlen : es.length = arr.size := by simpa using RL.len g3
          have hkeys : ∀ e ∈ arr.toList, ∃ l, keyOf P kt e.key = some l := by
            intro e he
            obtain ⟨i, hi⟩ := List.getElem?_of_mem he
            obtain ⟨p, hp, h1, _⟩ := RL.at_ g3 hi
            rw [h1]
            exact keyB_of hB (y := p.1) (g6 p (List.mem_of_getElem? hp))
          have hf : (Instr.findKey kt (.int kk' n) arr.toList).run P w = .ok none w := by
            rcases K.find w hl arr.toList hkeys with ⟨h1, _⟩ | ⟨j, e, h1, h2, h3⟩
            · exact h1
            · obtain ⟨p, hp, h4, _⟩ := RL.at_ g3 h2
              have := List.all_eq_true.1 hall p (List.mem_of_getElem? hp)
              simp only [decide_eq_true_eq] at this
              have h5 : Value.int kk' p.1 = .int kk' n := h4.symm.trans h3
              simp only [Value.int.injEq, true_and] at h5
              exact (this h5).elim
          have hlk' : lk hp b ≠ none := by rw [hs _ _ hlk]; simp
          rw [hexec, em, ek]
          refine does_put (ob' := .lmp T' kk' (es ++ [(n, x)])) (v := undef) (sv := .un) (n := .skip) (arr' := arr.push { key := .int kk' n, val := ρ X, born := es.length }) (c' := es.length + 1) hH hlk' hr0 g2 (fun x' hle h1 h2 => ⟨r, _, h1, by rw [List.length_append]; exact h2, by
            rw [Array.toList_push]
            exact rl_push (RL.imp (fun _ _ ⟨a1, a2⟩ => ⟨a1, RS.mono hle a2⟩) g3) ⟨rfl, RS.mono hle hx⟩, fun i e he => ?_, fun p hp => ?_, by
            rw [List.pairwise_append]
            refine ⟨g7, by simp, fun p hp q hq => ?_⟩
            simp at hq; subst hq
            have := List.all_eq_true.1 hall p hp
            simpa using this⟩) ?_ (.inr ⟨rfl, rfl⟩) (fun _ => trivial)
          · rw [Array.getElem?_push] at he
            split at he
            · rename_i hi; cases he; exact hlen.trans hi.symm
            · exact g4 i e he
          · simp only [List.mem_append, List.mem_singleton] at hp
            rcases hp with h | rfl
            · exact g6 p h
            · exact hok
          · simp only [Instr.mapUpdate, Sem.run_bind, und_run hu, Result.andThen_ok, Go.MapKept.run_getObj_map g2, K.check w false hl, hf, Go.MapKept.run_setObj_map _ g2, Sem.run_pure]
        · cases h
      · cases h
    · cases h
  · cases h

def meV (ti : Nat → Option TI) (T : TypeId) (hp : List (Nat × Ob)) (nx : Nat) (m k : SV) : Option E := match m with
  | .c (.mp b) => match ti T, lk hp b with
    | some ⟨.map _ e kd0, _, _, _, _⟩, some (.dmp T' kd vd es) => match ti e with
      | some i => if T' = T ∧ kd = kd0 ∧ i.d = vd ∧ zeroD i = true then (match psS kd k with
        | some y => some ⟨none, some (kd.ok y), .tup [partD vd (mval es y), (false, [.int .i64 ((midx es y).getD es.length : Nat)])], [(b, some (.dmp T' kd vd (ment es y)))], nx⟩
        | none => none) else none
      | none => none
    | _, _ => none
  | _ => none

theorem meV_sound {ti : Nat → Option TI} (ht : TabOk P ti) {w0 : W0} {hp hq : List (Nat × Ob)} {nm : Nat → Prop} {nx : Nat} {η : Nat → Option Nat × Value} {w : World} (hH : RepH w0 hp nm η w) (hs : ∀ b o, lk hq b = some o → lk hp b = some o) {t : TypeId} {m k : SV} {e : E}
    {M Y : Operand} {ρ : Operand → Value} (h : meV ti t hq nx m k = some e) (hm : RS (cxS w0 hp nm η w) m (ρ M)) (hk : RS (cxS w0 hp nm η w) k (ρ Y)) {o : Oper} (ho : o.op = .mapEntry t M Y) :
    OP e.hyp ∧ (OP e.pre → Does P w0 hp nm nx η w (execOp ρ o) e) := by
  unfold meV at h
  split at h
  · rename_i b
    obtain ⟨_, r0, hr0, em⟩ := hm
    split at h
    · rename_i kt et kd0 _ _ _ _ T' kd vd es hi hlk
      split at h
      · rename_i i hie
        split at h
        · rename_i hc
          obtain ⟨rfl, rfl, rfl, hz⟩ := hc
          split at h
          · rename_i y hy
            cases h
            refine ⟨trivial, fun hok => ?_⟩
            have hok : kd.ok y := hok
            obtain ⟨hu, hB⟩ := tk_map (ht.is hi).tk
            have K := keyB_keyed hB
            obtain ⟨l, hl⟩ := keyB_of hB hok
            have ek := psS_sound (keyB_plain hB) hy hk
            have hvp : i.d.plain = true := by simp only [zeroD, Bool.and_eq_true] at hz; exact hz.1.1
            have hzero := zeroD_sound ht hie hz
            obtain ⟨r, arr, g1, g2, g3, g4, g5, g6⟩ := hH.obs b _ (hs _ _ hlk)
            have hrr : r = r0 := by have : some r = some r0 := g1.symm.trans hr0; simpa using this
            subst hrr
            have g2 : w.heap[r]? = some (.map arr es.length) := g2
            have hf := find_dmp hB g3 g5 g6 hok w
            have hlk' : lk hp b ≠ none := by rw [hs _ _ hlk]; simp
            have hlen : es.length = arr.size := by simpa using RL.len g3
            cases hmi : midx es y with
            | none =>
              rw [hmi] at hf
              have e1 : ment es y = mset es y i.d.df := by simp [ment, mset, mhas, hmi]
              have e2 : mval es y = i.d.df := by simp [mval, hmi]
              obtain ⟨q1, q2, q3⟩ := (put_entries g3 g4 y i.d.df).1 hmi
              rw [e1, e2]
              refine does_put (ob' := .dmp T' kd i.d (mset es y i.d.df)) (v := .tuple #[i.d.v i.d.df, .int .i64 es.length]) (n := .value (.tuple #[i.d.v i.d.df, .int .i64 es.length])) (arr' := arr.push { key := kd.v y, val := i.d.v i.d.df, born := es.length }) (c' := es.length + 1)
                hH hlk' hr0 g2 (fun x hle h1 h2 => ⟨r, _, h1, by rw [q2]; exact h2, q1, q3, mset_pairwise g5 y _, fun p hp => ?_⟩) ?_ (.inl rfl) (fun x => ⟨_, rfl, partD_sound _ hvp, ⟨_, rfl, rfl⟩, trivial⟩)
              · simp only [mset, hmi, List.mem_append, List.mem_singleton] at hp
                rcases hp with h | rfl
                · exact g6 p h
                · exact hok
              · simp only [execOp, ho, em, ek, Instr.mapEntry, Sem.run_bind, und_run hu, Result.andThen_ok, Go.MapKept.run_getObj_map g2, K.check w false hl, hf, Option.map_none, hzero, Go.MapKept.run_setObj_map _ g2, Sem.run_pure, goInt]
            | some j =>
              rw [hmi] at hf
              obtain ⟨u, hu'⟩ := midx_some hmi
              obtain ⟨e0, he0, hk0, _⟩ := RL.get g3 hu'
              have he0' : arr[j]? = some e0 := by simpa using he0
              have hk0 : e0.key = kd.v y := hk0
              have e1 : ment es y = es := by simp [ment, mhas, hmi]
              have hsame : (arr.modify j fun e => { e with key := kd.v y }) = arr := by
                apply Array.ext_getElem?
                intro n
                rw [Array.getElem?_modify]
                split
                · rename_i hn; subst hn
                  rw [he0']; simp [← hk0]
                · rfl
              rw [e1]
              refine does_put (ob' := .dmp T' kd i.d es) (v := .tuple #[i.d.v (mval es y), .int .i64 j]) (n := .value (.tuple #[i.d.v (mval es y), .int .i64 j])) (arr' := arr) (c' := es.length)
                hH hlk' hr0 g2 (fun x hle h1 h2 => ⟨r, _, h1, h2, g3, g4, g5, g6⟩) ?_ (.inl rfl) (fun x => ⟨_, rfl, partD_sound _ hvp, ⟨_, rfl, by simp [RC]⟩, trivial⟩)
              simp only [execOp, ho, em, ek, Instr.mapEntry, Sem.run_bind, und_run hu, Result.andThen_ok, Go.MapKept.run_getObj_map g2, K.check w false hl, hf, Option.map_some, he0', Option.getD_some, hk0, K.stays w hl, hsame, Go.MapKept.run_setObj_map _ g2, Sem.run_pure, goInt, g4 j e0 he0']
          · cases h
        · cases h
      · cases h
    · cases h
  · cases h

def esV (T : TypeId) (hp : List (Nat × Ob)) (nx : Nat) (m k x : SV) : Option E := match m, k with
  | .c (.mp b), .c (.int .i64 n) => match lk hp b with
    | some (.dmp T' kd vd es) => if vd.plain = true then (match psS vd x with
      | some v => some ⟨none, some (0 ≤ n ∧ n < es.length), .un, [(b, some (.dmp T' kd vd (mput es n.toNat v)))], nx⟩
      | none => none) else none
    | _ => none
  | _, _ => none

theorem esV_sound {w0 : W0} {hp hq : List (Nat × Ob)} {nm : Nat → Prop} {nx : Nat} {η : Nat → Option Nat × Value} {w : World} (hH : RepH w0 hp nm η w) (hs : ∀ b o, lk hq b = some o → lk hp b = some o) {t : TypeId} {m k x : SV} {e : E}
    {M Y X : Operand} {ρ : Operand → Value} (h : esV t hq nx m k x = some e) (hm : RS (cxS w0 hp nm η w) m (ρ M)) (hk : RS (cxS w0 hp nm η w) k (ρ Y)) (hx : RS (cxS w0 hp nm η w) x (ρ X)) {o : Oper} (ho : o.op = .entryStore t M Y X) :
    OP e.hyp ∧ (OP e.pre → Does P w0 hp nm nx η w (execOp ρ o) e) := by
  unfold esV at h
  split at h
  · rename_i b n
    obtain ⟨_, r0, hr0, em⟩ := hm
    have ek := rs_int hk
    split at h
    · rename_i T' kd vd es hlk
      split at h
      · rename_i hvp
        split at h
        · rename_i v hv
          cases h
          refine ⟨trivial, fun hb => ?_⟩
          have hb : 0 ≤ n ∧ n < es.length := hb
          have ex := psS_sound hvp hv hx
          obtain ⟨r, arr, g1, g2, g3, g4, g5, g6⟩ := hH.obs b _ (hs _ _ hlk)
          have hrr : r = r0 := by have : some r = some r0 := g1.symm.trans hr0; simpa using this
          subst hrr
          have g2 : w.heap[r]? = some (.map arr es.length) := g2
          have hlk' : lk hp b ≠ none := by rw [hs _ _ hlk]; simp
          have hlen : es.length = arr.size := by simpa using RL.len g3
          obtain ⟨j, rfl⟩ := Int.eq_ofNat_of_zero_le hb.1
          have hj : j < es.length := by omega
          rw [show ((j : Nat) : Int).toNat = j from rfl]
          have hes : es[j]? = some (es[j]) := List.getElem?_eq_getElem hj
          have hmid : midx es (es[j]).1 = some j := midx_at g5 (v := (es[j]).2) hes
          have e1 : mput es j v = mset es (es[j]).1 v := by simp [mput, mset, hmid, hes]
          obtain ⟨q1, q2, q3⟩ := (put_entries g3 g4 (es[j]).1 v).2 j hmid
          obtain ⟨e0, he0, hk0, _⟩ := RL.get g3 hes
          have he0' : arr[j]? = some e0 := by simpa using he0
          have hk0 : e0.key = kd.v (es[j]).1 := hk0
          have hsame : (arr.modify j fun e => { e with val := vd.v v }) = arr.modify j fun e => { e with key := kd.v (es[j]).1, val := vd.v v } := by
            apply Array.ext_getElem?
            intro n
            rw [Array.getElem?_modify, Array.getElem?_modify]
            split
            · rename_i hn; subst hn
              rw [he0']; simp [← hk0]
            · rfl
          have hfind : arr.findIdx? (fun e => (e.born : Int) == (j : Int)) = some j := by
            rw [Array.findIdx?_eq_some_iff_getElem]
            refine ⟨by omega, ?_, fun n hn => ?_⟩
            · have := g4 j arr[j] (Array.getElem?_eq_getElem (by omega))
              simp [this]
            · have := g4 n arr[n] (Array.getElem?_eq_getElem (by omega))
              simp [this]; omega
          rw [e1]
          refine does_put (ob' := .dmp T' kd vd (mset es (es[j]).1 v)) (v := undef) (sv := .un) (n := .skip) (arr' := arr.modify j fun e => { e with val := vd.v v }) (c' := es.length) hH hlk' hr0 g2 (fun x hle h1 h2 => ⟨r, _, h1, by rw [q2]; exact h2, by rw [hsame]; exact q1, by rw [hsame]; exact q3, mset_pairwise g5 _ v, fun p hp => ?_⟩) ?_ (.inr ⟨rfl, rfl⟩) (fun _ => trivial)
          · simp only [mset, hmid] at hp
            rcases List.mem_or_eq_of_mem_set hp with h | rfl
            · exact g6 p h
            · exact g6 (es[j]) (List.getElem_mem hj)
          · simp only [execOp, ho, em, ek, ex, Instr.entryStore, Sem.run_bind, Result.andThen_ok, Go.MapKept.run_getObj_map g2, asInt, asIntOf, Sem.run_pure, hfind, Go.MapKept.run_setObj_map _ g2, pure_bind]
        · cases h
      · cases h
    · cases h
  · cases h

/-- a lookup in a map of data -/
def lkV (ti : Nat → Option TI) (T : TypeId) (hp : List (Nat × Ob)) (m k : SV) (ok : Bool) : Option Q := match m with
  | .c (.mp b) => match ti T, lk hp b with
    | some ⟨.map _ e kd0, _, _, _, _⟩, some (.dmp T' kd vd es) => match ti e with
      | some i => if T' = T ∧ kd = kd0 ∧ i.d = vd ∧ zeroD i = true then (match psS kd k with
        | some y => some ⟨none, some (kd.ok y), match ok with | true => .tup [partD vd (mval es y), (false, [.bool (.sym (mhas es y))])] | false => svD vd (mval es y)⟩
        | none => none) else none
      | none => none
    | _, _ => none
  | _ => none

theorem lkV_sound {ti : Nat → Option TI} (ht : TabOk P ti) {w0 : W0} {hp hq : List (Nat × Ob)} {nm : Nat → Prop} {η : Nat → Option Nat × Value} {w : World} (hH : RepH w0 hp nm η w) (hs : ∀ b o, lk hq b = some o → lk hp b = some o) {t : TypeId} {m k : SV} {ok : Bool} {q : Q}
    {M Y : Operand} {ρ : Operand → Value} (h : lkV ti t hq m k ok = some q) (hm : RS (cxS w0 hp nm η w) m (ρ M)) (hk : RS (cxS w0 hp nm η w) k (ρ Y)) {o : Oper} (ho : o.op = .lookup t M Y ok) :
    OP q.hyp ∧ (OP q.pre → ∃ v, RS (cxS w0 hp nm η w) q.v v ∧ Yields P w v (execOp ρ o)) := by
  unfold lkV at h
  split at h
  · rename_i b
    obtain ⟨_, r0, hr0, em⟩ := hm
    split at h
    · rename_i kt et kd0 _ _ _ _ T' kd vd es hi hlk
      split at h
      · rename_i i hie
        split at h
        · rename_i hc
          obtain ⟨rfl, rfl, rfl, hz⟩ := hc
          split at h
          · rename_i y hy
            cases h
            refine ⟨trivial, fun hok => ?_⟩
            have hok : kd.ok y := hok
            obtain ⟨hu, hB⟩ := tk_map (ht.is hi).tk
            have K := keyB_keyed hB
            obtain ⟨l, hl⟩ := keyB_of hB hok
            have ek := psS_sound (keyB_plain hB) hy hk
            have hvp : i.d.plain = true := by simp only [zeroD, Bool.and_eq_true] at hz; exact hz.1.1
            have hzero := zeroD_sound ht hie hz
            obtain ⟨r, arr, g1, g2, g3, g4, g5, g6⟩ := hH.obs b _ (hs _ _ hlk)
            have hrr : r = r0 := by have : some r = some r0 := g1.symm.trans hr0; simpa using this
            subst hrr
            have g2 : w.heap[r]? = some (.map arr es.length) := g2
            have run : ∀ w', Below w.heap.size w w' → (execOp ρ o).run P w' = .ok (.value (if ok = true then .tuple #[i.d.v (mval es y), .bool (mhas es y)] else i.d.v (mval es y))) w' := by
              intro w' hw'
              have g2' : w'.heap[r]? = some (.map arr es.length) := (heap_below hw' g2).trans g2
              have hf := find_dmp hB g3 g5 g6 hok w'
              cases hmi : midx es y with
              | none =>
                rw [hmi] at hf
                have e2 : mval es y = i.d.df := by simp [mval, hmi]
                have e3 : mhas es y = false := by simp [mhas, hmi]
                rw [e2, e3]
                simp only [execOp, ho, em, ek, Instr.lookup, Sem.run_bind, und_run hu, Result.andThen_ok, Go.MapKept.run_getObj_map g2', Sem.run_pure, K.check w' _ hl, hf, Option.map_none, hzero]
              | some j =>
                rw [hmi] at hf
                have e3 : mhas es y = true := by simp [mhas, hmi]
                rw [e3]
                simp only [execOp, ho, em, ek, Instr.lookup, Sem.run_bind, und_run hu, Result.andThen_ok, Go.MapKept.run_getObj_map g2', Sem.run_pure, K.check w' _ hl, hf, Option.map_some]
            cases ok with
            | true => exact ⟨.tuple #[i.d.v (mval es y), .bool (mhas es y)], ⟨#[i.d.v (mval es y), .bool (mhas es y)], rfl, partD_sound _ hvp, ⟨_, rfl, rfl⟩, trivial⟩, run⟩
            | false => exact ⟨i.d.v (mval es y), svD_sound _ hvp, run⟩
          · cases h
        · cases h
      · cases h
    · cases h
  · cases h

/-- the quiet operations, and lookups -/
def qm (ti : Nat → Option TI) (hp : List (Nat × Ob)) (g : Operand → SV) (op : Op) : Option Q := match op with
  | .lookup t m k ok => lkV ti t hp (g m) (g k) ok
  | op => qv ti hp g op
theorem qm_sound {ti : Nat → Option TI} (ht : TabOk P ti) {w0 : W0} {hp hq : List (Nat × Ob)} {nm : Nat → Prop} {η : Nat → Option Nat × Value} {w : World} (hH : RepH w0 hp nm η w) (hs : ∀ b o, lk hq b = some o → lk hp b = some o)
    {g : Operand → SV} {ρ : Operand → Value} (hg : ∀ o, RS (cxS w0 hp nm η w) (g o) (ρ o)) {o : Oper} {q : Q} (h : qm ti hq g o.op = some q) :
    OP q.hyp ∧ (OP q.pre → ∃ v, RS (cxS w0 hp nm η w) q.v v ∧ Yields P w v (execOp ρ o)) := by
  unfold qm at h
  split at h
  · rename_i t m k ok ho
    exact lkV_sound ht hH hs h (hg m) (hg k) ho
  · exact qv_sound ht hH hs hg h

/-- the effects, and those on maps -/
def em (ti : Nat → Option TI) (hp : List (Nat × Ob)) (nx : Nat) (g : Operand → SV) (op : Op) : Option E := match op with
  | .makeMap t none => mkV ti t nx
  | .mapUpdate t m k x => muV ti t hp nx (g m) (g k) (g x)
  | .insert t m k x => muV ti t hp nx (g m) (g k) (g x)
  | .mapEntry t m k => meV ti t hp nx (g m) (g k)
  | .entryStore t m k x => esV t hp nx (g m) (g k) (g x)
  | op => ef ti hp nx g op
theorem em_nx {ti : Nat → Option TI} {hp : List (Nat × Ob)} {nx : Nat} {g : Operand → SV} {op : Op} {e : E} (h : em ti hp nx g op = some e) : nx ≤ e.nx ∧ e.nx ≤ nx + 1 := by
  unfold em at h
  split at h
  · unfold mkV at h; repeat' split at h
    all_goals first | (cases h; simp; done) | cases h
  · unfold muV at h; repeat' split at h
    all_goals first | (cases h; simp; done) | cases h
  · unfold muV at h; repeat' split at h
    all_goals first | (cases h; simp; done) | cases h
  · unfold meV at h; repeat' split at h
    all_goals first | (cases h; simp; done) | cases h
  · unfold esV at h; repeat' split at h
    all_goals first | (cases h; simp; done) | cases h
  · exact ef_nx h
theorem em_sound {ti : Nat → Option TI} (ht : TabOk P ti) {w0 : W0} {hp hq : List (Nat × Ob)} {nm : Nat → Prop} {nx : Nat} {η : Nat → Option Nat × Value} {w : World} (hnx : ¬ nm nx) (hH : RepH w0 hp nm η w) (hs : ∀ b o, lk hq b = some o → lk hp b = some o)
    {g : Operand → SV} {ρ : Operand → Value} (hg : ∀ o, RS (cxS w0 hp nm η w) (g o) (ρ o)) {o : Oper} {e : E} (h : em ti hq nx g o.op = some e) :
    OP e.hyp ∧ (OP e.pre → Does P w0 hp nm nx η w (execOp ρ o) e) := by
  unfold em at h
  split at h
  · rename_i t ho
    exact mkV_sound ht hnx hH h ho
  · rename_i t m k x ho
    exact muV_sound ht hH hs h (hg m) (hg k) (hg x) (.inl ho)
  · rename_i t m k x ho
    exact muV_sound ht hH hs h (hg m) (hg k) (hg x) (.inr ho)
  · rename_i t m k ho
    exact meV_sound ht hH hs h (hg m) (hg k) ho
  · rename_i t m k x ho
    exact esV_sound hH hs h (hg m) (hg k) (hg x) ho
  · exact ef_sound ht hnx hH hs hg h

/-- a lookup in a literal map: what is in it, the key, what it yields at a key that is not there -/
def lmL (ti : Nat → Option TI) (hp : List (Nat × Ob)) (g : Operand → SV) : Op → Option (IntKind × List (Int × SV) × Int × C × Bool)
  | .lookup T m k ok => match g m, g k with
    | .c (.mp b), .c (.int kk' n) => match ti T, lk hp b with
      | some ⟨.map _ e (.int kk0), _, _, _, _⟩, some (.lmp T' kk es) => match ti e with
        | some ⟨tk, _, _, [z], _⟩ => if T' = T ∧ kk' = kk ∧ kk0 = kk ∧ tk.agg = false then some (kk, es, n, z, ok) else none
        | _ => none
      | _, _ => none
    | _, _ => none
  | _ => none
/-- what a lookup hands on -/
def lkR (ok found : Bool) (v : SV) : SV := match ok with
  | false => v
  | true => match v with
    | .c c => .tup [(false, [c]), (false, [.bool (BE.of found)])]
    | .agg l => .tup [(true, l), (false, [.bool (BE.of found)])]
    | _ => .un
def lkS (n : Int) (K : Bool → SV → Prop) (z : C) : List (Int × SV) → Prop
  | [] => K false (.c z)
  | (a, v) :: l => (decide (n = a) = true → K true v) ∧ (decide (n = a) = false → lkS n K z l)
theorem lkS_in {n : Int} {K : Bool → SV → Prop} {z : C} : ∀ {es : List (Int × SV)} (_ : lkS n K z es) (_ : es.Pairwise (fun p q => p.1 ≠ q.1)) {j : Nat} {v : SV}, es[j]? = some (n, v) → K true v
  | (a, u) :: l, h, hd, 0, v, hj => by
    simp at hj
    obtain ⟨rfl, rfl⟩ := hj
    exact h.1 (by simp)
  | (a, u) :: l, h, hd, j + 1, v, hj => by
    rw [List.pairwise_cons] at hd
    have hj : l[j]? = some (n, v) := by simpa using hj
    have hne : a ≠ n := hd.1 (n, v) (List.mem_of_getElem? hj)
    exact lkS_in (h.2 (by simpa using Ne.symm hne)) hd.2 hj
  | [], _, _, _, _, hj => by simp at hj
theorem lkS_out {n : Int} {K : Bool → SV → Prop} {z : C} : ∀ {es : List (Int × SV)} (_ : lkS n K z es), (∀ p ∈ es, p.1 ≠ n) → K false (.c z)
  | [], h, _ => h
  | (a, u) :: l, h, hn => lkS_out (h.2 (by simpa using Ne.symm (hn (a, u) (by simp)))) (fun p hp => hn p (by simp [hp]))

theorem lmL_sound {ti : Nat → Option TI} (ht : TabOk P ti) {w0 : W0} {hp : List (Nat × Ob)} {nm : Nat → Prop} {η : Nat → Option Nat × Value} {w : World} (hH : RepH w0 hp nm η w)
    {g : Operand → SV} {ρ : Operand → Value} (hg : ∀ o, RS (cxS w0 hp nm η w) (g o) (ρ o)) {o : Oper} {kk : IntKind} {es : List (Int × SV)} {n : Int} {z : C} {ok : Bool} (h : lmL ti hp g o.op = some (kk, es, n, z, ok))
    (hwf : (Lit.int kk n).wf = true) {K : Bool → SV → Prop} (hK : lkS n K z es) : ∃ f sv v, K f sv ∧ RS (cxS w0 hp nm η w) (lkR ok f sv) v ∧ (execOp ρ o).run P w = .ok (.value v) w := by
  unfold lmL at h
  split at h
  · rename_i T m k ok' ho
    split at h
    · rename_i b kk' n' hm hk
      have hm' := hg m
      rw [hm] at hm'
      obtain ⟨_, r0, hr0, em⟩ := hm'
      have ek := hg k
      rw [hk] at ek
      have ek : ρ k = .int kk' n' := ek
      split at h
      · rename_i kt e kk0 _ _ _ _ T' kk1 es' hi hlk
        split at h
        · rename_i tk _ _ z' _ hie
          split at h
          · rename_i hc
            obtain ⟨rfl, rfl, rfl, hag⟩ := hc
            simp only [Option.some.injEq, Prod.mk.injEq] at h
            obtain ⟨rfl, rfl, rfl, rfl, rfl⟩ := h
            obtain ⟨hu, hB⟩ := tk_map (ht.is hi).tk
            have Kd := keyB_keyed hB
            obtain ⟨l, hl⟩ := keyB_of hB (y := n') hwf
            have hl : keyOf P kt (.int kk0 n') = some l := hl
            obtain ⟨zv, hz1, hz2, hz3⟩ := zero_sound ht hie
            obtain ⟨r, arr, g1, g2, g3, g4, g6, g7⟩ := hH.obs b _ hlk
            have hrr : r = r0 := by have : some r = some r0 := g1.symm.trans hr0; simpa using this
            subst hrr
            have g2 : w.heap[r]? = some (.map arr es'.length) := g2
            have hkeys : ∀ e ∈ arr.toList, ∃ l, keyOf P kt e.key = some l := by
              intro e he
              obtain ⟨i, hi⟩ := List.getElem?_of_mem he
              obtain ⟨p, hp, h1, _⟩ := RL.at_ g3 hi
              rw [h1]
              exact keyB_of hB (y := p.1) (g6 p (List.mem_of_getElem? hp))
            have fin : ∀ (f : Bool) (sv : SV) (v : Value), RS (cxS w0 hp nm η w) sv v → (∀ vs, sv ≠ .tup vs) → sv ≠ .un → RS (cxS w0 hp nm η w) (lkR ok' f sv) (if ok' = true then .tuple #[v, .bool f] else v) := by
              intro f sv v hv h1 h2
              cases ok' with
              | false => exact hv
              | true =>
                cases sv with
                | c c => exact ⟨_, rfl, ⟨_, rfl, hv⟩, ⟨_, rfl, by show Value.bool f = .bool (BE.of f).v; rw [BE.of_v]⟩, trivial⟩
                | agg l => exact ⟨_, rfl, hv, ⟨_, rfl, by show Value.bool f = .bool (BE.of f).v; rw [BE.of_v]⟩, trivial⟩
                | tup l => exact (h1 l rfl).elim
                | un => exact (h2 rfl).elim
                | arr d xs => exact trivial
            have any : ∀ (f : Bool) (sv : SV) (v : Value), RS (cxS w0 hp nm η w) sv v → ∃ u, RS (cxS w0 hp nm η w) (lkR ok' f sv) u ∧ u = (if ok' = true then .tuple #[v, .bool f] else v) := by
              intro f sv v hv
              refine ⟨_, ?_, rfl⟩
              cases sv with
              | c c => exact fin f _ v hv (by simp) (by simp)
              | agg l => exact fin f _ v hv (by simp) (by simp)
              | tup l => cases ok' with | false => exact hv | true => exact trivial
              | un => cases ok' <;> exact trivial
              | arr d xs => cases ok' with | false => exact hv | true => exact trivial
            rcases Kd.find w hl arr.toList hkeys with ⟨h1, h2⟩ | ⟨j, e, h1, h2, h3⟩
            · have hnot : ∀ p ∈ es', p.1 ≠ n' := by
                intro p hp he
                obtain ⟨i, hi⟩ := List.getElem?_of_mem hp
                obtain ⟨e, he1, he2, _⟩ := RL.get g3 hi
                exact h2 e (List.mem_of_getElem? he1) (by rw [he2, he])
              have hzc : RS (cxS w0 hp nm η w) (.c z') zv := by
                have hr := hz3 (cxS w0 hp nm η w)
                obtain ⟨u, us, hcs, hu1, hu2⟩ := rl_cons hr
                cases us with
                | cons _ _ => exact hu2.elim
                | nil =>
                  obtain ⟨j0, z0, hj0, hz0, hzz⟩ := (ht.is hie).zero
                  simp only [hag, Bool.false_eq_true, if_false] at hzz
                  have hzv : zv = z0 := by
                    have := hz1 w
                    simp [zeroValue, typeInfo, hj0, hz0] at this
                    exact this.symm
                  rw [hzv]
                  simp only [allIs, Bool.and_true] at hzz
                  exact rc_of_valIs hzz
              obtain ⟨u, hu1, hu2⟩ := any false (.c z') zv hzc
              refine ⟨false, _, u, lkS_out hK hnot, hu1, ?_⟩
              rw [hu2]
              simp only [execOp, ho, em, ek, Instr.lookup, Sem.run_bind, und_run hu, Result.andThen_ok, Go.MapKept.run_getObj_map g2, Sem.run_pure, Kd.check w _ hl, h1, hz1]
            · obtain ⟨p, hp, h4, h5⟩ := RL.at_ g3 h2
              have h6 : Value.int kk0 p.1 = .int kk0 n' := h4.symm.trans h3
              simp only [Value.int.injEq, true_and] at h6
              obtain ⟨u, hu1, hu2⟩ := any true p.2 e.val h5
              refine ⟨true, p.2, u, lkS_in hK g7 (j := j) (by rw [hp, ← h6]), hu1, ?_⟩
              rw [hu2]
              simp only [execOp, ho, em, ek, Instr.lookup, Sem.run_bind, und_run hu, Result.andThen_ok, Go.MapKept.run_getObj_map g2, Sem.run_pure, Kd.check w _ hl, h1]
          · cases h
        · cases h
      · cases h
    · cases h
  · cases h

end OE
