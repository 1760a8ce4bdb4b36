import Derived.WalkKit
import GoSem.Claim
import Derived.Maps.Keyed
import Derived.DeepKeys4
import Derived.Laws.Strings
/- OE, part 1: data, abstract cells and values, and what they stand for in a world. Own work; generic over the program. -/
namespace OE
open Go Go.RowKit

/-- the package's variables that hold texts, and what they hold (none; a program of the session puts a seat's own here) -/
def glS : Nat → Option (List (List UInt8))
  | 0 => some [[], [], [], [], [110], [110], [111], [105], [105], [105, 101], [105, 101], [116], [116, 110, 118], [116, 110, 119, 120], [116, 107], [116, 107], [114], [109], [116, 110], [116, 110], []]
  | 1 => some [[], [116], [105, 99], [116, 97, 98], [105], [105, 110, 119]]
  | _ => none
def glC (l : List (List UInt8)) : List Value := l.map fun s => .string ⟨s.toArray⟩

/-- Kinds of data: what a value in memory is read as. -/
inductive D where
  | int (k : IntKind) | bool | str | pair (a b : D) | list (a : D)
  deriving DecidableEq

@[reducible] def D.T : D → Type
  | .int _ => Int
  | .bool => Bool
  | .str => List UInt8
  | .pair a b => a.T × b.T
  | .list a => List a.T

def D.sz : D → Nat
  | .pair a b => a.sz + b.sz
  | _ => 1

theorem D.sz_pos : ∀ d : D, 0 < d.sz
  | .pair a b => by have := a.sz_pos; simp only [D.sz]; omega
  | .int _ | .bool | .str | .list _ => by simp [D.sz]

def D.df : (d : D) → d.T
  | .int _ => (0 : Int)
  | .bool => false
  | .str => ([] : List UInt8)
  | .pair a b => (a.df, b.df)
  | .list _ => []

/-- element i of a list of data -/
def gt {d : D} (xs : List d.T) (i : Int) : d.T := xs.getD i.toNat d.df

/-- a Bool: known, or not -/
inductive BE where
  | tt | ff | sym (b : Bool)
def BE.v : BE → Bool
  | .tt => true
  | .ff => false
  | .sym b => b
def BE.of : Bool → BE
  | true => .tt
  | false => .ff
def BE.not : BE → BE
  | .tt => .ff
  | .ff => .tt
  | .sym b => .sym (!b)
@[simp] theorem BE.v_sym (b : Bool) : (BE.sym b).v = b := rfl
@[simp] theorem BE.v_tt : BE.tt.v = true := rfl
@[simp] theorem BE.v_ff : BE.ff.v = false := rfl
theorem BE.of_v (b : Bool) : (BE.of b).v = b := by cases b <;> rfl
theorem BE.not_v (b : BE) : b.not.v = !b.v := by cases b <;> rfl

inductive C where
  | int (k : IntKind) (n : Int)
  | bool (b : BE)
  | str (s : List UInt8)
  | ptr (b off : Nat)
  | pel (d : D) (x : d.T) (off : Nat)
  | prw (b : Nat) (i : Int) (sz off : Nat)
  | row (b : Nat)
  | dat (d : D) (xs : List d.T)
  | val (v : Value)
  | fn (f : FuncId) (caps : List (Nat × Nat))
  | bm (f : FuncId) (b off : Nat)
  | mp (b : Nat)
  | csl (b n : Nat)
  | sub (b o sz n c : Nat)
  | glb (g : Nat)

inductive SV where
  | c (x : C)
  | agg (l : List C)
  | tup (l : List (Bool × List C))
  | un

inductive Ob where
  | cells (T : TypeId) (l : List C)
  | row (T : TypeId) (d : D) (xs : List d.T)
  | lmp (T : TypeId) (k : IntKind) (es : List (Int × SV))
  | dmp (T : TypeId) (kd vd : D) (es : List (kd.T × vd.T))
  | itr (m n : Nat) (seen : List Nat)
  | wid (T : TypeId) (d : D) (xs : List d.T) (c : Nat)

/-- the cells of plain data -/
def D.vs : (d : D) → d.T → List Value
  | .int k, n => [.int k n]
  | .bool, b => [.bool b]
  | .str, s => [.string ⟨s.toArray⟩]
  | .pair a b, p => a.vs p.1 ++ b.vs p.2
  | .list _, _ => []
/-- plain data as one value -/
def D.v : (d : D) → d.T → Value
  | .int k, n => .int k n
  | .bool, b => .bool b
  | .str, s => .string ⟨s.toArray⟩
  | .pair a b, p => .agg ((D.pair a b).vs p).toArray
  | .list _, _ => .slice none 0 0
/-- what may be a key -/
def D.ok : (d : D) → d.T → Prop
  | .int k, n => (Lit.int k n).wf = true
  | .bool, _ => True
  | .str, s => s.length ≤ 9223372036854775807
  | .pair a b, p => a.ok p.1 ∧ b.ok p.2
  | .list _, _ => False

/-- no lists inside -/
def D.plain : D → Bool
  | .pair a b => a.plain && b.plain
  | .list _ => false
  | _ => true

/-- the cells of a datum, as abstract cells -/
def D.cs : (d : D) → d.T → List C
  | .int k, n => [.int k n]
  | .bool, b => [.bool (.sym b)]
  | .str, s => [.str s]
  | .pair a b, p => a.cs p.1 ++ b.cs p.2
  | .list a, xs => [.dat a xs]

def C.asList (a : D) : C → Option (List a.T)
  | .dat a' xs => if h : a' = a then some (h ▸ xs) else none
  | .val (.slice none 0 0) => some []
  | _ => none

theorem C.asList_dat (a : D) (xs : List a.T) : (C.dat a xs).asList a = some xs := by simp [C.asList]

/-- a datum out of abstract cells -/
def D.ps : (d : D) → List C → Option (d.T × List C)
  | .int k, .int k' n :: l => if k = k' then some (n, l) else none
  | .bool, .bool b :: l => some (b.v, l)
  | .str, .str s :: l => some (s, l)
  | .pair a b, l => match a.ps l with
    | some (x, l) => match b.ps l with
      | some (y, l) => some ((x, y), l)
      | none => none
    | none => none
  | .list a, c :: l => match c.asList a with
    | some xs => some (xs, l)
    | none => none
  | _, _ => none

/-! ### what they stand for -/

structure Cx where
  w : World
  η : Nat → Option Nat × Value
  ok : Nat → Prop
  nm : Nat → Prop

def RL {α β : Type} (R : α → β → Prop) : List α → List β → Prop
  | [], [] => True
  | a :: as, b :: bs => R a b ∧ RL R as bs
  | _, _ => False

/-- a list of data stands one behind the other in cells -/
def RdF {α : Type} (R : α → List Value → Prop) : List α → List Value → Prop
  | [], cs => cs = []
  | x :: xs, cs => ∃ c1 c2, cs = c1 ++ c2 ∧ R x c1 ∧ RdF R xs c2

/-- what a row reads as, from an address on -/
def RdAt {α : Type} (w : World) (ok : Nat → Prop) (R : α → List Value → Prop) (sz : Nat) (A : Option Addr) (xs : List α) : Prop :=
  xs = [] ∨ ∃ k off cells T fz, A = some ⟨k, off, none⟩ ∧ ok k ∧ w.heap[k]? = some (.cells cells T fz) ∧
    RdF R xs ((cells.toList.drop off).take (xs.length * sz))

def Rd (w : World) (ok : Nat → Prop) : (d : D) → d.T → List Value → Prop
  | .int k, n, cs => cs = [.int k n]
  | .bool, b, cs => cs = [.bool b]
  | .str, s, cs => cs = [.string ⟨s.toArray⟩]
  | .pair a b, p, cs => ∃ c1 c2, cs = c1 ++ c2 ∧ Rd w ok a p.1 c1 ∧ Rd w ok b p.2 c2
  | .list a, xs, cs => ∃ A c, cs = [.slice A xs.length c] ∧ xs.length ≤ c ∧ c ≤ maxLen ∧ (A = none → c = 0) ∧ RdAt w ok (Rd w ok a) a.sz A xs

def RC (x : Cx) : C → Value → Prop
  | .int k n, v => v = .int k n
  | .bool b, v => v = .bool b.v
  | .str s, v => v = .string ⟨s.toArray⟩
  | .ptr b off, v => x.nm b ∧ ∃ k, (x.η b).1 = some k ∧ v = .pointer (some ⟨k, off, none⟩)
  | .pel d y off, v => ∃ k o cells T fz cs, v = .pointer (some ⟨k, o + off, none⟩) ∧ x.ok k ∧ x.w.heap[k]? = some (.cells cells T fz) ∧
      Rd x.w x.ok d y cs ∧ (cells.toList.drop o).take d.sz = cs
  | .prw b i sz off, v => x.nm b ∧ ∃ k, (x.η b).1 = some k ∧ v = .pointer (some ⟨k, i.toNat * sz + off, none⟩)
  | .row b, v => x.nm b ∧ v = (x.η b).2 ∧ ∃ A n c, v = .slice A n c
  | .dat d xs, v => Rd x.w x.ok (.list d) xs [v]
  | .val u, v => v = u ∧ u.oneCell' = true
  | .fn f caps, v => ∃ vs, v = .func (.func f) #[] vs ∧ RL (fun (p : Nat × Nat) u => x.nm p.1 ∧ ∃ k, (x.η p.1).1 = some k ∧ u = .pointer (some ⟨k, p.2, none⟩)) caps vs.toList
  | .bm f b off, v => x.nm b ∧ ∃ k, (x.η b).1 = some k ∧ v = .func (.func f) #[.pointer (some ⟨k, off, none⟩)] #[]
  | .mp b, v => x.nm b ∧ ∃ k, (x.η b).1 = some k ∧ v = .map (some k)
  | .csl b n, v => x.nm b ∧ ∃ k, (x.η b).1 = some k ∧ v = .slice (some ⟨k, 0, none⟩) n n
  | .glb g, v => v = .pointer (some ⟨g, 0, none⟩)
  | .sub b o sz n c, v => x.nm b ∧ n ≤ c ∧ c ≤ maxLen ∧ ∃ k o', (x.η b).1 = some k ∧ v = .slice (some ⟨k, o', none⟩) n c ∧ ((0 < c ∨ o = 0) → o' = o * sz)

def RP (x : Cx) (p : Bool × List C) (v : Value) : Prop :=
  if p.1 then ∃ vs, v = .agg vs ∧ RL (RC x) p.2 vs.toList else ∃ y, p.2 = [y] ∧ RC x y v

def RS (x : Cx) : SV → Value → Prop
  | .c y, v => RC x y v
  | .agg l, v => ∃ vs, v = .agg vs ∧ RL (RC x) l vs.toList
  | .tup l, v => ∃ vs, v = .tuple vs ∧ RL (RP x) l vs.toList
  | .un, _ => True

def RO (x : Cx) (b : Nat) : Ob → Prop
  | .cells T l => ∃ k vs, (x.η b).1 = some k ∧ x.w.heap[k]? = some (.cells vs T (0, 0)) ∧ RL (RC x) l vs.toList
  | .row T d xs => ∃ cs, (x.η b).1 = (x.η b).2.ownBlock ∧ x.w.ownsRow 0 T d.sz (x.η b).2 xs.length cs ∧ RdF (Rd x.w x.ok d) xs cs
  | .lmp _ k es => ∃ r arr, (x.η b).1 = some r ∧ x.w.heap[r]? = some (.map arr es.length) ∧ RL (fun p (e : MapEntry) => e.key = .int k p.1 ∧ RS x p.2 e.val) es arr.toList ∧ (∀ (i : Nat) (e : MapEntry), arr[i]? = some e → e.born = i) ∧ (∀ p ∈ es, (Lit.int k p.1).wf = true) ∧ es.Pairwise (fun p q => p.1 ≠ q.1)
  | .dmp _ kd vd es => ∃ r arr, (x.η b).1 = some r ∧ x.w.heap[r]? = some (.map arr es.length) ∧ RL (fun p (e : MapEntry) => e.key = kd.v p.1 ∧ e.val = vd.v p.2) es arr.toList ∧ (∀ (i : Nat) (e : MapEntry), arr[i]? = some e → e.born = i) ∧ es.Pairwise (fun p q => p.1 ≠ q.1) ∧ ∀ p ∈ es, kd.ok p.1
  | .wid T d xs c => ∃ k cur, (x.η b).1 = some k ∧ x.w.heap[k]? = some (.cells cur T (0, 0)) ∧ cur.size = c * d.sz ∧ xs.length ≤ c ∧ c ≤ maxLen ∧ RdF (Rd x.w x.ok d) xs (cur.toList.take (xs.length * d.sz))
  | .itr m n seen => ∃ r q, (x.η b).1 = some r ∧ x.nm m ∧ (x.η m).1 = some q ∧ x.w.heap[r]? = some (.mapIter (some q) n seen.toArray n)

/-! ### association lists -/

def lk {α : Type} : List (Nat × α) → Nat → Option α
  | [], _ => none
  | (k, v) :: l, n => if n = k then some v else lk l n

def rm {α : Type} : List (Nat × α) → Nat → List (Nat × α)
  | [], _ => []
  | (k, v) :: l, n => if n = k then rm l n else (k, v) :: rm l n

theorem lk_rm {α : Type} : ∀ (l : List (Nat × α)) (n m : Nat), lk (rm l n) m = if m = n then none else lk l m
  | [], n, m => by simp [rm, lk]
  | (k, v) :: l, n, m => by
    simp only [rm]
    by_cases h : n = k
    · subst h
      rw [if_pos rfl, lk_rm l n m]
      by_cases hm : m = n
      · simp [hm]
      · simp [hm, lk]
    · rw [if_neg h]
      simp only [lk, lk_rm l n m]
      by_cases hm : m = k
      · subst hm
        simp [Ne.symm h]
      · simp [hm]

structure St where
  fr : List (Nat × SV)
  hp : List (Nat × Ob)
  nx : Nat

/-- the world at the call, and what of it may be read -/
structure W0 where
  w : World
  ok : Nat → Prop
  own : Nat → Prop
/-- what was there and was not given away -/
def W0.old (w0 : W0) (k : Nat) : Prop := k < w0.w.heap.size ∧ ¬ w0.own k
theorem W0.new {w0 : W0} {k : Nat} (h : w0.w.heap.size ≤ k) : ¬ w0.old k := fun h' => Nat.not_lt.2 h h'.1
/-- the package's variables are there, as told -/
def GOk (w0 : W0) : Prop := ∀ g l, glS g = some l → w0.old g ∧ w0.ok g ∧ ∃ arr T fz, w0.w.heap[g]? = some (.cells arr T fz) ∧ arr.toList = glC l
/-- what was there is as it was, but for what was given away -/
structure BelO (w0 : W0) (w : World) : Prop where
  os : w.os = w0.w.os
  tape : w.tape = w0.w.tape
  output : w.output = w0.w.output
  size : w0.w.heap.size ≤ w.heap.size
  block : ∀ k, w0.old k → w.heap[k]? = w0.w.heap[k]?
  gl : GOk w0
theorem BelO.refl (w0 : W0) (h : GOk w0) : BelO w0 w0.w := ⟨rfl, rfl, rfl, Nat.le_refl _, fun _ _ => rfl, h⟩
theorem BelO.trans {w0 : W0} {w w' : World} (h : BelO w0 w) (h1 : w'.os = w.os) (h2 : w'.tape = w.tape) (h3 : w'.output = w.output) (h4 : w.heap.size ≤ w'.heap.size) (h5 : ∀ k, w0.old k → w'.heap[k]? = w.heap[k]?) : BelO w0 w' :=
  ⟨h1.trans h.os, h2.trans h.tape, h3.trans h.output, Nat.le_trans h.size h4, fun k hk => (h5 k hk).trans (h.block k hk), h.gl⟩
theorem BelO.below {w0 : W0} {w w' : World} (h : BelO w0 w) (hb : Below w.heap.size w w') : BelO w0 w' :=
  h.trans hb.os hb.tape hb.output hb.size fun k hk => hb.block k (Nat.lt_of_lt_of_le hk.1 h.size)
/-- where nothing was given away -/
theorem BelO.out {w0 : W0} {w : World} (h : BelO w0 w) (hn : ∀ k, ¬ w0.own k) : Below w0.w.heap.size w0.w w :=
  ⟨h.os, h.tape, h.output, h.size, fun k hk => h.block k ⟨hk, hn k⟩⟩

def okS (w0 : W0) (hp : List (Nat × Ob)) (η : Nat → Option Nat × Value) (w : World) (k : Nat) : Prop :=
  (k < w.heap.size ∧ (w0.old k → w0.ok k)) ∧ ∀ b, lk hp b ≠ none → (η b).1 ≠ some k

def cxS (w0 : W0) (hp : List (Nat × Ob)) (nx : Nat → Prop) (η : Nat → Option Nat × Value) (w : World) : Cx := ⟨w, η, okS w0 hp η w, nx⟩

/-- the names below a bound -/
def lt (n : Nat) : Nat → Prop := fun b => b < n

/-- the heap's part -/
structure RepH (w0 : W0) (hp : List (Nat × Ob)) (nx : Nat → Prop) (η : Nat → Option Nat × Value) (w : World) : Prop where
  obs : ∀ b o, lk hp b = some o → RO (cxS w0 hp nx η w) b o
  sep : ∀ b c k, lk hp b ≠ none → lk hp c ≠ none → (η b).1 = some k → (η c).1 = some k → b = c
  new : ∀ b k, lk hp b ≠ none → (η b).1 = some k → ¬ w0.old k ∧ k < w.heap.size
  nxt : ∀ b, lk hp b ≠ none → nx b
  bel : BelO w0 w

/-- the variables, at a call -/
theorem GOk.inn {w0 : W0} {hp : List (Nat × Ob)} {nx : Nat → Prop} {η : Nat → Option Nat × Value} {w : World} {own : Nat → Prop} (hH : RepH w0 hp nx η w) (ho : ∀ k, own k → ∃ b, lk hp b ≠ none ∧ (η b).1 = some k) : GOk ⟨w, okS w0 hp η w, own⟩ := fun g l hg => by
  obtain ⟨h1, h2, arr, T, fz, h3, h4⟩ := hH.bel.gl g l hg
  have hlt : g < w.heap.size := Nat.lt_of_lt_of_le h1.1 hH.bel.size
  exact ⟨⟨hlt, fun h => by obtain ⟨b, hb, e⟩ := ho g h; exact (hH.new b g hb e).1 h1⟩, ⟨⟨hlt, fun _ => h2⟩, fun b hb e => (hH.new b g hb e).1 h1⟩, arr, T, fz, by show w.heap[g]? = _; rw [hH.bel.block g h1]; exact h3, h4⟩
/-- what may be read of a world, and that the variables are there -/
structure OkW (w : World) (ok : Nat → Prop) : Prop where
  lt : ∀ k, ok k → k < w.heap.size
  gl : GOk ⟨w, ok, fun _ => False⟩
theorem OkW.of {w0 : W0} {hp : List (Nat × Ob)} {nx : Nat → Prop} {η : Nat → Option Nat × Value} {w : World} (hH : RepH w0 hp nx η w) : OkW w (okS w0 hp η w) := ⟨fun _ hk => hk.1.1, GOk.inn hH fun _ h => h.elim⟩
theorem OkW.all {w0 : W0} {hp : List (Nat × Ob)} {nx : Nat → Prop} {η : Nat → Option Nat × Value} {w : World} (hH : RepH w0 hp nx η w) : OkW w (fun k => k < w.heap.size) :=
  ⟨fun _ h => h, fun g l hg => by
    obtain ⟨h1, _, h3⟩ := (OkW.of hH).gl g l hg
    exact ⟨h1, h1.1, h3⟩⟩
theorem OkW.below {w w' : World} {ok : Nat → Prop} (h : OkW w ok) (hb : Below w.heap.size w w') : OkW w' ok :=
  ⟨fun k hk => Nat.lt_of_lt_of_le (h.lt k hk) hb.size, fun g l hg => by
    obtain ⟨h1, h2, arr, T, fz, h3, h4⟩ := h.gl g l hg
    exact ⟨⟨Nat.lt_of_lt_of_le h1.1 hb.size, id⟩, h2, arr, T, fz, by show w'.heap[g]? = _; rw [hb.block g h1.1]; exact h3, h4⟩⟩

/-- only what is looked up counts -/
theorem okS_congr {w0 : W0} {hp hp' : List (Nat × Ob)} (h : ∀ b, lk hp' b = lk hp b) (η : Nat → Option Nat × Value) (w : World) : okS w0 hp' η w = okS w0 hp η w := by
  funext k
  simp only [okS, h]
theorem RepH.congr {w0 : W0} {hp hp' : List (Nat × Ob)} {nx : Nat → Prop} {η : Nat → Option Nat × Value} {w : World} (h : ∀ b, lk hp' b = lk hp b) (hH : RepH w0 hp nx η w) : RepH w0 hp' nx η w := by
  refine ⟨fun b o ho => ?_, fun b c k h1 h2 => hH.sep b c k (by rw [← h]; exact h1) (by rw [← h]; exact h2), fun b k h1 => hH.new b k (by rw [← h]; exact h1), fun b h1 => hH.nxt b (by rw [← h]; exact h1), hH.bel⟩
  have := hH.obs b o (by rw [← h]; exact ho)
  unfold cxS at this ⊢
  rw [okS_congr h]
  exact this

/-- a frame's part -/
structure RepF (x : Cx) (nt : Nat) (fr : List (Nat × SV)) (a : Act) : Prop where
  sl : ∀ t sv, lk fr t = some sv → ∃ v, a.tmps[t]? = some v ∧ RS x sv v
  siz : a.tmps.size = nt
  dfr : a.defers = []

/-! ### what is kept -/

structure Cx.le (x y : Cx) : Prop where
  eta : ∀ b, x.nm b → y.η b = x.η b
  nm : ∀ b, x.nm b → y.nm b
  ok : ∀ k, x.ok k → y.ok k
  heap : ∀ k, x.ok k → y.w.heap[k]? = x.w.heap[k]?

theorem Cx.le.refl (x : Cx) : x.le x := ⟨fun _ _ => rfl, fun _ h => h, fun _ h => h, fun _ _ => rfl⟩
theorem Cx.le.trans {x y z : Cx} (h : x.le y) (k : y.le z) : x.le z :=
  ⟨fun b hb => (k.eta b (h.nm b hb)).trans (h.eta b hb), fun b hb => k.nm b (h.nm b hb), fun b hb => k.ok b (h.ok b hb),
   fun b hb => (k.heap b (h.ok b hb)).trans (h.heap b hb)⟩

theorem RL.imp {α β : Type} {R R' : α → β → Prop} (h : ∀ a b, R a b → R' a b) : ∀ {l : List α} {m : List β}, RL R l m → RL R' l m
  | [], [], _ => trivial
  | _ :: _, _ :: _, ⟨h1, h2⟩ => ⟨h _ _ h1, RL.imp h h2⟩
  | [], _ :: _, h => h.elim
  | _ :: _, [], h => h.elim

theorem RL.len {α β : Type} {R : α → β → Prop} : ∀ {l : List α} {m : List β}, RL R l m → l.length = m.length
  | [], [], _ => rfl
  | _ :: _, _ :: _, h => by simp [RL.len h.2]
  | [], _ :: _, h => h.elim
  | _ :: _, [], h => h.elim

theorem RL.get {α β : Type} {R : α → β → Prop} : ∀ {l : List α} {m : List β} (_ : RL R l m) {i : Nat} {a : α}, l[i]? = some a → ∃ b, m[i]? = some b ∧ R a b
  | [], [], _, i, a, hi => by simp at hi
  | x :: xs, y :: ys, h, 0, a, hi => by simp at hi; subst hi; exact ⟨y, rfl, h.1⟩
  | x :: xs, y :: ys, h, i + 1, a, hi => by simpa using RL.get h.2 (by simpa using hi)
  | [], _ :: _, h, _, _, _ => h.elim
  | _ :: _, [], h, _, _, _ => h.elim

theorem RL.app {α β : Type} {R : α → β → Prop} : ∀ {l l' : List α} {m m' : List β}, RL R l m → RL R l' m' → RL R (l ++ l') (m ++ m')
  | [], _, [], _, _, h => h
  | _ :: _, _, _ :: _, _, ⟨h1, h2⟩, h => ⟨h1, RL.app h2 h⟩
  | [], _, _ :: _, _, h, _ => h.elim
  | _ :: _, _, [], _, h, _ => h.elim

theorem RL.drop {α β : Type} {R : α → β → Prop} : ∀ (n : Nat) {l : List α} {m : List β}, RL R l m → RL R (l.drop n) (m.drop n)
  | 0, _, _, h => h
  | n + 1, [], [], h => h
  | n + 1, _ :: _, _ :: _, h => by simpa using RL.drop n h.2
  | _ + 1, [], _ :: _, h => h.elim
  | _ + 1, _ :: _, [], h => h.elim

theorem RL.take {α β : Type} {R : α → β → Prop} : ∀ (n : Nat) {l : List α} {m : List β}, RL R l m → RL R (l.take n) (m.take n)
  | 0, _, _, _ => by simp [RL]
  | n + 1, [], [], h => h
  | n + 1, _ :: _, _ :: _, h => by simpa [RL] using ⟨h.1, RL.take n h.2⟩
  | _ + 1, [], _ :: _, h => h.elim
  | _ + 1, _ :: _, [], h => h.elim

theorem RL.set {α β : Type} {R : α → β → Prop} {a : α} {b : β} (hab : R a b) : ∀ (n : Nat) {l : List α} {m : List β}, RL R l m → RL R (l.set n a) (m.set n b)
  | 0, _ :: _, _ :: _, h => ⟨hab, h.2⟩
  | n + 1, _ :: _, _ :: _, h => ⟨h.1, RL.set hab n h.2⟩
  | _, [], [], h => by simpa using h
  | _, [], _ :: _, h => h.elim
  | _, _ :: _, [], h => h.elim

theorem Rd.len {w : World} {ok : Nat → Prop} : ∀ {d : D} {x : d.T} {cs : List Value}, Rd w ok d x cs → cs.length = d.sz
  | .int _, _, _, h => by simp only [Rd] at h; subst h; rfl
  | .bool, _, _, h => by simp only [Rd] at h; subst h; rfl
  | .str, _, _, h => by simp only [Rd] at h; subst h; rfl
  | .pair a b, _, _, h => by
    simp only [Rd] at h
    obtain ⟨c1, c2, rfl, h1, h2⟩ := h
    simp [D.sz, Rd.len h1, Rd.len h2]
  | .list _, _, _, h => by
    simp only [Rd] at h
    obtain ⟨A, c, rfl, _⟩ := h
    rfl

theorem RdF.imp {α : Type} {R R' : α → List Value → Prop} (h : ∀ x cs, R x cs → R' x cs) : ∀ {xs : List α} {cs : List Value}, RdF R xs cs → RdF R' xs cs
  | [], _, e => e
  | _ :: _, _, ⟨c1, c2, e, h1, h2⟩ => ⟨c1, c2, e, h _ _ h1, RdF.imp h h2⟩

theorem RdF.app {α : Type} {R : α → List Value → Prop} : ∀ {xs ys : List α} {cs ds : List Value}, RdF R xs cs → RdF R ys ds → RdF R (xs ++ ys) (cs ++ ds)
  | [], _, _, _, e, h => by simp only [RdF] at e; subst e; exact h
  | _ :: _, _, _, _, ⟨c1, c2, e, h1, h2⟩, h => ⟨c1, c2 ++ _, by rw [e, List.append_assoc], h1, RdF.app h2 h⟩

theorem RdF.len {α : Type} {R : α → List Value → Prop} {sz : Nat} (hs : ∀ x cs, R x cs → cs.length = sz) : ∀ {xs : List α} {cs : List Value}, RdF R xs cs → cs.length = xs.length * sz
  | [], _, e => by simp only [RdF] at e; subst e; simp
  | x :: xs, _, ⟨c1, c2, e, h1, h2⟩ => by
    subst e
    rw [List.length_append, hs _ _ h1, RdF.len hs h2, List.length_cons, Nat.add_mul, Nat.one_mul, Nat.add_comm]

theorem RdF.get {α : Type} {R : α → List Value → Prop} {sz : Nat} (hs : ∀ x cs, R x cs → cs.length = sz) : ∀ {xs : List α} {cs : List Value}, RdF R xs cs → ∀ {i : Nat} {x : α}, xs[i]? = some x → R x ((cs.drop (i * sz)).take sz)
  | [], _, _, i, x, hi => by simp at hi
  | y :: xs, _, ⟨c1, c2, e, h1, h2⟩, 0, x, hi => by
    simp at hi
    subst hi
    subst e
    have := hs _ _ h1
    simpa [List.take_append, this, List.take_of_length_le] using h1
  | y :: xs, _, ⟨c1, c2, e, h1, h2⟩, i + 1, x, hi => by
    subst e
    have h := hs _ _ h1
    have := RdF.get hs h2 (i := i) (x := x) (by simpa using hi)
    have e : (c1 ++ c2).drop ((i + 1) * sz) = c2.drop (i * sz) := by
      rw [Nat.add_mul, Nat.one_mul, Nat.add_comm, List.drop_append, h]
      simp [List.drop_of_length_le, h]
    rw [e]
    exact this

theorem RdF.drop {α : Type} {R : α → List Value → Prop} {sz : Nat} (hs : ∀ x cs, R x cs → cs.length = sz) : ∀ (n : Nat) {xs : List α} {cs : List Value}, RdF R xs cs → RdF R (xs.drop n) (cs.drop (n * sz))
  | 0, _, _, h => by simpa using h
  | n + 1, [], _, h => by simp only [RdF] at h; subst h; simp [RdF]
  | n + 1, y :: xs, _, ⟨c1, c2, e, h1, h2⟩ => by
    subst e
    have h := hs _ _ h1
    have e : (c1 ++ c2).drop ((n + 1) * sz) = c2.drop (n * sz) := by
      rw [Nat.add_mul, Nat.one_mul, Nat.add_comm, List.drop_append, h]
      simp [List.drop_of_length_le, h]
    rw [e]
    exact RdF.drop hs n h2

theorem RdF.take {α : Type} {R : α → List Value → Prop} {sz : Nat} (hs : ∀ x cs, R x cs → cs.length = sz) : ∀ (n : Nat) {xs : List α} {cs : List Value}, RdF R xs cs → RdF R (xs.take n) (cs.take (n * sz))
  | 0, _, _, h => by simp [RdF]
  | n + 1, [], _, h => by simp only [RdF] at h; subst h; simp [RdF]
  | n + 1, y :: xs, _, ⟨c1, c2, e, h1, h2⟩ => by
    subst e
    have h := hs _ _ h1
    refine ⟨c1, c2.take (n * sz), ?_, h1, RdF.take hs n h2⟩
    rw [Nat.add_mul, Nat.one_mul, Nat.add_comm, List.take_append, h]
    simp [List.take_of_length_le, h]

theorem Rd.mono {w w' : World} {ok ok' : Nat → Prop} (ho : ∀ k, ok k → ok' k) (hh : ∀ k, ok k → w'.heap[k]? = w.heap[k]?) :
    ∀ {d : D} {x : d.T} {cs : List Value}, Rd w ok d x cs → Rd w' ok' d x cs
  | .int _, _, _, h => h
  | .bool, _, _, h => h
  | .str, _, _, h => h
  | .pair a b, _, _, h => by
    simp only [Rd] at h ⊢
    obtain ⟨c1, c2, e, h1, h2⟩ := h
    exact ⟨c1, c2, e, Rd.mono ho hh h1, Rd.mono ho hh h2⟩
  | .list a, _, _, h => by
    simp only [Rd] at h ⊢
    obtain ⟨A, c, e, hc, hm, hn, hr⟩ := h
    refine ⟨A, c, e, hc, hm, hn, ?_⟩
    rcases hr with hr | ⟨k, off, cells, T, fz, hA, hk, hb, hx⟩
    · exact .inl hr
    · exact .inr ⟨k, off, cells, T, fz, hA, ho k hk, (hh k hk).trans hb, RdF.imp (fun _ _ h => Rd.mono ho hh h) hx⟩

theorem RC.mono {x y : Cx} (h : x.le y) : ∀ {c : C} {v : Value}, RC x c v → RC y c v
  | .int _ _, _, h' => h'
  | .bool _, _, h' => h'
  | .str _, _, h' => h'
  | .ptr b off, _, ⟨h1, k, h2, h3⟩ => ⟨h.nm _ h1, k, by rw [h.eta b h1]; exact h2, h3⟩
  | .pel d _ off, _, ⟨k, o, cells, T, fz, cs, h1, h2, h3, h4, h5⟩ => ⟨k, o, cells, T, fz, cs, h1, h.ok k h2, (h.heap k h2).trans h3, Rd.mono h.ok h.heap h4, h5⟩
  | .prw b _ _ _, _, ⟨h1, k, h2, h3⟩ => ⟨h.nm _ h1, k, by rw [h.eta b h1]; exact h2, h3⟩
  | .row b, _, ⟨h1, h2, h3⟩ => ⟨h.nm _ h1, by rw [h.eta b h1]; exact h2, h3⟩
  | .dat d _, _, h' => by
    have h' : Rd x.w x.ok (.list d) _ _ := h'
    exact (Rd.mono h.ok h.heap h' : Rd y.w y.ok (.list d) _ _)
  | .val _, _, h' => h'
  | .fn f caps, _, ⟨vs, e, h'⟩ => ⟨vs, e, RL.imp (fun p u ⟨h1, k, h2, h3⟩ => ⟨h.nm _ h1, k, by rw [h.eta _ h1]; exact h2, h3⟩) h'⟩
  | .bm f b off, _, ⟨h1, k, h2, h3⟩ => ⟨h.nm _ h1, k, by rw [h.eta b h1]; exact h2, h3⟩
  | .mp b, _, ⟨h1, k, h2, h3⟩ => ⟨h.nm _ h1, k, by rw [h.eta b h1]; exact h2, h3⟩
  | .csl b _, _, ⟨h1, k, h2, h3⟩ => ⟨h.nm _ h1, k, by rw [h.eta b h1]; exact h2, h3⟩
  | .glb _, _, h' => h'
  | .sub b _ _ _ _, _, ⟨h1, g1, g2, k, o', h2, h3⟩ => ⟨h.nm _ h1, g1, g2, k, o', by rw [h.eta b h1]; exact h2, h3⟩

theorem RP.mono {x y : Cx} (h : x.le y) {p : Bool × List C} {v : Value} (h' : RP x p v) : RP y p v := by
  unfold RP at *
  by_cases hp : p.1 = true
  · rw [if_pos hp] at h' ⊢
    obtain ⟨vs, e, hl⟩ := h'
    exact ⟨vs, e, RL.imp (fun _ _ => RC.mono h) hl⟩
  · rw [if_neg hp] at h' ⊢
    obtain ⟨z, e, hl⟩ := h'
    exact ⟨z, e, RC.mono h hl⟩

theorem RS.mono {x y : Cx} (h : x.le y) : ∀ {s : SV} {v : Value}, RS x s v → RS y s v
  | .c _, _, h' => RC.mono (x := x) h h'
  | .agg _, _, ⟨vs, e, hl⟩ => ⟨vs, e, RL.imp (fun _ _ => RC.mono h) hl⟩
  | .tup _, _, ⟨vs, e, hl⟩ => ⟨vs, e, RL.imp (fun _ _ => RP.mono h) hl⟩
  | .un, _, _ => trivial

theorem RO.mono {x y : Cx} (h : x.le y) {b : Nat} (hb : x.nm b) (hk : ∀ k, (x.η b).1 = some k → y.w.heap[k]? = x.w.heap[k]?) : ∀ {o : Ob}, RO x b o → RO y b o
  | .cells T l, ⟨k, vs, h1, h2, h3⟩ => ⟨k, vs, by rw [h.eta b hb]; exact h1, (hk k h1).trans h2, RL.imp (fun _ _ => RC.mono h) h3⟩
  | .lmp T k es, ⟨r, arr, h1, h2, h3, h4⟩ => ⟨r, arr, by rw [h.eta b hb]; exact h1, (hk r h1).trans h2, RL.imp (fun _ _ ⟨g1, g2⟩ => ⟨g1, RS.mono h g2⟩) h3, h4⟩
  | .dmp T kd vd es, ⟨r, arr, h1, h2, h3, h4⟩ => ⟨r, arr, by rw [h.eta b hb]; exact h1, (hk r h1).trans h2, h3, h4⟩
  | .wid T d xs c, ⟨k, cur, h1, h2, h3, h4, h5, h6⟩ => ⟨k, cur, by rw [h.eta b hb]; exact h1, (hk k h1).trans h2, h3, h4, h5, RdF.imp (fun _ _ => Rd.mono h.ok h.heap) h6⟩
  | .itr m n seen, ⟨r, q, h1, h2, h3, h4⟩ => ⟨r, q, by rw [h.eta b hb]; exact h1, h.nm _ h2, by rw [h.eta m h2]; exact h3, (hk r h1).trans h4⟩
  | .row T d xs, ⟨cs, h1, h2, h3⟩ => by
    refine ⟨cs, by rw [h.eta b hb]; exact h1, ?_, RdF.imp (fun _ _ => Rd.mono h.ok h.heap) h3⟩
    rw [h.eta b hb]
    refine ⟨h2.1, ?_⟩
    rcases h2.2 with hn | ⟨g, cap, cur, hv, hb0, hg, hr⟩
    · exact .inl hn
    · exact .inr ⟨g, cap, cur, hv, hb0, (hk g (by rw [h1, hv]; rfl)).trans hg, hr⟩

theorem RepF.mono {x y : Cx} (h : x.le y) {nt : Nat} {fr : List (Nat × SV)} {a : Act} (h' : RepF x nt fr a) : RepF y nt fr a :=
  ⟨fun t sv ht => let ⟨v, h1, h2⟩ := h'.sl t sv ht; ⟨v, h1, RS.mono h h2⟩, h'.siz, h'.dfr⟩

/-- memory is made, nothing that was there is turned -/
theorem cx_below {w0 : W0} {hp : List (Nat × Ob)} {nx : Nat → Prop} {η : Nat → Option Nat × Value} {w w' : World} (h : Below w.heap.size w w') : (cxS w0 hp nx η w).le (cxS w0 hp nx η w') :=
  ⟨fun _ _ => rfl, fun _ h => h, fun _ ⟨h1, h2⟩ => ⟨⟨Nat.lt_of_lt_of_le h1.1 h.size, h1.2⟩, h2⟩, fun k ⟨h1, _⟩ => h.block k h1.1⟩

theorem RepH.below {w0 : W0} {hp : List (Nat × Ob)} {nx : Nat → Prop} {η : Nat → Option Nat × Value} {w w' : World} (h : RepH w0 hp nx η w) (hb : Below w.heap.size w w') : RepH w0 hp nx η w' :=
  ⟨fun b o ho => RO.mono (cx_below hb) (h.nxt b (by rw [ho]; simp)) (fun k hk => hb.block k (h.new b k (by rw [ho]; simp) hk).2) (h.obs b o ho),
   h.sep, fun b k h1 h2 => let ⟨p, q⟩ := h.new b k h1 h2; ⟨p, Nat.lt_of_lt_of_le q hb.size⟩, h.nxt, h.bel.below hb⟩

end OE

/- OE, part 3a: plain data as keys and values of maps: told equal, found, put. Own work. -/
set_option linter.unusedVariables false
namespace OE
open Go Go.RowKit

def eqL {α : Type} (f : α → α → Bool) : List α → List α → Bool
  | [], [] => true
  | a :: l, b :: m => f a b && eqL f l m
  | _, _ => false
theorem eqL_iff {α : Type} {f : α → α → Bool} (h : ∀ a b, f a b = true ↔ a = b) : ∀ {l m : List α}, eqL f l m = true ↔ l = m
  | [], [] => by simp [eqL]
  | a :: l, b :: m => by simp [eqL, h, eqL_iff h]
  | [], _ :: _ => by simp [eqL]
  | _ :: _, [] => by simp [eqL]
def D.eqb : (d : D) → d.T → d.T → Bool
  | .int _, a, b => decide ((a : Int) = b)
  | .bool, a, b => decide ((a : Bool) = b)
  | .str, a, b => decide ((a : List UInt8) = b)
  | .pair a b, p, q => a.eqb p.1 q.1 && b.eqb p.2 q.2
  | .list a, xs, ys => eqL a.eqb xs ys
theorem D.eqb_iff : ∀ (d : D) (x y : d.T), d.eqb x y = true ↔ x = y
  | .int _, a, b => by simp [D.eqb]
  | .bool, a, b => by simp [D.eqb]
  | .str, a, b => by simp [D.eqb]
  | .pair a b, p, q => by
    simp only [D.eqb, Bool.and_eq_true, D.eqb_iff a, D.eqb_iff b]
    constructor
    · rintro ⟨h1, h2⟩; exact Prod.ext h1 h2
    · rintro rfl; exact ⟨rfl, rfl⟩
  | .list a, xs, ys => eqL_iff (D.eqb_iff a)

instance D.decEq (d : D) : DecidableEq d.T := fun a b => decidable_of_iff (d.eqb a b = true) (d.eqb_iff a b)

theorem D.vs_len : ∀ {d : D} (y : d.T), d.plain = true → (d.vs y).length = d.sz
  | .int _, _, _ => rfl
  | .bool, _, _ => rfl
  | .str, _, _ => rfl
  | .pair a b, p, h => by
    simp only [D.plain, Bool.and_eq_true] at h
    simp [D.vs, D.sz, D.vs_len p.1 h.1, D.vs_len p.2 h.2]
  | .list _, _, h => by simp [D.plain] at h
theorem D.vs_inj : ∀ {d : D} {x y : d.T}, d.plain = true → d.vs x = d.vs y → x = y
  | .int _, x, y, _, h => by simpa [D.vs] using h
  | .bool, x, y, _, h => by simpa [D.vs] using h
  | .str, x, y, _, h => by
    simp only [D.vs, List.cons.injEq, and_true, Value.string.injEq, ByteArray.mk.injEq] at h
    exact List.toArray_inj h
  | .pair a b, p, q, hp, h => by
    simp only [D.plain, Bool.and_eq_true] at hp
    simp only [D.vs] at h
    have := List.append_inj h (by rw [D.vs_len _ hp.1, D.vs_len _ hp.1])
    exact Prod.ext (D.vs_inj hp.1 this.1) (D.vs_inj hp.2 this.2)
  | .list _, _, _, h, _ => by simp [D.plain] at h
theorem D.v_inj : ∀ {d : D} {x y : d.T}, d.plain = true → d.v x = d.v y → x = y
  | .int _, x, y, _, h => by simpa [D.v] using h
  | .bool, x, y, _, h => by simpa [D.v] using h
  | .str, x, y, _, h => by
    simp only [D.v, Value.string.injEq, ByteArray.mk.injEq] at h
    exact List.toArray_inj h
  | .pair a b, p, q, hp, h => by
    simp only [D.v, Value.agg.injEq] at h
    exact D.vs_inj (d := .pair a b) hp (List.toArray_inj h)
  | .list _, _, _, h, _ => by simp [D.plain] at h
theorem D.vs_rd {w : World} {ok : Nat → Prop} : ∀ {d : D} (y : d.T), d.plain = true → Rd w ok d y (d.vs y)
  | .int _, _, _ => rfl
  | .bool, _, _ => rfl
  | .str, _, _ => rfl
  | .pair a b, p, h => by
    simp only [D.plain, Bool.and_eq_true] at h
    exact ⟨_, _, rfl, D.vs_rd p.1 h.1, D.vs_rd p.2 h.2⟩
  | .list _, _, h => by simp [D.plain] at h
theorem rd_vs {w : World} {ok : Nat → Prop} : ∀ {d : D} {y : d.T} {cs : List Value}, d.plain = true → Rd w ok d y cs → cs = d.vs y
  | .int _, _, _, _, h => h
  | .bool, _, _, _, h => h
  | .str, _, _, _, h => h
  | .pair a b, p, _, h, hr => by
    simp only [D.plain, Bool.and_eq_true] at h
    obtain ⟨c1, c2, rfl, h1, h2⟩ := hr
    rw [rd_vs h.1 h1, rd_vs h.2 h2]; rfl
  | .list _, _, _, h, _ => by simp [D.plain] at h

section
variable {kd vd : D}
def midx : List (kd.T × vd.T) → kd.T → Option Nat
  | [], _ => none
  | p :: l, k => if kd.eqb p.1 k = true then some 0 else (midx l k).map (· + 1)
def mset (es : List (kd.T × vd.T)) (k : kd.T) (v : vd.T) : List (kd.T × vd.T) := match midx es k with
  | some i => es.set i (k, v)
  | none => es ++ [(k, v)]
def mval (es : List (kd.T × vd.T)) (k : kd.T) : vd.T := match midx es k with
  | some i => ((es[i]?).map (·.2)).getD vd.df
  | none => vd.df
def mhas (es : List (kd.T × vd.T)) (k : kd.T) : Bool := (midx es k).isSome

theorem midx_some : ∀ {es : List (kd.T × vd.T)} {k : kd.T} {i : Nat}, midx es k = some i → ∃ v, es[i]? = some (k, v)
  | p :: l, k, i, h => by
    simp only [midx] at h
    split at h
    · rename_i e
      cases h
      exact ⟨p.2, by simp [← (D.eqb_iff kd _ _).1 e]⟩
    · simp only [Option.map_eq_some_iff] at h
      obtain ⟨j, h1, rfl⟩ := h
      obtain ⟨v, hv⟩ := midx_some h1
      exact ⟨v, by simpa using hv⟩
  | [], _, _, h => by simp [midx] at h
theorem midx_none : ∀ {es : List (kd.T × vd.T)} {k : kd.T}, midx es k = none → ∀ p ∈ es, p.1 ≠ k
  | p :: l, k, h, q, hq => by
    simp only [midx] at h
    split at h
    · cases h
    · rename_i e
      simp only [Option.map_eq_none_iff] at h
      rcases List.mem_cons.1 hq with rfl | hq
      · intro e'; exact e ((D.eqb_iff kd _ _).2 e')
      · exact midx_none h q hq
  | [], _, _, _, hq => by simp at hq
theorem midx_at : ∀ {es : List (kd.T × vd.T)} {k : kd.T} {i : Nat} {v : vd.T}, es.Pairwise (fun p q => p.1 ≠ q.1) → es[i]? = some (k, v) → midx es k = some i
  | p :: l, k, 0, v, hd, h => by
    simp at h; subst h
    simp [midx, (D.eqb_iff kd _ _).2 rfl]
  | p :: l, k, i + 1, v, hd, h => by
    rw [List.pairwise_cons] at hd
    have hi : l[i]? = some (k, v) := by simpa using h
    have hne : ¬ kd.eqb p.1 k = true := fun e => hd.1 (k, v) (List.mem_of_getElem? hi) ((D.eqb_iff kd _ _).1 e)
    simp [midx, hne, midx_at hd.2 hi]
  | [], _, _, _, _, h => by simp at h

theorem mset_pairwise {es : List (kd.T × vd.T)} (h : es.Pairwise (fun p q => p.1 ≠ q.1)) (k : kd.T) (v : vd.T) : (mset es k v).Pairwise (fun p q => p.1 ≠ q.1) := by
  unfold mset
  split
  · rename_i i hi
    obtain ⟨u, hu⟩ := midx_some hi
    rw [List.pairwise_iff_getElem] at h ⊢
    intro a b ha hb hab
    have e1 : ∀ c (hc : c < (es.set i (k, v)).length), ((es.set i (k, v))[c]).1 = (es[c]'(by simpa using hc)).1 := by
      intro c hc
      rw [List.getElem_set]
      split
      · rename_i e; subst e
        rw [List.getElem?_eq_some_iff] at hu
        obtain ⟨h1, h2⟩ := hu
        rw [h2]
      · rfl
    rw [e1, e1]
    exact h a b (by simpa using ha) (by simpa using hb) hab
  · rename_i hn
    rw [List.pairwise_append]
    exact ⟨h, by simp, fun p hp q hq => by
      simp at hq; subst hq
      exact midx_none hn p hp⟩
end

end OE

/- OE, part 3b: which types' values may be keys, and that the model finds them. Own work. -/
set_option linter.unusedVariables false
namespace OE
open Go Go.RowKit

/-- parts, one behind the other -/
def partsB (P : Program) (f : TypeId → D → Bool) : List (TypeId × Nat) → Nat → D → Bool
  | [], _, _ => false
  | [(t, o)], p, d => o == p && P.cellsOf t == d.sz && f t d
  | (t, o) :: r, p, d => match d with
    | .pair a b => o == p && P.cellsOf t == a.sz && f t a && partsB P f r (p + a.sz) b
    | _ => false
def klB (P : Program) : Nat → TypeId → D → Bool
  | 0, _, _ => false
  | n + 1, t, d => match P.underlying t with
    | some (.int k) => decide (d = .int k)
    | some .bool => decide (d = .bool)
    | some .string => decide (d = .str)
    | some (.struct fs) => d.plain && P.cellsOf t == d.sz && fs.all (fun f => f.name != "_") && partsB P (klB P n) (fs.toList.map fun f => (f.type, f.offset)) 0 d
    | _ => false

theorem mapM_all {α β : Type} {f : α → Option β} : ∀ {l : List α}, (∀ x ∈ l, ∃ y, f x = some y) → ∃ r, l.mapM f = some r
  | [], _ => ⟨[], rfl⟩
  | a :: l, h => by
    obtain ⟨y, hy⟩ := h a (by simp)
    obtain ⟨r, hr⟩ := mapM_all (l := l) (fun x hx => h x (by simp [hx]))
    exact ⟨y :: r, by simp [hy, hr]⟩

theorem parts_keys {P : Program} {n : Nat} (ih : ∀ {t : TypeId} {d : D} {y : d.T}, klB P n t d = true → d.ok y → ∃ ls, P.keyLits n t (d.vs y) = some ls) :
    ∀ {pl : List (TypeId × Nat)} {p : Nat} {d : D} {y : d.T} {cs : List Value}, d.plain = true → partsB P (klB P n) pl p d = true → d.ok y → (cs.drop p).take d.sz = d.vs y →
      ∀ q ∈ pl, ∃ ls, P.keyLits n q.1 ((cs.drop q.2).take (P.cellsOf q.1)) = some ls
  | [], _, _, _, _, _, h, _, _ => by simp [partsB] at h
  | [(t, o)], p, d, y, cs, hp, h, hok, hc => by
    simp only [partsB, Bool.and_eq_true, beq_iff_eq] at h
    obtain ⟨⟨rfl, h1⟩, h2⟩ := h
    intro q hq
    simp at hq; subst hq
    rw [h1, hc]
    exact ih h2 hok
  | (t, o) :: q2 :: r, p, d, y, cs, hp, h, hok, hc => by
    simp only [partsB] at h
    split at h
    · rename_i a b
      simp only [Bool.and_eq_true, beq_iff_eq] at h
      obtain ⟨⟨⟨rfl, h1⟩, h2⟩, h3⟩ := h
      simp only [D.plain, Bool.and_eq_true] at hp
      simp only [D.sz, D.vs, List.take_add, List.drop_drop] at hc
      have hl : ((cs.drop o).take a.sz).length = (a.vs y.1).length := by
        have := congrArg List.length hc
        have ha := D.vs_len y.1 hp.1
        have hb := D.vs_len y.2 hp.2
        simp only [List.length_append, List.length_take, List.length_drop, ha, hb] at this ⊢
        have := b.sz_pos
        omega
      have hc' := List.append_inj hc hl
      intro q hq
      rcases List.mem_cons.1 hq with rfl | hq
      · rw [h1, hc'.1]; exact ih h2 hok.1
      · exact parts_keys ih (p := o + a.sz) (d := b) (y := y.2) hp.2 h3 hok.2 hc'.2 q hq
    · cases h

theorem kl_keys {P : Program} : ∀ (n : Nat) {t : TypeId} {d : D} {y : d.T}, klB P n t d = true → d.ok y → ∃ ls, P.keyLits n t (d.vs y) = some ls
  | 0, _, _, _, h, _ => by simp [klB] at h
  | n + 1, t, d, y, h, hok => by
    unfold klB at h
    split at h
    · rename_i k hu
      simp only [decide_eq_true_eq] at h; subst h
      have hok : (Lit.int k y).wf = true := hok
      exact ⟨[.int k y], by simp [Program.keyLits, hu, D.vs, hok]⟩
    · rename_i hu
      simp only [decide_eq_true_eq] at h; subst h
      exact ⟨[.bool y], by simp [Program.keyLits, hu, D.vs]⟩
    · rename_i hu
      simp only [decide_eq_true_eq] at h; subst h
      have hok : y.length ≤ 9223372036854775807 := hok
      have : (ByteArray.mk y.toArray).size ≤ maxLen := by simpa [ByteArray.size, maxLen] using hok
      exact ⟨[.string y], by simp [Program.keyLits, hu, D.vs, this]⟩
    · rename_i fs hu
      simp only [Bool.and_eq_true, beq_iff_eq] at h
      obtain ⟨⟨⟨h0, h1⟩, h2⟩, h3⟩ := h
      have hlen := D.vs_len y h0
      have hm : ∃ r, (fs.toList.mapM fun f => P.keyLits n f.type (((d.vs y).drop f.offset).take (P.cellsOf f.type))) = some r := by
        refine mapM_all fun f hf => ?_
        exact parts_keys (fun h1 h2 => kl_keys n h1 h2) (p := 0) (d := d) (y := y) (cs := d.vs y) h0 h3 hok (by rw [List.drop_zero, List.take_of_length_le (by omega)]) (f.type, f.offset) (List.mem_map.2 ⟨f, hf, rfl⟩)
      obtain ⟨r, hr⟩ := hm
      exact ⟨r.flatten, by
        unfold Program.keyLits
        rw [hu]
        have hc : (d.vs y).length = P.cellsOf t ∧ fs.all (fun f => f.name != "_") = true := ⟨by omega, h2⟩
        cases hv : d.vs y with
        | nil => rw [hv] at hlen; have := d.sz_pos; simp at hlen; omega
        | cons a l =>
          rw [hv] at hc hr
          simp only [hc, and_self, if_true, hr, Option.map_some]⟩
    · cases h

/-- a type whose values may be keys, of this kind of data -/
def keyB (P : Program) (t : TypeId) (d : D) : Bool := match P.underlying t with
  | some (.struct _) => (match d with | .pair _ _ => true | _ => false) && (P.keyTypeAt 9 t && P.tiled 9 t && P.keyType t && klB P (P.types.size + 1) t d)
  | some (.int k) => decide (d = .int k)
  | some .bool => decide (d = .bool)
  | some .string => decide (d = .str)
  | _ => false

theorem keyB_plain {P : Program} {t : TypeId} {d : D} (h : keyB P t d = true) : d.plain = true := by
  unfold keyB at h
  split at h
  · rename_i fs hu
    simp only [Bool.and_eq_true] at h
    have h := h.2.2
    unfold klB at h
    rw [hu] at h
    simp only [Bool.and_eq_true] at h
    exact h.1.1.1
  · simp only [decide_eq_true_eq] at h; subst h; rfl
  · simp only [decide_eq_true_eq] at h; subst h; rfl
  · simp only [decide_eq_true_eq] at h; subst h; rfl
  · cases h

theorem keyB_keyed {P : Program} {t : TypeId} {d : D} (h : keyB P t d = true) : Go.Maps.Keyed P t := by
  unfold keyB at h
  split at h
  · rename_i fs hu
    simp only [Bool.and_eq_true] at h
    exact Go.Maps.Keyed.of_law (deep_law (m := 9) (by omega) h.2.1.1.1 h.2.1.1.2 (by rw [hu]))
  · rename_i k hu; exact Go.Maps.int_keyed hu
  · rename_i hu; exact Go.Maps.bool_keyed hu
  · rename_i hu; exact Go.Maps.string_keyed hu
  · cases h

theorem keyB_of {P : Program} {t : TypeId} {d : D} (h : keyB P t d = true) {y : d.T} (hok : d.ok y) : ∃ l, keyOf P t (d.v y) = some l := by
  have hpl := keyB_plain h
  unfold keyB at h
  split at h
  · rename_i fs hu
    simp only [Bool.and_eq_true] at h
    obtain ⟨hpair, ⟨⟨h1, h2⟩, h3⟩, h4⟩ := h
    obtain ⟨ls, hls⟩ := kl_keys _ h4 hok
    have h5 := h4
    unfold klB at h5
    rw [hu] at h5
    simp only [Bool.and_eq_true, beq_iff_eq] at h5
    have hlen := D.vs_len y hpl
    cases d with
    | pair a b =>
      have hf : (Value.agg ((D.pair a b).vs y).toArray).formed P t = true := by
        simp only [Value.formed, hu, List.size_toArray, beq_iff_eq]; omega
      refine ⟨.string (keyBytes ls), ?_⟩
      show keyOf P t (.agg ((D.pair a b).vs y).toArray) = _
      unfold keyOf
      rw [hu]
      simp only [h3, hf, Bool.and_self, if_true, Value.cells, hls, Option.map_some]
    | _ => simp at hpair
  · rename_i k hu
    simp only [decide_eq_true_eq] at h; subst h
    exact ⟨_, Go.Maps.keyOf_int_mk hu hok⟩
  · rename_i hu
    simp only [decide_eq_true_eq] at h; subst h
    exact ⟨_, Go.Maps.keyOf_bool_mk hu y⟩
  · rename_i hu
    simp only [decide_eq_true_eq] at h; subst h
    have hok : y.length ≤ 9223372036854775807 := hok
    exact ⟨_, Go.WideMaps.keyOf_string_mk hu (by simpa [ByteArray.size, maxLen] using hok)⟩
  · cases h

end OE

/- OE, part 2: the quiet operations: what each yields, and that the model's operation yields just that. Own work; generic over the program. -/
namespace OE
open Go Go.RowKit

inductive TK where
  | int (k : IntKind) | bool | str | strct (fs : List (Nat × Nat × Bool)) | slice (e : TypeId) | ptr (e : TypeId) | array (n : Nat) (e : TypeId) | map (k e : TypeId) (kd : D) | other
structure TI where
  tk : TK
  sz : Nat
  byt : Nat
  zero : List C
  d : D

def TK.agg : TK → Bool
  | .strct _ => true
  | .array _ _ => true
  | _ => false

/-- a plain value's abstract cell -/
def cv : Value → SV
  | .int k n => .c (.int k n)
  | .bool b => .c (.bool (BE.of b))
  | .string s => .c (.str s.data.toList)
  | .slice none 0 0 => .c (.val (.slice none 0 0))
  | .pointer none => .c (.val (.pointer none))
  | .nilFunc => .c (.val .nilFunc)
  | .nilIface => .c (.val .nilIface)
  | .map none => .c (.val (.map none))
  | .chan none => .c (.val (.chan none))
  | _ => .un

def valIs : C → Value → Bool
  | .int k n, .int k' n' => k == k' && n == n'
  | .bool b, .bool b' => b.v == b'
  | .str s, .string s' => s'.data.toList == s
  | .val (.slice none 0 0), .slice none 0 0 => true
  | .val (.pointer none), .pointer none => true
  | .val .nilFunc, .nilFunc => true
  | .val .nilIface, .nilIface => true
  | .val (.map none), .map none => true
  | .val (.chan none), .chan none => true
  | _, _ => false

def allIs : List C → List Value → Bool
  | [], [] => true
  | c :: cs, v :: vs => valIs c v && allIs cs vs
  | _, _ => false

def isAggD : Option TypeDesc → Bool
  | some (.struct _) => true
  | some (.array _ _) => true
  | _ => false

def fldIs (P : Program) : List (Nat × Nat × Bool) → List Field → Bool
  | [], [] => true
  | (o, s, ag) :: fs, f :: gs => f.offset == o && P.cellsOf f.type == s && (P.info? f.type).isSome && (P.underlying f.type).isSome && isAggD (P.underlying f.type) == ag && decide (0 < s) && fldIs P fs gs
  | _, _ => false

def tkIs (P : Program) (t : TypeId) : TK → Bool
  | .int k => match P.underlying t with | some (.int k') => k == k' | _ => false
  | .bool => match P.underlying t with | some .bool => true | _ => false
  | .str => match P.underlying t with | some .string => true | _ => false
  | .strct fs => match P.underlying t with | some (.struct fl) => fldIs P fs fl.toList | _ => false
  | .slice e => match P.underlying t with | some (.slice e') => e == e' && (P.info? e).isSome | _ => false
  | .ptr e => match P.underlying t with | some (.pointer e') => e == e' | _ => false
  | .array n e => match P.underlying t with | some (.array n' e') => n == n' && e == e' | _ => false
  | .map k e kd => match P.underlying t with | some (.map k' e') => k == k' && e == e' && keyB P k kd | _ => false
  | .other => (P.underlying t).isSome && !isAggD (P.underlying t)

/-- a row of the table is right -/
def tiIs (P : Program) (t : TypeId) (i : TI) : Bool :=
  (match P.info? t with
    | some j => j.size == i.sz && j.bytes == i.byt && decide (0 < i.byt) && (match j.zero with | some z => (match i.tk, z with | .strct _, .agg cs => allIs i.zero cs.toList | .strct _, _ => false | .array _ _, .agg cs => allIs i.zero cs.toList | .array _ _, _ => false | _, z => allIs i.zero [z]) | none => false)
    | none => false) && (tkIs P t i.tk && i.zero.length == i.sz)

def TabOk (P : Program) (ti : Nat → Option TI) : Prop := ∀ t i, ti t = some i → tiIs P t i = true

theorem tab_of {P : Program} {l : List (Nat × TI)} (h : (l.all fun p => tiIs P p.1 p.2) = true) : TabOk P (lk l) := by
  intro t i hi
  induction l with
  | nil => simp [lk] at hi
  | cons p l ih =>
    obtain ⟨k, v⟩ := p
    simp only [List.all_cons, Bool.and_eq_true] at h
    simp only [lk] at hi
    split at hi
    · rename_i e; subst e; cases hi; exact h.1
    · exact ih h.2 hi

/-! ### what a table's row tells -/

structure Is (P : Program) (t : TypeId) (i : TI) : Prop where
  info : ∃ j, P.info? t = some j ∧ j.size = i.sz ∧ j.bytes = i.byt
  byt : 0 < i.byt
  tk : tkIs P t i.tk = true
  agg : ∃ u, P.underlying t = some u ∧ isAggD (some u) = i.tk.agg
  zlen : i.zero.length = i.sz
  zero : ∃ j z, P.info? t = some j ∧ j.zero = some z ∧ (if i.tk.agg then ∃ cs, z = .agg cs ∧ allIs i.zero cs.toList = true else allIs i.zero [z] = true)

theorem tk_agg {P : Program} {t : TypeId} {k : TK} (h : tkIs P t k = true) : ∃ u, P.underlying t = some u ∧ isAggD (some u) = k.agg := by
  cases k <;> simp only [tkIs] at h
  case other =>
    cases hu : P.underlying t with
    | none => simp [hu] at h
    | some u => rw [hu] at h; exact ⟨u, rfl, by simpa [TK.agg] using h⟩
  all_goals
    cases hu : P.underlying t with
    | none => simp [hu] at h
    | some u =>
      rw [hu] at h
      refine ⟨u, rfl, ?_⟩
      cases u <;> simp_all [isAggD, TK.agg]

theorem TabOk.is {P : Program} {ti : Nat → Option TI} (h : TabOk P ti) {t : Nat} {i : TI} (hi : ti t = some i) : Is P t i := by
  have := h t i hi
  simp only [tiIs, Bool.and_eq_true, beq_iff_eq] at this
  obtain ⟨h1, h2, hzl⟩ := this
  have hag := tk_agg h2
  cases hj : P.info? t with
  | none => simp [hj] at h1
  | some j =>
    rw [hj] at h1
    simp only [Bool.and_eq_true, beq_iff_eq, decide_eq_true_eq] at h1
    obtain ⟨⟨⟨h3, h4⟩, h5⟩, h6⟩ := h1
    refine ⟨⟨j, hj, h3, h4⟩, h5, h2, hag, hzl, ?_⟩
    cases hz : j.zero with
    | none => simp [hz] at h6
    | some z =>
      rw [hz] at h6
      refine ⟨j, z, hj, hz, ?_⟩
      cases hk : i.tk with
      | strct fs =>
        rw [hk] at h6
        cases z <;> simp_all [TK.agg]
      | array n e =>
        rw [hk] at h6
        cases z <;> simp_all [TK.agg]
      | _ => rw [hk] at h6; simpa [TK.agg] using h6

theorem rc_of_valIs {x : Cx} : ∀ {c : C} {v : Value}, valIs c v = true → RC x c v := by
  intro c v h
  unfold valIs at h
  split at h <;> simp_all [RC, Value.oneCell']
  rename_i s s'
  cases s' with | mk d => cases d; simp at h; subst h; rfl

theorem rl_of_allIs {x : Cx} : ∀ {l : List C} {m : List Value}, allIs l m = true → RL (RC x) l m
  | [], [], _ => trivial
  | c :: cs, v :: vs, h => by
    simp only [allIs, Bool.and_eq_true] at h
    exact ⟨rc_of_valIs h.1, rl_of_allIs h.2⟩
  | [], _ :: _, h => by simp [allIs] at h
  | _ :: _, [], h => by simp [allIs] at h

theorem rs_cv {x : Cx} (v : Value) : RS x (cv v) v := by
  unfold cv
  split <;> simp [RS, RC, Value.oneCell', BE.of_v]

/-- no cell of an abstract list stands for an aggregate -/
theorem RC.one {x : Cx} : ∀ {c : C} {v : Value}, RC x c v → v.oneCell' = true
  | .int _ _, _, h => by simp only [RC] at h; subst h; rfl
  | .bool _, _, h => by simp only [RC] at h; subst h; rfl
  | .str _, _, h => by simp only [RC] at h; subst h; rfl
  | .ptr _ _, _, ⟨_, _, _, h⟩ => by subst h; rfl
  | .pel _ _ _, _, ⟨_, _, _, _, _, _, h, _⟩ => by subst h; rfl
  | .prw _ _ _ _, _, ⟨_, _, _, h⟩ => by subst h; rfl
  | .row _, _, ⟨_, _, _, _, _, h⟩ => by subst h; rfl
  | .dat _ _, _, h => by
    simp only [RC, Rd] at h
    obtain ⟨A, c, h, _⟩ := h
    simp only [List.cons.injEq, and_true] at h
    subst h; rfl
  | .val _, _, h => by obtain ⟨rfl, h⟩ := h; exact h
  | .bm _ _ _, _, ⟨_, _, _, h⟩ => by subst h; rfl
  | .mp _, _, ⟨_, _, _, h⟩ => by subst h; rfl
  | .csl _ _, _, ⟨_, _, _, h⟩ => by subst h; rfl
  | .glb _, _, h => by simp only [RC] at h; subst h; rfl
  | .sub _ _ _ _ _, _, ⟨_, _, _, _, _, _, h, _⟩ => by subst h; rfl
  | .fn _ _, _, ⟨_, h, _⟩ => by subst h; rfl

/-! ### the quiet operations -/

/-- a condition, or none -/
def OP : Option Prop → Prop
  | none => True
  | some p => p
@[simp] theorem OP_none : OP none = True := rfl
@[simp] theorem OP_some (p : Prop) : OP (some p) = p := rfl

structure Q where
  hyp : Option Prop
  pre : Option Prop
  v : SV

/-- a byte of a text -/
def bt (s : List UInt8) (i : Int) : Int := (s.getD i.toNat 0).toNat

def binI (op : BinOp) (k : IntKind) (a b : Int) : Option Q :=
  match op with
  | .add => some ⟨none, none, .c (.int k (k.wrap (a + b)))⟩
  | .sub => some ⟨none, none, .c (.int k (k.wrap (a - b)))⟩
  | .mul => some ⟨none, none, .c (.int k (k.wrap (a * b)))⟩
  | .quo => some ⟨none, some (b ≠ 0), .c (.int k (k.wrap (a.tdiv b)))⟩
  | .rem => some ⟨none, some (b ≠ 0), .c (.int k (a.tmod b))⟩
  | .and => some ⟨none, none, .c (.int k (bits .and k a b))⟩
  | .or => some ⟨none, none, .c (.int k (bits .or k a b))⟩
  | .xor => some ⟨none, none, .c (.int k (bits .xor k a b))⟩
  | .andNot => some ⟨none, none, .c (.int k (bits .andNot k a b))⟩
  | .eql => some ⟨none, none, .c (.bool (.sym (decide (a = b))))⟩
  | .neq => some ⟨none, none, .c (.bool (.sym (!decide (a = b))))⟩
  | .lss => some ⟨none, none, .c (.bool (.sym (decide (a < b))))⟩
  | .leq => some ⟨none, none, .c (.bool (.sym (decide (a ≤ b))))⟩
  | .gtr => some ⟨none, none, .c (.bool (.sym (decide (b < a))))⟩
  | .geq => some ⟨none, none, .c (.bool (.sym (decide (b ≤ a))))⟩
  | _ => none

def shf (op : BinOp) (k : IntKind) (a b : Int) : Option Q :=
  match op with
  | .shl => some ⟨none, some (0 ≤ b), .c (.int k (k.wrap (a * 2 ^ (min b.toNat k.bits))))⟩
  | .shr => some ⟨none, some (0 ≤ b), .c (.int k (a / 2 ^ (min b.toNat k.bits)))⟩
  | _ => none

def isShift : BinOp → Bool
  | .shl | .shr => true
  | _ => false

def binS (op : BinOp) (a b : List UInt8) : Option Q :=
  match op with
  | .add => some ⟨none, some (a.length + b.length ≤ 9223372036854775807), .c (.str (a ++ b))⟩
  | .eql => some ⟨none, none, .c (.bool (.sym (decide (a = b))))⟩
  | .neq => some ⟨none, none, .c (.bool (.sym (!decide (a = b))))⟩
  | .lss => some ⟨none, none, .c (.bool (.sym (Op.bytesLess a b)))⟩
  | .leq => some ⟨none, none, .c (.bool (.sym (Op.bytesLess a b || decide (a = b))))⟩
  | .gtr => some ⟨none, none, .c (.bool (.sym (!(Op.bytesLess a b || decide (a = b)))))⟩
  | .geq => some ⟨none, none, .c (.bool (.sym (!Op.bytesLess a b)))⟩
  | _ => none

def binV (op : BinOp) : SV → SV → Option Q
  | .c (.int k a), .c (.int k' b) => if isShift op then shf op k a b else if k = k' then binI op k a b else none
  | .c (.str a), .c (.str b) => binS op a b
  | _, _ => none

def unV (op : UnOp) : SV → Option Q
  | .c (.bool b) => match op with | .not => some ⟨none, none, .c (.bool b.not)⟩ | _ => none
  | .c (.int k a) => match op with | .neg => some ⟨none, none, .c (.int k (k.wrap (0 - a)))⟩ | .xor => some ⟨none, none, .c (.int k (bits .xor k (if k.signed then -1 else k.max) a))⟩ | _ => none
  | _ => none

/-- numbers as bytes -/
def byl (xs : List Int) : List UInt8 := xs.map fun n => UInt8.ofNat n.toNat

def isB (ti : Nat → Option TI) (s : TypeId) : Bool := match ti s with
  | some ⟨.slice e, _, _, _, _⟩ => match ti e with
    | some ⟨.int .u8, _, _, _, _⟩ => true
    | _ => false
  | _ => false
def isS (ti : Nat → Option TI) (s : TypeId) : Bool := match ti s with
  | some ⟨.str, _, _, _, _⟩ => true
  | _ => false

/-- bytes as a text -/
def cbsV (ti : Nat → Option TI) (hp : List (Nat × Ob)) (s d : TypeId) : SV → Option Q
  | .c (.dat (.int .u8) xs) => if isB ti s && isS ti d then some ⟨none, none, .c (.str (byl xs))⟩ else none
  | .c (.row b) => match lk hp b with
    | some (.row _ (.int .u8) xs) => if isB ti s && isS ti d then some ⟨none, none, .c (.str (byl xs))⟩ else none
    | _ => none
  | _ => none

def convV (s d : Option TI) : SV → Option Q
  | .c (.int _ a) => match s, d with | some ⟨.int _, _, _, _, _⟩, some ⟨.int k', _, _, _, _⟩ => some ⟨none, none, .c (.int k' (k'.wrap a))⟩ | _, _ => none
  | .c (.str a) => match s, d with | some ⟨.str, _, _, _, _⟩, some ⟨.str, _, _, _, _⟩ => some ⟨none, none, .c (.str a)⟩ | _, _ => none
  | _ => none

def extV (i : Nat) : SV → Option Q
  | .tup l => match l[i]? with
    | some (true, cs) => some ⟨none, none, .agg cs⟩
    | some (false, [c]) => some ⟨none, none, .c c⟩
    | _ => none
  | _ => none

/-- cells out of cells, as a value of a type -/
def ldV (i : TI) (l : List C) (o : Nat) : Option Q :=
  if i.tk.agg then (if o + i.sz ≤ l.length then some ⟨none, none, .agg ((l.drop o).take i.sz)⟩ else none)
  else match l[o]? with
    | some c => some ⟨none, none, .c c⟩
    | none => none

def loadV (i : Option TI) (hp : List (Nat × Ob)) : SV → Option Q
  | .c (.ptr b o) => match i, lk hp b with
    | some i, some (.cells _ l) => ldV i l o
    | _, _ => none
  | .c (.pel d x o) => match i with
    | some i => ldV i (d.cs x) o
    | _ => none
  | .c (.prw b j s o) => match i, lk hp b with
    | some i, some (.row _ d xs) => if s = d.sz then (match ldV i (d.cs (gt xs j)) o with
      | some q => some ⟨none, some (0 ≤ j ∧ j < xs.length), q.v⟩
      | none => none) else none
    | some i, some (.wid _ d xs _) => if s = d.sz then (match ldV i (d.cs (gt xs j)) o with
      | some q => some ⟨none, some (0 ≤ j ∧ j < xs.length), q.v⟩
      | none => none) else none
    | _, _ => none
  | _ => none

def fadV (i : Option TI) (f : Nat) : SV → Option Q
  | .c (.ptr b o) => match i with
    | some ⟨.strct fs, _, _, _, _⟩ => match fs[f]? with | some (o', _, _) => some ⟨none, none, .c (.ptr b (o + o'))⟩ | none => none
    | _ => none
  | .c (.pel d x o) => match i with
    | some ⟨.strct fs, _, _, _, _⟩ => match fs[f]? with | some (o', _, _) => some ⟨none, none, .c (.pel d x (o + o'))⟩ | none => none
    | _ => none
  | .c (.prw b j s o) => match i with
    | some ⟨.strct fs, _, _, _, _⟩ => match fs[f]? with | some (o', _, _) => some ⟨none, none, .c (.prw b j s (o + o'))⟩ | none => none
    | _ => none
  | _ => none

def fldV (i : Option TI) (f : Nat) : SV → Option Q
  | .agg l => match i with
    | some ⟨.strct fs, _, _, _, _⟩ => match fs[f]? with
      | some (o, s, true) => if o + s ≤ l.length then some ⟨none, none, .agg ((l.drop o).take s)⟩ else none
      | some (o, _, false) => match l[o]? with | some c => some ⟨none, none, .c c⟩ | none => none
      | none => none
    | _ => none
  | _ => none

def idxV (i : Option TI) : SV → SV → Option Q
  | .c (.str s), .c (.int _ j) => match i with
    | some ⟨.str, _, _, _, _⟩ => some ⟨none, some (0 ≤ j ∧ j < s.length), .c (.int .u8 (bt s j))⟩
    | _ => none
  | _, _ => none

def sz? (ti : Nat → Option TI) (e : TypeId) : Option Nat := match ti e with | some i => some i.sz | none => none

/-- the place of an element of an array -/
def arrV (ti : Nat → Option TI) (T : TypeId) : Int → Option Nat
  | .ofNat j => match ti T with
    | some ⟨.array n e, _, _, _, _⟩ => match sz? ti e with
      | some s => if j < n then some (j * s) else none
      | none => none
    | _ => none
  | _ => none

/-- Bools told equal -/
def eqB (op : BinOp) (i : Option TI) : SV → SV → Option Q
  | .c (.bool a), .c (.bool b) => match i with
    | some ⟨.bool, _, _, _, _⟩ => match op with
      | .eql => some ⟨none, none, .c (.bool (.sym (a.v == b.v)))⟩
      | .neq => some ⟨none, none, .c (.bool (.sym (!(a.v == b.v))))⟩
      | _ => none
    | _ => none
  | _, _ => none

/-- pointers, one of them nil, told equal -/
def nlB : SV → SV → Option Bool
  | .c (.ptr _ _), .c (.val (.pointer none)) => some false
  | .c (.val (.pointer none)), .c (.ptr _ _) => some false
  | .c (.pel _ _ _), .c (.val (.pointer none)) => some false
  | .c (.val (.pointer none)), .c (.pel _ _ _) => some false
  | .c (.val (.pointer none)), .c (.val (.pointer none)) => some true
  | _, _ => none
def nilB (op : BinOp) (i : Option TI) (x y : SV) : Option Q :=
  match i with
  | some ⟨.ptr _, _, _, _, _⟩ => match nlB x y with
    | some b => match op with
      | .eql => match b with
        | true => some ⟨none, none, .c (.bool .tt)⟩
        | false => some ⟨none, none, .c (.bool .ff)⟩
      | .neq => match b with
        | true => some ⟨none, none, .c (.bool .ff)⟩
        | false => some ⟨none, none, .c (.bool .tt)⟩
      | _ => none
    | none => none
  | _ => none

def iadV (ti : Nat → Option TI) (T : TypeId) (hp : List (Nat × Ob)) : SV → SV → Option Q
  | .c (.dat d xs), .c (.int _ j) => match ti T with
    | some ⟨.slice e, _, _, _, _⟩ => if sz? ti e = some d.sz then some ⟨some (xs.length ≤ 9223372036854775807), some (0 ≤ j ∧ j < xs.length), .c (.pel d (gt xs j) 0)⟩ else none
    | _ => none
  | .c (.row b), .c (.int _ j) => match ti T, lk hp b with
    | some ⟨.slice e, _, _, _, _⟩, some (.row _ d xs) => if sz? ti e = some d.sz then some ⟨some (xs.length ≤ 9223372036854775807), some (0 ≤ j ∧ j < xs.length), .c (.prw b j d.sz 0)⟩ else none
    | _, _ => none
  | .c (.ptr b o), .c (.int _ j) => match lk hp b with
    | some (.wid _ d _ _) => match ti T with
      | some ⟨.array n e, _, _, _, _⟩ => match Nat.beq o 0 with
        | true => if sz? ti e = some d.sz then some ⟨none, some (0 ≤ j ∧ j < n), .c (.prw b j d.sz 0)⟩ else none
        | false => none
      | _ => none
    | _ => match arrV ti T j with
      | some p => some ⟨none, none, .c (.ptr b (o + p))⟩
      | none => none
  | .c (.csl b n), .c (.int _ j) => match ti T with
    | some ⟨.slice e, _, _, _, _⟩ => match j with
      | .ofNat m => match Nat.blt m n with
        | true => match sz? ti e with
          | some s => some ⟨none, none, .c (.ptr b (m * s))⟩
          | none => none
        | false => none
      | _ => none
    | _ => none
  | .c (.pel d y o), .c (.int _ j) => match arrV ti T j with
    | some p => some ⟨none, none, .c (.pel d y (o + p))⟩
    | none => none
  | .c (.sub b o sz n _), .c (.int _ j) => match ti T with
    | some ⟨.slice e, _, _, _, _⟩ => if sz? ti e = some sz then some ⟨none, some (0 ≤ j ∧ j < n), .c (.prw b (o + j) sz 0)⟩ else none
    | _ => none
  | .c (.glb g), .c (.int _ j) => match ti T, glS g with
    | some ⟨.array n e, _, _, _, _⟩, some l => if sz? ti e = some 1 then some ⟨none, some ((0 ≤ j ∧ j < n) ∧ j < l.length), .c (.pel .str (gt (d := .str) l j) 0)⟩ else none
    | _, _ => none
  | _, _ => none

/-- the bounds of a cut -/
def cutB (n : Nat) (lo hi : Option SV) : Option (Prop × Nat × Nat) :=
  match lo, hi with
  | none, none => some (True, 0, n)
  | some (.c (.int _ a)), none => some (0 ≤ a ∧ a ≤ n, a.toNat, n)
  | none, some (.c (.int _ b)) => some (0 ≤ b ∧ b ≤ n, 0, b.toNat)
  | some (.c (.int _ a)), some (.c (.int _ b)) => some ((0 ≤ b ∧ b ≤ n) ∧ 0 ≤ a ∧ a ≤ b, a.toNat, b.toNat)
  | _, _ => none

def cutV (ti : Nat → Option TI) (T : TypeId) (lo hi : Option SV) : SV → Option Q
  | .c (.str s) => match ti T, cutB s.length lo hi with
    | some ⟨.str, _, _, _, _⟩, some (p, a, b) => some ⟨none, some (p), .c (.str ((s.take b).drop a))⟩
    | _, _ => none
  | .c (.dat d xs) => match ti T, cutB xs.length lo hi with
    | some ⟨.slice e, _, _, _, _⟩, some (p, a, b) => if sz? ti e = some d.sz then some ⟨none, some (p), .c (.dat d ((xs.take b).drop a))⟩ else none
    | _, _ => none
  | _ => none

/-- a cut with three bounds: only whether it may be -/
def cut3 (hp : List (Nat × Ob)) (i : Option TI) (ti : Nat → Option TI) : SV → SV → SV → SV → Option Q
  | .c x, .c (.int _ a), .c (.int _ h), .c (.int _ m) => match i with
    | some ⟨.slice e, _, _, _, _⟩ => match sz? ti e with
      | some _ => match x with
        | .dat _ xs => some ⟨none, some (0 ≤ a ∧ a ≤ h ∧ h ≤ m ∧ m ≤ xs.length), .un⟩
        | .sub _ _ _ n _ => some ⟨none, some (0 ≤ a ∧ a ≤ h ∧ h ≤ m ∧ m ≤ n), .un⟩
        | .row b => match lk hp b with
          | some (.row _ _ xs) => some ⟨none, some (0 ≤ a ∧ a ≤ h ∧ h ≤ m ∧ m ≤ xs.length), .un⟩
          | _ => none
        | _ => none
      | none => none
    | _ => none
  | _, _, _, _ => none

/-- cuts of a row of the call's own whose capacity is known, and of nil -/
def cutS (ti : Nat → Option TI) (T : TypeId) (lo hi : Option SV) : SV → Option Q
  | .c (.sub b o sz n c) => match ti T with
    | some ⟨.slice e, _, _, _, _⟩ => if sz? ti e = some sz then (match hi with
      | none => match cutB n lo none with
        | some (p, a, h) => some ⟨none, some p, .c (.sub b (o + a) sz (h - a) (c - a))⟩
        | none => none
      | some s => match cutB c lo (some s) with
        | some (p, a, h) => some ⟨none, some p, .c (.sub b (o + a) sz (h - a) (c - a))⟩
        | none => none) else none
    | _ => none
  | .c (.val (.slice none 0 0)) => match ti T with
    | some ⟨.slice e, _, _, _, _⟩ => match sz? ti e with
      | some _ => match cutB 0 lo hi with
        | some (p, _, _) => some ⟨none, some p, .c (.val (.slice none 0 0))⟩
        | none => none
      | none => none
    | _ => none
  | _ => none

def capV (i : Option TI) : SV → Option Q
  | .c (.sub _ _ _ n c) => match i with | some ⟨.slice _, _, _, _, _⟩ => some ⟨some (n ≤ c ∧ c ≤ 9223372036854775807), none, .c (.int .i64 c)⟩ | _ => none
  | .c (.val (.slice none 0 0)) => match i with | some ⟨.slice _, _, _, _, _⟩ => some ⟨none, none, .c (.int .i64 0)⟩ | _ => none
  | _ => none

def lenV (hp : List (Nat × Ob)) (i : Option TI) : SV → Option Q
  | .c (.str s) => match i with | some ⟨.str, _, _, _, _⟩ => some ⟨none, none, .c (.int .i64 s.length)⟩ | _ => none
  | .c (.dat _ xs) => match i with | some ⟨.slice _, _, _, _, _⟩ => some ⟨some (xs.length ≤ 9223372036854775807), none, .c (.int .i64 xs.length)⟩ | _ => none
  | .c (.row b) => match i, lk hp b with
    | some ⟨.slice _, _, _, _, _⟩, some (.row _ _ xs) => some ⟨some (xs.length ≤ 9223372036854775807), none, .c (.int .i64 xs.length)⟩
    | _, _ => none
  | .c (.val (.slice none 0 0)) => match i with | some ⟨.slice _, _, _, _, _⟩ => some ⟨none, none, .c (.int .i64 0)⟩ | _ => none
  | .c (.csl _ n) => match i with | some ⟨.slice _, _, _, _, _⟩ => some ⟨none, none, .c (.int .i64 n)⟩ | _ => none
  | .c (.sub _ _ _ n c) => match i with | some ⟨.slice _, _, _, _, _⟩ => some ⟨some (n ≤ c ∧ c ≤ 9223372036854775807), none, .c (.int .i64 n)⟩ | _ => none
  | _ => none

def caps : List SV → Option (List (Nat × Nat))
  | [] => some []
  | .c (.ptr b o) :: l => match caps l with | some m => some ((b, o) :: m) | none => none
  | _ => none

/-- parts laid into a struct's cells -/
def fillC (fs : List (Nat × Nat × Bool)) : List C → List (Nat × SV) → Option (List C)
  | cells, [] => some cells
  | cells, (i, v) :: r => match fs[i]? with
    | some (o, s, _) => match v with
      | .c y => if s = 1 ∧ o < cells.length then fillC fs (cells.set o y) r else none
      | .agg l => if l.length = s ∧ o + s ≤ cells.length then fillC fs (cells.take o ++ l ++ cells.drop (o + s)) r else none
      | _ => none
    | none => none

def bldV (i : Option TI) (parts : List (Nat × SV)) : Option Q :=
  match i with
  | some ⟨.strct fs, _, _, z, _⟩ => match fillC fs z parts with | some l => some ⟨none, none, .agg l⟩ | none => none
  | _ => none

def qv (ti : Nat → Option TI) (hp : List (Nat × Ob)) (g : Operand → SV) : Op → Option Q
  | .move x => some ⟨none, none, g x⟩
  | .assign x => some ⟨none, none, g x⟩
  | .pick c a b => match g c with
    | .c (.bool t) => match t with
      | .tt => some ⟨none, none, g a⟩
      | .ff => some ⟨none, none, g b⟩
      | .sym t => some ⟨none, none, if t = true then g a else g b⟩
    | _ => none
  | .binOp op t x y _ => match binV op (g x) (g y) with
    | some q => some q
    | none => match eqB op (ti t) (g x) (g y) with
      | some q => some q
      | none => nilB op (ti t) (g x) (g y)
  | .unOp op _ x => unV op (g x)
  | .convert s d x => match convV (ti s) (ti d) (g x) with
    | some q => some q
    | none => cbsV ti hp s d (g x)
  | .extract x i => extV i (g x)
  | .fieldAddr T x f => fadV (ti T) f (g x)
  | .field T x f => fldV (ti T) f (g x)
  | .load T x => loadV (ti T) hp (g x)
  | .index T x i => idxV (ti T) (g x) (g i)
  | .indexAddr T x i => iadV ti T hp (g x) (g i)
  | .slice T x lo hi none => match cutV ti T (lo.map g) (hi.map g) (g x) with
    | some q => some q
    | none => cutS ti T (lo.map g) (hi.map g) (g x)
  | .slice T x (some lo) (some hi) (some m) => cut3 hp (ti T) ti (g x) (g lo) (g hi) (g m)
  | .nilCheck x => match g x with
    | .c (.ptr b o) => some ⟨none, none, .c (.ptr b o)⟩
    | .c (.pel d y o) => some ⟨none, none, .c (.pel d y o)⟩
    | _ => none
  | .makeFunc (.func f) first captured => match first.toList, caps (captured.toList.map g) with
    | [], some l => some ⟨none, none, .c (.fn f l)⟩
    | [x], some [] => match g x with
      | .c (.ptr b o) => some ⟨none, none, .c (.bm f b o)⟩
      | _ => none
    | _, _ => none
  | .build T parts => bldV (ti T) (parts.toList.map fun p => (p.1, g p.2))
  | .call c => match c.callee, c.args.toList, c.argTypes.toList with
    | .builtin .len, [x], [t] => lenV hp (ti t) (g x)
    | .builtin .cap, [x], [t] => capV (ti t) (g x)
    | .builtin .min, [x, y], _ => match g x, g y with
      | .c (.int k a), .c (.int _ b) => some ⟨none, none, .c (.int k (if b < a then b else a))⟩
      | _, _ => none
    | _, _, _ => none
  | _ => none

end OE
