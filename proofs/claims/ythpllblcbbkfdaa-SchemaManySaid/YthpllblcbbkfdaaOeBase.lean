/- OE, part 1: data, abstract cells and values, and what they stand for in a world. Own work; generic over the program. -/
import Derived.WalkKit
import GoSem.Claim
namespace OE
open Go Go.RowKit

/-- Kinds of data: what a value in memory is read as. -/
inductive D where
  | int (k : IntKind) | bool | str | pair (a b : D) | list (a : D)
  deriving DecidableEq

@[reducible] def D.T : D → Type
  | .int _ => Int
  | .bool => Bool
  | .str => List UInt8
  | .pair a b => a.T × b.T
  | .list a => List a.T

def D.sz : D → Nat
  | .pair a b => a.sz + b.sz
  | _ => 1

theorem D.sz_pos : ∀ d : D, 0 < d.sz
  | .pair a b => by have := a.sz_pos; simp only [D.sz]; omega
  | .int _ | .bool | .str | .list _ => by simp [D.sz]

def D.df : (d : D) → d.T
  | .int _ => (0 : Int)
  | .bool => false
  | .str => ([] : List UInt8)
  | .pair a b => (a.df, b.df)
  | .list _ => []

/-- element i of a list of data -/
def gt {d : D} (xs : List d.T) (i : Int) : d.T := xs.getD i.toNat d.df

/-- a Bool: known, or not -/
inductive BE where
  | tt | ff | sym (b : Bool)
def BE.v : BE → Bool
  | .tt => true
  | .ff => false
  | .sym b => b
def BE.of : Bool → BE
  | true => .tt
  | false => .ff
def BE.not : BE → BE
  | .tt => .ff
  | .ff => .tt
  | .sym b => .sym (!b)
@[simp] theorem BE.v_sym (b : Bool) : (BE.sym b).v = b := rfl
@[simp] theorem BE.v_tt : BE.tt.v = true := rfl
@[simp] theorem BE.v_ff : BE.ff.v = false := rfl
theorem BE.of_v (b : Bool) : (BE.of b).v = b := by cases b <;> rfl
theorem BE.not_v (b : BE) : b.not.v = !b.v := by cases b <;> rfl

inductive C where
  | int (k : IntKind) (n : Int)
  | bool (b : BE)
  | str (s : List UInt8)
  | ptr (b off : Nat)
  | pel (d : D) (x : d.T) (off : Nat)
  | prw (b : Nat) (i : Int) (sz off : Nat)
  | row (b : Nat)
  | dat (d : D) (xs : List d.T)
  | val (v : Value)
  | fn (f : FuncId) (caps : List (Nat × Nat))
  | bm (f : FuncId) (b off : Nat)
  | mp (b : Nat)
  | csl (b n : Nat)
  | sub (b o sz n c : Nat)

inductive SV where
  | c (x : C)
  | agg (l : List C)
  | tup (l : List (Bool × List C))
  | un

inductive Ob where
  | cells (T : TypeId) (l : List C)
  | row (T : TypeId) (d : D) (xs : List d.T)
  | lmp (T : TypeId) (k : IntKind) (es : List (Int × SV))
  | dmp (T : TypeId) (kd vd : D) (es : List (kd.T × vd.T))
  | itr (m n : Nat) (seen : List Nat)
  | wid (T : TypeId) (d : D) (xs : List d.T) (c : Nat)

/-- the cells of plain data -/
def D.vs : (d : D) → d.T → List Value
  | .int k, n => [.int k n]
  | .bool, b => [.bool b]
  | .str, s => [.string ⟨s.toArray⟩]
  | .pair a b, p => a.vs p.1 ++ b.vs p.2
  | .list _, _ => []
/-- plain data as one value -/
def D.v : (d : D) → d.T → Value
  | .int k, n => .int k n
  | .bool, b => .bool b
  | .str, s => .string ⟨s.toArray⟩
  | .pair a b, p => .agg ((D.pair a b).vs p).toArray
  | .list _, _ => .slice none 0 0
/-- what may be a key -/
def D.ok : (d : D) → d.T → Prop
  | .int k, n => (Lit.int k n).wf = true
  | .bool, _ => True
  | .str, s => s.length ≤ 9223372036854775807
  | .pair a b, p => a.ok p.1 ∧ b.ok p.2
  | .list _, _ => False

/-- no lists inside -/
def D.plain : D → Bool
  | .pair a b => a.plain && b.plain
  | .list _ => false
  | _ => true

/-- the cells of a datum, as abstract cells -/
def D.cs : (d : D) → d.T → List C
  | .int k, n => [.int k n]
  | .bool, b => [.bool (.sym b)]
  | .str, s => [.str s]
  | .pair a b, p => a.cs p.1 ++ b.cs p.2
  | .list a, xs => [.dat a xs]

def C.asList (a : D) : C → Option (List a.T)
  | .dat a' xs => if h : a' = a then some (h ▸ xs) else none
  | .val (.slice none 0 0) => some []
  | _ => none

theorem C.asList_dat (a : D) (xs : List a.T) : (C.dat a xs).asList a = some xs := by simp [C.asList]

/-- a datum out of abstract cells -/
def D.ps : (d : D) → List C → Option (d.T × List C)
  | .int k, .int k' n :: l => if k = k' then some (n, l) else none
  | .bool, .bool b :: l => some (b.v, l)
  | .str, .str s :: l => some (s, l)
  | .pair a b, l => match a.ps l with
    | some (x, l) => match b.ps l with
      | some (y, l) => some ((x, y), l)
      | none => none
    | none => none
  | .list a, c :: l => match c.asList a with
    | some xs => some (xs, l)
    | none => none
  | _, _ => none

/-! ### what they stand for -/

structure Cx where
  w : World
  η : Nat → Option Nat × Value
  ok : Nat → Prop
  nm : Nat → Prop

def RL {α β : Type} (R : α → β → Prop) : List α → List β → Prop
  | [], [] => True
  | a :: as, b :: bs => R a b ∧ RL R as bs
  | _, _ => False

/-- a list of data stands one behind the other in cells -/
def RdF {α : Type} (R : α → List Value → Prop) : List α → List Value → Prop
  | [], cs => cs = []
  | x :: xs, cs => ∃ c1 c2, cs = c1 ++ c2 ∧ R x c1 ∧ RdF R xs c2

/-- what a row reads as, from an address on -/
def RdAt {α : Type} (w : World) (ok : Nat → Prop) (R : α → List Value → Prop) (sz : Nat) (A : Option Addr) (xs : List α) : Prop :=
  xs = [] ∨ ∃ k off cells T fz, A = some ⟨k, off, none⟩ ∧ ok k ∧ w.heap[k]? = some (.cells cells T fz) ∧
    RdF R xs ((cells.toList.drop off).take (xs.length * sz))

def Rd (w : World) (ok : Nat → Prop) : (d : D) → d.T → List Value → Prop
  | .int k, n, cs => cs = [.int k n]
  | .bool, b, cs => cs = [.bool b]
  | .str, s, cs => cs = [.string ⟨s.toArray⟩]
  | .pair a b, p, cs => ∃ c1 c2, cs = c1 ++ c2 ∧ Rd w ok a p.1 c1 ∧ Rd w ok b p.2 c2
  | .list a, xs, cs => ∃ A c, cs = [.slice A xs.length c] ∧ xs.length ≤ c ∧ c ≤ maxLen ∧ (A = none → c = 0) ∧ RdAt w ok (Rd w ok a) a.sz A xs

def RC (x : Cx) : C → Value → Prop
  | .int k n, v => v = .int k n
  | .bool b, v => v = .bool b.v
  | .str s, v => v = .string ⟨s.toArray⟩
  | .ptr b off, v => x.nm b ∧ ∃ k, (x.η b).1 = some k ∧ v = .pointer (some ⟨k, off, none⟩)
  | .pel d y off, v => ∃ k o cells T fz cs, v = .pointer (some ⟨k, o + off, none⟩) ∧ x.ok k ∧ x.w.heap[k]? = some (.cells cells T fz) ∧
      Rd x.w x.ok d y cs ∧ (cells.toList.drop o).take d.sz = cs
  | .prw b i sz off, v => x.nm b ∧ ∃ k, (x.η b).1 = some k ∧ v = .pointer (some ⟨k, i.toNat * sz + off, none⟩)
  | .row b, v => x.nm b ∧ v = (x.η b).2 ∧ ∃ A n c, v = .slice A n c
  | .dat d xs, v => Rd x.w x.ok (.list d) xs [v]
  | .val u, v => v = u ∧ u.oneCell' = true
  | .fn f caps, v => ∃ vs, v = .func (.func f) #[] vs ∧ RL (fun (p : Nat × Nat) u => x.nm p.1 ∧ ∃ k, (x.η p.1).1 = some k ∧ u = .pointer (some ⟨k, p.2, none⟩)) caps vs.toList
  | .bm f b off, v => x.nm b ∧ ∃ k, (x.η b).1 = some k ∧ v = .func (.func f) #[.pointer (some ⟨k, off, none⟩)] #[]
  | .mp b, v => x.nm b ∧ ∃ k, (x.η b).1 = some k ∧ v = .map (some k)
  | .csl b n, v => x.nm b ∧ ∃ k, (x.η b).1 = some k ∧ v = .slice (some ⟨k, 0, none⟩) n n
  | .sub b o sz n c, v => x.nm b ∧ n ≤ c ∧ c ≤ maxLen ∧ ∃ k o', (x.η b).1 = some k ∧ v = .slice (some ⟨k, o', none⟩) n c ∧ ((0 < c ∨ o = 0) → o' = o * sz)

def RP (x : Cx) (p : Bool × List C) (v : Value) : Prop :=
  if p.1 then ∃ vs, v = .agg vs ∧ RL (RC x) p.2 vs.toList else ∃ y, p.2 = [y] ∧ RC x y v

def RS (x : Cx) : SV → Value → Prop
  | .c y, v => RC x y v
  | .agg l, v => ∃ vs, v = .agg vs ∧ RL (RC x) l vs.toList
  | .tup l, v => ∃ vs, v = .tuple vs ∧ RL (RP x) l vs.toList
  | .un, _ => True

def RO (x : Cx) (b : Nat) : Ob → Prop
  | .cells T l => ∃ k vs, (x.η b).1 = some k ∧ x.w.heap[k]? = some (.cells vs T (0, 0)) ∧ RL (RC x) l vs.toList
  | .row T d xs => ∃ cs, (x.η b).1 = (x.η b).2.ownBlock ∧ x.w.ownsRow 0 T d.sz (x.η b).2 xs.length cs ∧ RdF (Rd x.w x.ok d) xs cs
  | .lmp _ k es => ∃ r arr, (x.η b).1 = some r ∧ x.w.heap[r]? = some (.map arr es.length) ∧ RL (fun p (e : MapEntry) => e.key = .int k p.1 ∧ RS x p.2 e.val) es arr.toList ∧ (∀ (i : Nat) (e : MapEntry), arr[i]? = some e → e.born = i) ∧ (∀ p ∈ es, (Lit.int k p.1).wf = true) ∧ es.Pairwise (fun p q => p.1 ≠ q.1)
  | .dmp _ kd vd es => ∃ r arr, (x.η b).1 = some r ∧ x.w.heap[r]? = some (.map arr es.length) ∧ RL (fun p (e : MapEntry) => e.key = kd.v p.1 ∧ e.val = vd.v p.2) es arr.toList ∧ (∀ (i : Nat) (e : MapEntry), arr[i]? = some e → e.born = i) ∧ es.Pairwise (fun p q => p.1 ≠ q.1) ∧ ∀ p ∈ es, kd.ok p.1
  | .wid T d xs c => ∃ k cur, (x.η b).1 = some k ∧ x.w.heap[k]? = some (.cells cur T (0, 0)) ∧ cur.size = c * d.sz ∧ xs.length ≤ c ∧ c ≤ maxLen ∧ RdF (Rd x.w x.ok d) xs (cur.toList.take (xs.length * d.sz))
  | .itr m n seen => ∃ r q, (x.η b).1 = some r ∧ x.nm m ∧ (x.η m).1 = some q ∧ x.w.heap[r]? = some (.mapIter (some q) n seen.toArray n)

/-! ### association lists -/

def lk {α : Type} : List (Nat × α) → Nat → Option α
  | [], _ => none
  | (k, v) :: l, n => if n = k then some v else lk l n

def rm {α : Type} : List (Nat × α) → Nat → List (Nat × α)
  | [], _ => []
  | (k, v) :: l, n => if n = k then rm l n else (k, v) :: rm l n

theorem lk_rm {α : Type} : ∀ (l : List (Nat × α)) (n m : Nat), lk (rm l n) m = if m = n then none else lk l m
  | [], n, m => by simp [rm, lk]
  | (k, v) :: l, n, m => by
    simp only [rm]
    by_cases h : n = k
    · subst h
      rw [if_pos rfl, lk_rm l n m]
      by_cases hm : m = n
      · simp [hm]
      · simp [hm, lk]
    · rw [if_neg h]
      simp only [lk, lk_rm l n m]
      by_cases hm : m = k
      · subst hm
        simp [Ne.symm h]
      · simp [hm]

structure St where
  fr : List (Nat × SV)
  hp : List (Nat × Ob)
  nx : Nat

/-- the world at the call, and what of it may be read -/
structure W0 where
  w : World
  ok : Nat → Prop

def okS (w0 : W0) (hp : List (Nat × Ob)) (η : Nat → Option Nat × Value) (w : World) (k : Nat) : Prop :=
  (k < w.heap.size ∧ (k < w0.w.heap.size → w0.ok k)) ∧ ∀ b, lk hp b ≠ none → (η b).1 ≠ some k

def cxS (w0 : W0) (hp : List (Nat × Ob)) (nx : Nat → Prop) (η : Nat → Option Nat × Value) (w : World) : Cx := ⟨w, η, okS w0 hp η w, nx⟩

/-- the names below a bound -/
def lt (n : Nat) : Nat → Prop := fun b => b < n

/-- the heap's part -/
structure RepH (w0 : W0) (hp : List (Nat × Ob)) (nx : Nat → Prop) (η : Nat → Option Nat × Value) (w : World) : Prop where
  obs : ∀ b o, lk hp b = some o → RO (cxS w0 hp nx η w) b o
  sep : ∀ b c k, lk hp b ≠ none → lk hp c ≠ none → (η b).1 = some k → (η c).1 = some k → b = c
  new : ∀ b k, lk hp b ≠ none → (η b).1 = some k → w0.w.heap.size ≤ k ∧ k < w.heap.size
  nxt : ∀ b, lk hp b ≠ none → nx b
  bel : Below w0.w.heap.size w0.w w

/-- only what is looked up counts -/
theorem okS_congr {w0 : W0} {hp hp' : List (Nat × Ob)} (h : ∀ b, lk hp' b = lk hp b) (η : Nat → Option Nat × Value) (w : World) : okS w0 hp' η w = okS w0 hp η w := by
  funext k
  simp only [okS, h]
theorem RepH.congr {w0 : W0} {hp hp' : List (Nat × Ob)} {nx : Nat → Prop} {η : Nat → Option Nat × Value} {w : World} (h : ∀ b, lk hp' b = lk hp b) (hH : RepH w0 hp nx η w) : RepH w0 hp' nx η w := by
  refine ⟨fun b o ho => ?_, fun b c k h1 h2 => hH.sep b c k (by rw [← h]; exact h1) (by rw [← h]; exact h2), fun b k h1 => hH.new b k (by rw [← h]; exact h1), fun b h1 => hH.nxt b (by rw [← h]; exact h1), hH.bel⟩
  have := hH.obs b o (by rw [← h]; exact ho)
  unfold cxS at this ⊢
  rw [okS_congr h]
  exact this

/-- a frame's part -/
structure RepF (x : Cx) (nt : Nat) (fr : List (Nat × SV)) (a : Act) : Prop where
  sl : ∀ t sv, lk fr t = some sv → ∃ v, a.tmps[t]? = some v ∧ RS x sv v
  siz : a.tmps.size = nt
  dfr : a.defers = []

/-! ### what is kept -/

structure Cx.le (x y : Cx) : Prop where
  eta : ∀ b, x.nm b → y.η b = x.η b
  nm : ∀ b, x.nm b → y.nm b
  ok : ∀ k, x.ok k → y.ok k
  heap : ∀ k, x.ok k → y.w.heap[k]? = x.w.heap[k]?

theorem Cx.le.refl (x : Cx) : x.le x := ⟨fun _ _ => rfl, fun _ h => h, fun _ h => h, fun _ _ => rfl⟩
theorem Cx.le.trans {x y z : Cx} (h : x.le y) (k : y.le z) : x.le z :=
  ⟨fun b hb => (k.eta b (h.nm b hb)).trans (h.eta b hb), fun b hb => k.nm b (h.nm b hb), fun b hb => k.ok b (h.ok b hb),
   fun b hb => (k.heap b (h.ok b hb)).trans (h.heap b hb)⟩

theorem RL.imp {α β : Type} {R R' : α → β → Prop} (h : ∀ a b, R a b → R' a b) : ∀ {l : List α} {m : List β}, RL R l m → RL R' l m
  | [], [], _ => trivial
  | _ :: _, _ :: _, ⟨h1, h2⟩ => ⟨h _ _ h1, RL.imp h h2⟩
  | [], _ :: _, h => h.elim
  | _ :: _, [], h => h.elim

theorem RL.len {α β : Type} {R : α → β → Prop} : ∀ {l : List α} {m : List β}, RL R l m → l.length = m.length
  | [], [], _ => rfl
  | _ :: _, _ :: _, h => by simp [RL.len h.2]
  | [], _ :: _, h => h.elim
  | _ :: _, [], h => h.elim

theorem RL.get {α β : Type} {R : α → β → Prop} : ∀ {l : List α} {m : List β} (_ : RL R l m) {i : Nat} {a : α}, l[i]? = some a → ∃ b, m[i]? = some b ∧ R a b
  | [], [], _, i, a, hi => by simp at hi
  | x :: xs, y :: ys, h, 0, a, hi => by simp at hi; subst hi; exact ⟨y, rfl, h.1⟩
  | x :: xs, y :: ys, h, i + 1, a, hi => by simpa using RL.get h.2 (by simpa using hi)
  | [], _ :: _, h, _, _, _ => h.elim
  | _ :: _, [], h, _, _, _ => h.elim

theorem RL.app {α β : Type} {R : α → β → Prop} : ∀ {l l' : List α} {m m' : List β}, RL R l m → RL R l' m' → RL R (l ++ l') (m ++ m')
  | [], _, [], _, _, h => h
  | _ :: _, _, _ :: _, _, ⟨h1, h2⟩, h => ⟨h1, RL.app h2 h⟩
  | [], _, _ :: _, _, h, _ => h.elim
  | _ :: _, _, [], _, h, _ => h.elim

theorem RL.drop {α β : Type} {R : α → β → Prop} : ∀ (n : Nat) {l : List α} {m : List β}, RL R l m → RL R (l.drop n) (m.drop n)
  | 0, _, _, h => h
  | n + 1, [], [], h => h
  | n + 1, _ :: _, _ :: _, h => by simpa using RL.drop n h.2
  | _ + 1, [], _ :: _, h => h.elim
  | _ + 1, _ :: _, [], h => h.elim

theorem RL.take {α β : Type} {R : α → β → Prop} : ∀ (n : Nat) {l : List α} {m : List β}, RL R l m → RL R (l.take n) (m.take n)
  | 0, _, _, _ => by simp [RL]
  | n + 1, [], [], h => h
  | n + 1, _ :: _, _ :: _, h => by simpa [RL] using ⟨h.1, RL.take n h.2⟩
  | _ + 1, [], _ :: _, h => h.elim
  | _ + 1, _ :: _, [], h => h.elim

theorem RL.set {α β : Type} {R : α → β → Prop} {a : α} {b : β} (hab : R a b) : ∀ (n : Nat) {l : List α} {m : List β}, RL R l m → RL R (l.set n a) (m.set n b)
  | 0, _ :: _, _ :: _, h => ⟨hab, h.2⟩
  | n + 1, _ :: _, _ :: _, h => ⟨h.1, RL.set hab n h.2⟩
  | _, [], [], h => by simpa using h
  | _, [], _ :: _, h => h.elim
  | _, _ :: _, [], h => h.elim

theorem Rd.len {w : World} {ok : Nat → Prop} : ∀ {d : D} {x : d.T} {cs : List Value}, Rd w ok d x cs → cs.length = d.sz
  | .int _, _, _, h => by simp only [Rd] at h; subst h; rfl
  | .bool, _, _, h => by simp only [Rd] at h; subst h; rfl
  | .str, _, _, h => by simp only [Rd] at h; subst h; rfl
  | .pair a b, _, _, h => by
    simp only [Rd] at h
    obtain ⟨c1, c2, rfl, h1, h2⟩ := h
    simp [D.sz, Rd.len h1, Rd.len h2]
  | .list _, _, _, h => by
    simp only [Rd] at h
    obtain ⟨A, c, rfl, _⟩ := h
    rfl

theorem RdF.imp {α : Type} {R R' : α → List Value → Prop} (h : ∀ x cs, R x cs → R' x cs) : ∀ {xs : List α} {cs : List Value}, RdF R xs cs → RdF R' xs cs
  | [], _, e => e
  | _ :: _, _, ⟨c1, c2, e, h1, h2⟩ => ⟨c1, c2, e, h _ _ h1, RdF.imp h h2⟩

theorem RdF.app {α : Type} {R : α → List Value → Prop} : ∀ {xs ys : List α} {cs ds : List Value}, RdF R xs cs → RdF R ys ds → RdF R (xs ++ ys) (cs ++ ds)
  | [], _, _, _, e, h => by simp only [RdF] at e; subst e; exact h
  | _ :: _, _, _, _, ⟨c1, c2, e, h1, h2⟩, h => ⟨c1, c2 ++ _, by rw [e, List.append_assoc], h1, RdF.app h2 h⟩

theorem RdF.len {α : Type} {R : α → List Value → Prop} {sz : Nat} (hs : ∀ x cs, R x cs → cs.length = sz) : ∀ {xs : List α} {cs : List Value}, RdF R xs cs → cs.length = xs.length * sz
  | [], _, e => by simp only [RdF] at e; subst e; simp
  | x :: xs, _, ⟨c1, c2, e, h1, h2⟩ => by
    subst e
    rw [List.length_append, hs _ _ h1, RdF.len hs h2, List.length_cons, Nat.add_mul, Nat.one_mul, Nat.add_comm]

theorem RdF.get {α : Type} {R : α → List Value → Prop} {sz : Nat} (hs : ∀ x cs, R x cs → cs.length = sz) : ∀ {xs : List α} {cs : List Value}, RdF R xs cs → ∀ {i : Nat} {x : α}, xs[i]? = some x → R x ((cs.drop (i * sz)).take sz)
  | [], _, _, i, x, hi => by simp at hi
  | y :: xs, _, ⟨c1, c2, e, h1, h2⟩, 0, x, hi => by
    simp at hi
    subst hi
    subst e
    have := hs _ _ h1
    simpa [List.take_append, this, List.take_of_length_le] using h1
  | y :: xs, _, ⟨c1, c2, e, h1, h2⟩, i + 1, x, hi => by
    subst e
    have h := hs _ _ h1
    have := RdF.get hs h2 (i := i) (x := x) (by simpa using hi)
    have e : (c1 ++ c2).drop ((i + 1) * sz) = c2.drop (i * sz) := by
      rw [Nat.add_mul, Nat.one_mul, Nat.add_comm, List.drop_append, h]
      simp [List.drop_of_length_le, h]
    rw [e]
    exact this

theorem RdF.drop {α : Type} {R : α → List Value → Prop} {sz : Nat} (hs : ∀ x cs, R x cs → cs.length = sz) : ∀ (n : Nat) {xs : List α} {cs : List Value}, RdF R xs cs → RdF R (xs.drop n) (cs.drop (n * sz))
  | 0, _, _, h => by simpa using h
  | n + 1, [], _, h => by simp only [RdF] at h; subst h; simp [RdF]
  | n + 1, y :: xs, _, ⟨c1, c2, e, h1, h2⟩ => by
    subst e
    have h := hs _ _ h1
    have e : (c1 ++ c2).drop ((n + 1) * sz) = c2.drop (n * sz) := by
      rw [Nat.add_mul, Nat.one_mul, Nat.add_comm, List.drop_append, h]
      simp [List.drop_of_length_le, h]
    rw [e]
    exact RdF.drop hs n h2

theorem RdF.take {α : Type} {R : α → List Value → Prop} {sz : Nat} (hs : ∀ x cs, R x cs → cs.length = sz) : ∀ (n : Nat) {xs : List α} {cs : List Value}, RdF R xs cs → RdF R (xs.take n) (cs.take (n * sz))
  | 0, _, _, h => by simp [RdF]
  | n + 1, [], _, h => by simp only [RdF] at h; subst h; simp [RdF]
  | n + 1, y :: xs, _, ⟨c1, c2, e, h1, h2⟩ => by
    subst e
    have h := hs _ _ h1
    refine ⟨c1, c2.take (n * sz), ?_, h1, RdF.take hs n h2⟩
    rw [Nat.add_mul, Nat.one_mul, Nat.add_comm, List.take_append, h]
    simp [List.take_of_length_le, h]

theorem Rd.mono {w w' : World} {ok ok' : Nat → Prop} (ho : ∀ k, ok k → ok' k) (hh : ∀ k, ok k → w'.heap[k]? = w.heap[k]?) :
    ∀ {d : D} {x : d.T} {cs : List Value}, Rd w ok d x cs → Rd w' ok' d x cs
  | .int _, _, _, h => h
  | .bool, _, _, h => h
  | .str, _, _, h => h
  | .pair a b, _, _, h => by
    simp only [Rd] at h ⊢
    obtain ⟨c1, c2, e, h1, h2⟩ := h
    exact ⟨c1, c2, e, Rd.mono ho hh h1, Rd.mono ho hh h2⟩
  | .list a, _, _, h => by
    simp only [Rd] at h ⊢
    obtain ⟨A, c, e, hc, hm, hn, hr⟩ := h
    refine ⟨A, c, e, hc, hm, hn, ?_⟩
    rcases hr with hr | ⟨k, off, cells, T, fz, hA, hk, hb, hx⟩
    · exact .inl hr
    · exact .inr ⟨k, off, cells, T, fz, hA, ho k hk, (hh k hk).trans hb, RdF.imp (fun _ _ h => Rd.mono ho hh h) hx⟩

theorem RC.mono {x y : Cx} (h : x.le y) : ∀ {c : C} {v : Value}, RC x c v → RC y c v
  | .int _ _, _, h' => h'
  | .bool _, _, h' => h'
  | .str _, _, h' => h'
  | .ptr b off, _, ⟨h1, k, h2, h3⟩ => ⟨h.nm _ h1, k, by rw [h.eta b h1]; exact h2, h3⟩
  | .pel d _ off, _, ⟨k, o, cells, T, fz, cs, h1, h2, h3, h4, h5⟩ => ⟨k, o, cells, T, fz, cs, h1, h.ok k h2, (h.heap k h2).trans h3, Rd.mono h.ok h.heap h4, h5⟩
  | .prw b _ _ _, _, ⟨h1, k, h2, h3⟩ => ⟨h.nm _ h1, k, by rw [h.eta b h1]; exact h2, h3⟩
  | .row b, _, ⟨h1, h2, h3⟩ => ⟨h.nm _ h1, by rw [h.eta b h1]; exact h2, h3⟩
  | .dat d _, _, h' => by
    have h' : Rd x.w x.ok (.list d) _ _ := h'
    exact (Rd.mono h.ok h.heap h' : Rd y.w y.ok (.list d) _ _)
  | .val _, _, h' => h'
  | .fn f caps, _, ⟨vs, e, h'⟩ => ⟨vs, e, RL.imp (fun p u ⟨h1, k, h2, h3⟩ => ⟨h.nm _ h1, k, by rw [h.eta _ h1]; exact h2, h3⟩) h'⟩
  | .bm f b off, _, ⟨h1, k, h2, h3⟩ => ⟨h.nm _ h1, k, by rw [h.eta b h1]; exact h2, h3⟩
  | .mp b, _, ⟨h1, k, h2, h3⟩ => ⟨h.nm _ h1, k, by rw [h.eta b h1]; exact h2, h3⟩
  | .csl b _, _, ⟨h1, k, h2, h3⟩ => ⟨h.nm _ h1, k, by rw [h.eta b h1]; exact h2, h3⟩
  | .sub b _ _ _ _, _, ⟨h1, g1, g2, k, o', h2, h3⟩ => ⟨h.nm _ h1, g1, g2, k, o', by rw [h.eta b h1]; exact h2, h3⟩

theorem RP.mono {x y : Cx} (h : x.le y) {p : Bool × List C} {v : Value} (h' : RP x p v) : RP y p v := by
  unfold RP at *
  by_cases hp : p.1 = true
  · rw [if_pos hp] at h' ⊢
    obtain ⟨vs, e, hl⟩ := h'
    exact ⟨vs, e, RL.imp (fun _ _ => RC.mono h) hl⟩
  · rw [if_neg hp] at h' ⊢
    obtain ⟨z, e, hl⟩ := h'
    exact ⟨z, e, RC.mono h hl⟩

theorem RS.mono {x y : Cx} (h : x.le y) : ∀ {s : SV} {v : Value}, RS x s v → RS y s v
  | .c _, _, h' => RC.mono (x := x) h h'
  | .agg _, _, ⟨vs, e, hl⟩ => ⟨vs, e, RL.imp (fun _ _ => RC.mono h) hl⟩
  | .tup _, _, ⟨vs, e, hl⟩ => ⟨vs, e, RL.imp (fun _ _ => RP.mono h) hl⟩
  | .un, _, _ => trivial

theorem RO.mono {x y : Cx} (h : x.le y) {b : Nat} (hb : x.nm b) (hk : ∀ k, (x.η b).1 = some k → y.w.heap[k]? = x.w.heap[k]?) : ∀ {o : Ob}, RO x b o → RO y b o
  | .cells T l, ⟨k, vs, h1, h2, h3⟩ => ⟨k, vs, by rw [h.eta b hb]; exact h1, (hk k h1).trans h2, RL.imp (fun _ _ => RC.mono h) h3⟩
  | .lmp T k es, ⟨r, arr, h1, h2, h3, h4⟩ => ⟨r, arr, by rw [h.eta b hb]; exact h1, (hk r h1).trans h2, RL.imp (fun _ _ ⟨g1, g2⟩ => ⟨g1, RS.mono h g2⟩) h3, h4⟩
  | .dmp T kd vd es, ⟨r, arr, h1, h2, h3, h4⟩ => ⟨r, arr, by rw [h.eta b hb]; exact h1, (hk r h1).trans h2, h3, h4⟩
  | .wid T d xs c, ⟨k, cur, h1, h2, h3, h4, h5, h6⟩ => ⟨k, cur, by rw [h.eta b hb]; exact h1, (hk k h1).trans h2, h3, h4, h5, RdF.imp (fun _ _ => Rd.mono h.ok h.heap) h6⟩
  | .itr m n seen, ⟨r, q, h1, h2, h3, h4⟩ => ⟨r, q, by rw [h.eta b hb]; exact h1, h.nm _ h2, by rw [h.eta m h2]; exact h3, (hk r h1).trans h4⟩
  | .row T d xs, ⟨cs, h1, h2, h3⟩ => by
    refine ⟨cs, by rw [h.eta b hb]; exact h1, ?_, RdF.imp (fun _ _ => Rd.mono h.ok h.heap) h3⟩
    rw [h.eta b hb]
    refine ⟨h2.1, ?_⟩
    rcases h2.2 with hn | ⟨g, cap, cur, hv, hb0, hg, hr⟩
    · exact .inl hn
    · exact .inr ⟨g, cap, cur, hv, hb0, (hk g (by rw [h1, hv]; rfl)).trans hg, hr⟩

theorem RepF.mono {x y : Cx} (h : x.le y) {nt : Nat} {fr : List (Nat × SV)} {a : Act} (h' : RepF x nt fr a) : RepF y nt fr a :=
  ⟨fun t sv ht => let ⟨v, h1, h2⟩ := h'.sl t sv ht; ⟨v, h1, RS.mono h h2⟩, h'.siz, h'.dfr⟩

/-- memory is made, nothing that was there is turned -/
theorem cx_below {w0 : W0} {hp : List (Nat × Ob)} {nx : Nat → Prop} {η : Nat → Option Nat × Value} {w w' : World} (h : Below w.heap.size w w') : (cxS w0 hp nx η w).le (cxS w0 hp nx η w') :=
  ⟨fun _ _ => rfl, fun _ h => h, fun _ ⟨h1, h2⟩ => ⟨⟨Nat.lt_of_lt_of_le h1.1 h.size, h1.2⟩, h2⟩, fun k ⟨h1, _⟩ => h.block k h1.1⟩

theorem RepH.below {w0 : W0} {hp : List (Nat × Ob)} {nx : Nat → Prop} {η : Nat → Option Nat × Value} {w w' : World} (h : RepH w0 hp nx η w) (hb : Below w.heap.size w w') : RepH w0 hp nx η w' :=
  ⟨fun b o ho => RO.mono (cx_below hb) (h.nxt b (by rw [ho]; simp)) (fun k hk => hb.block k (h.new b k (by rw [ho]; simp) hk).2) (h.obs b o ho),
   h.sep, fun b k h1 h2 => let ⟨p, q⟩ := h.new b k h1 h2; ⟨p, Nat.lt_of_lt_of_le q hb.size⟩, h.nxt, h.bel.trans (hb.mono h.bel.size)⟩

end OE
