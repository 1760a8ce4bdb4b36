/- OE, part 2: the quiet operations: what each yields, and that the model's operation yields just that. Own work; generic over the program. -/
import Derived.Test.YthpllblcbbkfdaaOeKey
import Derived.Laws.Strings
namespace OE
open Go Go.RowKit

inductive TK where
  | int (k : IntKind) | bool | str | strct (fs : List (Nat × Nat × Bool)) | slice (e : TypeId) | ptr (e : TypeId) | array (n : Nat) (e : TypeId) | map (k e : TypeId) (kd : D) | other
structure TI where
  tk : TK
  sz : Nat
  byt : Nat
  zero : List C
  d : D

def TK.agg : TK → Bool
  | .strct _ => true
  | .array _ _ => true
  | _ => false

/-- a plain value's abstract cell -/
def cv : Value → SV
  | .int k n => .c (.int k n)
  | .bool b => .c (.bool (BE.of b))
  | .string s => .c (.str s.data.toList)
  | .slice none 0 0 => .c (.val (.slice none 0 0))
  | .pointer none => .c (.val (.pointer none))
  | .nilFunc => .c (.val .nilFunc)
  | .nilIface => .c (.val .nilIface)
  | .map none => .c (.val (.map none))
  | .chan none => .c (.val (.chan none))
  | _ => .un

def valIs : C → Value → Bool
  | .int k n, .int k' n' => k == k' && n == n'
  | .bool b, .bool b' => b.v == b'
  | .str s, .string s' => s'.data.toList == s
  | .val (.slice none 0 0), .slice none 0 0 => true
  | .val (.pointer none), .pointer none => true
  | .val .nilFunc, .nilFunc => true
  | .val .nilIface, .nilIface => true
  | .val (.map none), .map none => true
  | .val (.chan none), .chan none => true
  | _, _ => false

def allIs : List C → List Value → Bool
  | [], [] => true
  | c :: cs, v :: vs => valIs c v && allIs cs vs
  | _, _ => false

def isAggD : Option TypeDesc → Bool
  | some (.struct _) => true
  | some (.array _ _) => true
  | _ => false

def fldIs (P : Program) : List (Nat × Nat × Bool) → List Field → Bool
  | [], [] => true
  | (o, s, ag) :: fs, f :: gs => f.offset == o && P.cellsOf f.type == s && (P.info? f.type).isSome && (P.underlying f.type).isSome && isAggD (P.underlying f.type) == ag && decide (0 < s) && fldIs P fs gs
  | _, _ => false

def tkIs (P : Program) (t : TypeId) : TK → Bool
  | .int k => match P.underlying t with | some (.int k') => k == k' | _ => false
  | .bool => match P.underlying t with | some .bool => true | _ => false
  | .str => match P.underlying t with | some .string => true | _ => false
  | .strct fs => match P.underlying t with | some (.struct fl) => fldIs P fs fl.toList | _ => false
  | .slice e => match P.underlying t with | some (.slice e') => e == e' && (P.info? e).isSome | _ => false
  | .ptr e => match P.underlying t with | some (.pointer e') => e == e' | _ => false
  | .array n e => match P.underlying t with | some (.array n' e') => n == n' && e == e' | _ => false
  | .map k e kd => match P.underlying t with | some (.map k' e') => k == k' && e == e' && keyB P k kd | _ => false
  | .other => (P.underlying t).isSome && !isAggD (P.underlying t)

/-- a row of the table is right -/
def tiIs (P : Program) (t : TypeId) (i : TI) : Bool :=
  (match P.info? t with
    | some j => j.size == i.sz && j.bytes == i.byt && decide (0 < i.byt) && (match j.zero with | some z => (match i.tk, z with | .strct _, .agg cs => allIs i.zero cs.toList | .strct _, _ => false | .array _ _, .agg cs => allIs i.zero cs.toList | .array _ _, _ => false | _, z => allIs i.zero [z]) | none => false)
    | none => false) && (tkIs P t i.tk && i.zero.length == i.sz)

def TabOk (P : Program) (ti : Nat → Option TI) : Prop := ∀ t i, ti t = some i → tiIs P t i = true

theorem tab_of {P : Program} {l : List (Nat × TI)} (h : (l.all fun p => tiIs P p.1 p.2) = true) : TabOk P (lk l) := by
  intro t i hi
  induction l with
  | nil => simp [lk] at hi
  | cons p l ih =>
    obtain ⟨k, v⟩ := p
    simp only [List.all_cons, Bool.and_eq_true] at h
    simp only [lk] at hi
    split at hi
    · rename_i e; subst e; cases hi; exact h.1
    · exact ih h.2 hi

/-! ### what a table's row tells -/

structure Is (P : Program) (t : TypeId) (i : TI) : Prop where
  info : ∃ j, P.info? t = some j ∧ j.size = i.sz ∧ j.bytes = i.byt
  byt : 0 < i.byt
  tk : tkIs P t i.tk = true
  agg : ∃ u, P.underlying t = some u ∧ isAggD (some u) = i.tk.agg
  zlen : i.zero.length = i.sz
  zero : ∃ j z, P.info? t = some j ∧ j.zero = some z ∧ (if i.tk.agg then ∃ cs, z = .agg cs ∧ allIs i.zero cs.toList = true else allIs i.zero [z] = true)

theorem tk_agg {P : Program} {t : TypeId} {k : TK} (h : tkIs P t k = true) : ∃ u, P.underlying t = some u ∧ isAggD (some u) = k.agg := by
  cases k <;> simp only [tkIs] at h
  case other =>
    cases hu : P.underlying t with
    | none => simp [hu] at h
    | some u => rw [hu] at h; exact ⟨u, rfl, by simpa [TK.agg] using h⟩
  all_goals
    cases hu : P.underlying t with
    | none => simp [hu] at h
    | some u =>
      rw [hu] at h
      refine ⟨u, rfl, ?_⟩
      cases u <;> simp_all [isAggD, TK.agg]

theorem TabOk.is {P : Program} {ti : Nat → Option TI} (h : TabOk P ti) {t : Nat} {i : TI} (hi : ti t = some i) : Is P t i := by
  have := h t i hi
  simp only [tiIs, Bool.and_eq_true, beq_iff_eq] at this
  obtain ⟨h1, h2, hzl⟩ := this
  have hag := tk_agg h2
  cases hj : P.info? t with
  | none => simp [hj] at h1
  | some j =>
    rw [hj] at h1
    simp only [Bool.and_eq_true, beq_iff_eq, decide_eq_true_eq] at h1
    obtain ⟨⟨⟨h3, h4⟩, h5⟩, h6⟩ := h1
    refine ⟨⟨j, hj, h3, h4⟩, h5, h2, hag, hzl, ?_⟩
    cases hz : j.zero with
    | none => simp [hz] at h6
    | some z =>
      rw [hz] at h6
      refine ⟨j, z, hj, hz, ?_⟩
      cases hk : i.tk with
      | strct fs =>
        rw [hk] at h6
        cases z <;> simp_all [TK.agg]
      | array n e =>
        rw [hk] at h6
        cases z <;> simp_all [TK.agg]
      | _ => rw [hk] at h6; simpa [TK.agg] using h6

theorem rc_of_valIs {x : Cx} : ∀ {c : C} {v : Value}, valIs c v = true → RC x c v := by
  intro c v h
  unfold valIs at h
  split at h <;> simp_all [RC, Value.oneCell']
  rename_i s s'
  cases s' with | mk d => cases d; simp at h; subst h; rfl

theorem rl_of_allIs {x : Cx} : ∀ {l : List C} {m : List Value}, allIs l m = true → RL (RC x) l m
  | [], [], _ => trivial
  | c :: cs, v :: vs, h => by
    simp only [allIs, Bool.and_eq_true] at h
    exact ⟨rc_of_valIs h.1, rl_of_allIs h.2⟩
  | [], _ :: _, h => by simp [allIs] at h
  | _ :: _, [], h => by simp [allIs] at h

theorem rs_cv {x : Cx} (v : Value) : RS x (cv v) v := by
  unfold cv
  split <;> simp [RS, RC, Value.oneCell', BE.of_v]

/-- no cell of an abstract list stands for an aggregate -/
theorem RC.one {x : Cx} : ∀ {c : C} {v : Value}, RC x c v → v.oneCell' = true
  | .int _ _, _, h => by simp only [RC] at h; subst h; rfl
  | .bool _, _, h => by simp only [RC] at h; subst h; rfl
  | .str _, _, h => by simp only [RC] at h; subst h; rfl
  | .ptr _ _, _, ⟨_, _, _, h⟩ => by subst h; rfl
  | .pel _ _ _, _, ⟨_, _, _, _, _, _, h, _⟩ => by subst h; rfl
  | .prw _ _ _ _, _, ⟨_, _, _, h⟩ => by subst h; rfl
  | .row _, _, ⟨_, _, _, _, _, h⟩ => by subst h; rfl
  | .dat _ _, _, h => by
    simp only [RC, Rd] at h
    obtain ⟨A, c, h, _⟩ := h
    simp only [List.cons.injEq, and_true] at h
    subst h; rfl
  | .val _, _, h => by obtain ⟨rfl, h⟩ := h; exact h
  | .bm _ _ _, _, ⟨_, _, _, h⟩ => by subst h; rfl
  | .mp _, _, ⟨_, _, _, h⟩ => by subst h; rfl
  | .csl _ _, _, ⟨_, _, _, h⟩ => by subst h; rfl
  | .sub _ _ _ _ _, _, ⟨_, _, _, _, _, _, h, _⟩ => by subst h; rfl
  | .fn _ _, _, ⟨_, h, _⟩ => by subst h; rfl

/-! ### the quiet operations -/

/-- a condition, or none -/
def OP : Option Prop → Prop
  | none => True
  | some p => p
@[simp] theorem OP_none : OP none = True := rfl
@[simp] theorem OP_some (p : Prop) : OP (some p) = p := rfl

structure Q where
  hyp : Option Prop
  pre : Option Prop
  v : SV

/-- a byte of a text -/
def bt (s : List UInt8) (i : Int) : Int := (s.getD i.toNat 0).toNat

def binI (op : BinOp) (k : IntKind) (a b : Int) : Option Q :=
  match op with
  | .add => some ⟨none, none, .c (.int k (k.wrap (a + b)))⟩
  | .sub => some ⟨none, none, .c (.int k (k.wrap (a - b)))⟩
  | .mul => some ⟨none, none, .c (.int k (k.wrap (a * b)))⟩
  | .quo => some ⟨none, some (b ≠ 0), .c (.int k (k.wrap (a.tdiv b)))⟩
  | .rem => some ⟨none, some (b ≠ 0), .c (.int k (a.tmod b))⟩
  | .and => some ⟨none, none, .c (.int k (bits .and k a b))⟩
  | .or => some ⟨none, none, .c (.int k (bits .or k a b))⟩
  | .xor => some ⟨none, none, .c (.int k (bits .xor k a b))⟩
  | .andNot => some ⟨none, none, .c (.int k (bits .andNot k a b))⟩
  | .eql => some ⟨none, none, .c (.bool (.sym (decide (a = b))))⟩
  | .neq => some ⟨none, none, .c (.bool (.sym (!decide (a = b))))⟩
  | .lss => some ⟨none, none, .c (.bool (.sym (decide (a < b))))⟩
  | .leq => some ⟨none, none, .c (.bool (.sym (decide (a ≤ b))))⟩
  | .gtr => some ⟨none, none, .c (.bool (.sym (decide (b < a))))⟩
  | .geq => some ⟨none, none, .c (.bool (.sym (decide (b ≤ a))))⟩
  | _ => none

def shf (op : BinOp) (k : IntKind) (a b : Int) : Option Q :=
  match op with
  | .shl => some ⟨none, some (0 ≤ b), .c (.int k (k.wrap (a * 2 ^ (min b.toNat k.bits))))⟩
  | .shr => some ⟨none, some (0 ≤ b), .c (.int k (a / 2 ^ (min b.toNat k.bits)))⟩
  | _ => none

def isShift : BinOp → Bool
  | .shl | .shr => true
  | _ => false

def binS (op : BinOp) (a b : List UInt8) : Option Q :=
  match op with
  | .add => some ⟨none, some (a.length + b.length ≤ 9223372036854775807), .c (.str (a ++ b))⟩
  | .eql => some ⟨none, none, .c (.bool (.sym (decide (a = b))))⟩
  | .neq => some ⟨none, none, .c (.bool (.sym (!decide (a = b))))⟩
  | .lss => some ⟨none, none, .c (.bool (.sym (Op.bytesLess a b)))⟩
  | .leq => some ⟨none, none, .c (.bool (.sym (Op.bytesLess a b || decide (a = b))))⟩
  | .gtr => some ⟨none, none, .c (.bool (.sym (!(Op.bytesLess a b || decide (a = b)))))⟩
  | .geq => some ⟨none, none, .c (.bool (.sym (!Op.bytesLess a b)))⟩
  | _ => none

def binV (op : BinOp) : SV → SV → Option Q
  | .c (.int k a), .c (.int k' b) => if isShift op then shf op k a b else if k = k' then binI op k a b else none
  | .c (.str a), .c (.str b) => binS op a b
  | _, _ => none

def unV (op : UnOp) : SV → Option Q
  | .c (.bool b) => match op with | .not => some ⟨none, none, .c (.bool b.not)⟩ | _ => none
  | .c (.int k a) => match op with | .neg => some ⟨none, none, .c (.int k (k.wrap (0 - a)))⟩ | .xor => some ⟨none, none, .c (.int k (bits .xor k (if k.signed then -1 else k.max) a))⟩ | _ => none
  | _ => none

/-- numbers as bytes -/
def byl (xs : List Int) : List UInt8 := xs.map fun n => UInt8.ofNat n.toNat

def isB (ti : Nat → Option TI) (s : TypeId) : Bool := match ti s with
  | some ⟨.slice e, _, _, _, _⟩ => match ti e with
    | some ⟨.int .u8, _, _, _, _⟩ => true
    | _ => false
  | _ => false
def isS (ti : Nat → Option TI) (s : TypeId) : Bool := match ti s with
  | some ⟨.str, _, _, _, _⟩ => true
  | _ => false

/-- bytes as a text -/
def cbsV (ti : Nat → Option TI) (hp : List (Nat × Ob)) (s d : TypeId) : SV → Option Q
  | .c (.dat (.int .u8) xs) => if isB ti s && isS ti d then some ⟨none, none, .c (.str (byl xs))⟩ else none
  | .c (.row b) => match lk hp b with
    | some (.row _ (.int .u8) xs) => if isB ti s && isS ti d then some ⟨none, none, .c (.str (byl xs))⟩ else none
    | _ => none
  | _ => none

def convV (s d : Option TI) : SV → Option Q
  | .c (.int _ a) => match s, d with | some ⟨.int _, _, _, _, _⟩, some ⟨.int k', _, _, _, _⟩ => some ⟨none, none, .c (.int k' (k'.wrap a))⟩ | _, _ => none
  | .c (.str a) => match s, d with | some ⟨.str, _, _, _, _⟩, some ⟨.str, _, _, _, _⟩ => some ⟨none, none, .c (.str a)⟩ | _, _ => none
  | _ => none

def extV (i : Nat) : SV → Option Q
  | .tup l => match l[i]? with
    | some (true, cs) => some ⟨none, none, .agg cs⟩
    | some (false, [c]) => some ⟨none, none, .c c⟩
    | _ => none
  | _ => none

/-- cells out of cells, as a value of a type -/
def ldV (i : TI) (l : List C) (o : Nat) : Option Q :=
  if i.tk.agg then (if o + i.sz ≤ l.length then some ⟨none, none, .agg ((l.drop o).take i.sz)⟩ else none)
  else match l[o]? with
    | some c => some ⟨none, none, .c c⟩
    | none => none

def loadV (i : Option TI) (hp : List (Nat × Ob)) : SV → Option Q
  | .c (.ptr b o) => match i, lk hp b with
    | some i, some (.cells _ l) => ldV i l o
    | _, _ => none
  | .c (.pel d x o) => match i with
    | some i => ldV i (d.cs x) o
    | _ => none
  | .c (.prw b j s o) => match i, lk hp b with
    | some i, some (.row _ d xs) => if s = d.sz then (match ldV i (d.cs (gt xs j)) o with
      | some q => some ⟨none, some (0 ≤ j ∧ j < xs.length), q.v⟩
      | none => none) else none
    | some i, some (.wid _ d xs _) => if s = d.sz then (match ldV i (d.cs (gt xs j)) o with
      | some q => some ⟨none, some (0 ≤ j ∧ j < xs.length), q.v⟩
      | none => none) else none
    | _, _ => none
  | _ => none

def fadV (i : Option TI) (f : Nat) : SV → Option Q
  | .c (.ptr b o) => match i with
    | some ⟨.strct fs, _, _, _, _⟩ => match fs[f]? with | some (o', _, _) => some ⟨none, none, .c (.ptr b (o + o'))⟩ | none => none
    | _ => none
  | .c (.pel d x o) => match i with
    | some ⟨.strct fs, _, _, _, _⟩ => match fs[f]? with | some (o', _, _) => some ⟨none, none, .c (.pel d x (o + o'))⟩ | none => none
    | _ => none
  | .c (.prw b j s o) => match i with
    | some ⟨.strct fs, _, _, _, _⟩ => match fs[f]? with | some (o', _, _) => some ⟨none, none, .c (.prw b j s (o + o'))⟩ | none => none
    | _ => none
  | _ => none

def fldV (i : Option TI) (f : Nat) : SV → Option Q
  | .agg l => match i with
    | some ⟨.strct fs, _, _, _, _⟩ => match fs[f]? with
      | some (o, s, true) => if o + s ≤ l.length then some ⟨none, none, .agg ((l.drop o).take s)⟩ else none
      | some (o, _, false) => match l[o]? with | some c => some ⟨none, none, .c c⟩ | none => none
      | none => none
    | _ => none
  | _ => none

def idxV (i : Option TI) : SV → SV → Option Q
  | .c (.str s), .c (.int _ j) => match i with
    | some ⟨.str, _, _, _, _⟩ => some ⟨none, some (0 ≤ j ∧ j < s.length), .c (.int .u8 (bt s j))⟩
    | _ => none
  | _, _ => none

def sz? (ti : Nat → Option TI) (e : TypeId) : Option Nat := match ti e with | some i => some i.sz | none => none

/-- the place of an element of an array -/
def arrV (ti : Nat → Option TI) (T : TypeId) : Int → Option Nat
  | .ofNat j => match ti T with
    | some ⟨.array n e, _, _, _, _⟩ => match sz? ti e with
      | some s => if j < n then some (j * s) else none
      | none => none
    | _ => none
  | _ => none

/-- Bools told equal -/
def eqB (op : BinOp) (i : Option TI) : SV → SV → Option Q
  | .c (.bool a), .c (.bool b) => match i with
    | some ⟨.bool, _, _, _, _⟩ => match op with
      | .eql => some ⟨none, none, .c (.bool (.sym (a.v == b.v)))⟩
      | .neq => some ⟨none, none, .c (.bool (.sym (!(a.v == b.v))))⟩
      | _ => none
    | _ => none
  | _, _ => none

/-- pointers, one of them nil, told equal -/
def nlB : SV → SV → Option Bool
  | .c (.ptr _ _), .c (.val (.pointer none)) => some false
  | .c (.val (.pointer none)), .c (.ptr _ _) => some false
  | .c (.pel _ _ _), .c (.val (.pointer none)) => some false
  | .c (.val (.pointer none)), .c (.pel _ _ _) => some false
  | .c (.val (.pointer none)), .c (.val (.pointer none)) => some true
  | _, _ => none
def nilB (op : BinOp) (i : Option TI) (x y : SV) : Option Q :=
  match i with
  | some ⟨.ptr _, _, _, _, _⟩ => match nlB x y with
    | some b => match op with
      | .eql => match b with
        | true => some ⟨none, none, .c (.bool .tt)⟩
        | false => some ⟨none, none, .c (.bool .ff)⟩
      | .neq => match b with
        | true => some ⟨none, none, .c (.bool .ff)⟩
        | false => some ⟨none, none, .c (.bool .tt)⟩
      | _ => none
    | none => none
  | _ => none

def iadV (ti : Nat → Option TI) (T : TypeId) (hp : List (Nat × Ob)) : SV → SV → Option Q
  | .c (.dat d xs), .c (.int _ j) => match ti T with
    | some ⟨.slice e, _, _, _, _⟩ => if sz? ti e = some d.sz then some ⟨some (xs.length ≤ 9223372036854775807), some (0 ≤ j ∧ j < xs.length), .c (.pel d (gt xs j) 0)⟩ else none
    | _ => none
  | .c (.row b), .c (.int _ j) => match ti T, lk hp b with
    | some ⟨.slice e, _, _, _, _⟩, some (.row _ d xs) => if sz? ti e = some d.sz then some ⟨some (xs.length ≤ 9223372036854775807), some (0 ≤ j ∧ j < xs.length), .c (.prw b j d.sz 0)⟩ else none
    | _, _ => none
  | .c (.ptr b o), .c (.int _ j) => match lk hp b with
    | some (.wid _ d _ _) => match ti T with
      | some ⟨.array n e, _, _, _, _⟩ => match Nat.beq o 0 with
        | true => if sz? ti e = some d.sz then some ⟨none, some (0 ≤ j ∧ j < n), .c (.prw b j d.sz 0)⟩ else none
        | false => none
      | _ => none
    | _ => match arrV ti T j with
      | some p => some ⟨none, none, .c (.ptr b (o + p))⟩
      | none => none
  | .c (.csl b n), .c (.int _ j) => match ti T with
    | some ⟨.slice e, _, _, _, _⟩ => match j with
      | .ofNat m => match Nat.blt m n with
        | true => match sz? ti e with
          | some s => some ⟨none, none, .c (.ptr b (m * s))⟩
          | none => none
        | false => none
      | _ => none
    | _ => none
  | .c (.pel d y o), .c (.int _ j) => match arrV ti T j with
    | some p => some ⟨none, none, .c (.pel d y (o + p))⟩
    | none => none
  | .c (.sub b o sz n _), .c (.int _ j) => match ti T with
    | some ⟨.slice e, _, _, _, _⟩ => if sz? ti e = some sz then some ⟨none, some (0 ≤ j ∧ j < n), .c (.prw b (o + j) sz 0)⟩ else none
    | _ => none
  | _, _ => none

/-- the bounds of a cut -/
def cutB (n : Nat) (lo hi : Option SV) : Option (Prop × Nat × Nat) :=
  match lo, hi with
  | none, none => some (True, 0, n)
  | some (.c (.int _ a)), none => some (0 ≤ a ∧ a ≤ n, a.toNat, n)
  | none, some (.c (.int _ b)) => some (0 ≤ b ∧ b ≤ n, 0, b.toNat)
  | some (.c (.int _ a)), some (.c (.int _ b)) => some ((0 ≤ b ∧ b ≤ n) ∧ 0 ≤ a ∧ a ≤ b, a.toNat, b.toNat)
  | _, _ => none

def cutV (ti : Nat → Option TI) (T : TypeId) (lo hi : Option SV) : SV → Option Q
  | .c (.str s) => match ti T, cutB s.length lo hi with
    | some ⟨.str, _, _, _, _⟩, some (p, a, b) => some ⟨none, some (p), .c (.str ((s.take b).drop a))⟩
    | _, _ => none
  | .c (.dat d xs) => match ti T, cutB xs.length lo hi with
    | some ⟨.slice e, _, _, _, _⟩, some (p, a, b) => if sz? ti e = some d.sz then some ⟨none, some (p), .c (.dat d ((xs.take b).drop a))⟩ else none
    | _, _ => none
  | _ => none

/-- a cut with three bounds: only whether it may be -/
def cut3 (hp : List (Nat × Ob)) (i : Option TI) (ti : Nat → Option TI) : SV → SV → SV → SV → Option Q
  | .c x, .c (.int _ a), .c (.int _ h), .c (.int _ m) => match i with
    | some ⟨.slice e, _, _, _, _⟩ => match sz? ti e with
      | some _ => match x with
        | .dat _ xs => some ⟨none, some (0 ≤ a ∧ a ≤ h ∧ h ≤ m ∧ m ≤ xs.length), .un⟩
        | .sub _ _ _ n _ => some ⟨none, some (0 ≤ a ∧ a ≤ h ∧ h ≤ m ∧ m ≤ n), .un⟩
        | .row b => match lk hp b with
          | some (.row _ _ xs) => some ⟨none, some (0 ≤ a ∧ a ≤ h ∧ h ≤ m ∧ m ≤ xs.length), .un⟩
          | _ => none
        | _ => none
      | none => none
    | _ => none
  | _, _, _, _ => none

/-- cuts of a row of the call's own whose capacity is known, and of nil -/
def cutS (ti : Nat → Option TI) (T : TypeId) (lo hi : Option SV) : SV → Option Q
  | .c (.sub b o sz n c) => match ti T with
    | some ⟨.slice e, _, _, _, _⟩ => if sz? ti e = some sz then (match hi with
      | none => match cutB n lo none with
        | some (p, a, h) => some ⟨none, some p, .c (.sub b (o + a) sz (h - a) (c - a))⟩
        | none => none
      | some s => match cutB c lo (some s) with
        | some (p, a, h) => some ⟨none, some p, .c (.sub b (o + a) sz (h - a) (c - a))⟩
        | none => none) else none
    | _ => none
  | .c (.val (.slice none 0 0)) => match ti T with
    | some ⟨.slice e, _, _, _, _⟩ => match sz? ti e with
      | some _ => match cutB 0 lo hi with
        | some (p, _, _) => some ⟨none, some p, .c (.val (.slice none 0 0))⟩
        | none => none
      | none => none
    | _ => none
  | _ => none

def capV (i : Option TI) : SV → Option Q
  | .c (.sub _ _ _ n c) => match i with | some ⟨.slice _, _, _, _, _⟩ => some ⟨some (n ≤ c ∧ c ≤ 9223372036854775807), none, .c (.int .i64 c)⟩ | _ => none
  | .c (.val (.slice none 0 0)) => match i with | some ⟨.slice _, _, _, _, _⟩ => some ⟨none, none, .c (.int .i64 0)⟩ | _ => none
  | _ => none

def lenV (hp : List (Nat × Ob)) (i : Option TI) : SV → Option Q
  | .c (.str s) => match i with | some ⟨.str, _, _, _, _⟩ => some ⟨none, none, .c (.int .i64 s.length)⟩ | _ => none
  | .c (.dat _ xs) => match i with | some ⟨.slice _, _, _, _, _⟩ => some ⟨some (xs.length ≤ 9223372036854775807), none, .c (.int .i64 xs.length)⟩ | _ => none
  | .c (.row b) => match i, lk hp b with
    | some ⟨.slice _, _, _, _, _⟩, some (.row _ _ xs) => some ⟨some (xs.length ≤ 9223372036854775807), none, .c (.int .i64 xs.length)⟩
    | _, _ => none
  | .c (.val (.slice none 0 0)) => match i with | some ⟨.slice _, _, _, _, _⟩ => some ⟨none, none, .c (.int .i64 0)⟩ | _ => none
  | .c (.csl _ n) => match i with | some ⟨.slice _, _, _, _, _⟩ => some ⟨none, none, .c (.int .i64 n)⟩ | _ => none
  | .c (.sub _ _ _ n c) => match i with | some ⟨.slice _, _, _, _, _⟩ => some ⟨some (n ≤ c ∧ c ≤ 9223372036854775807), none, .c (.int .i64 n)⟩ | _ => none
  | _ => none

def caps : List SV → Option (List (Nat × Nat))
  | [] => some []
  | .c (.ptr b o) :: l => match caps l with | some m => some ((b, o) :: m) | none => none
  | _ => none

/-- parts laid into a struct's cells -/
def fillC (fs : List (Nat × Nat × Bool)) : List C → List (Nat × SV) → Option (List C)
  | cells, [] => some cells
  | cells, (i, v) :: r => match fs[i]? with
    | some (o, s, _) => match v with
      | .c y => if s = 1 ∧ o < cells.length then fillC fs (cells.set o y) r else none
      | .agg l => if l.length = s ∧ o + s ≤ cells.length then fillC fs (cells.take o ++ l ++ cells.drop (o + s)) r else none
      | _ => none
    | none => none

def bldV (i : Option TI) (parts : List (Nat × SV)) : Option Q :=
  match i with
  | some ⟨.strct fs, _, _, z, _⟩ => match fillC fs z parts with | some l => some ⟨none, none, .agg l⟩ | none => none
  | _ => none

def qv (ti : Nat → Option TI) (hp : List (Nat × Ob)) (g : Operand → SV) : Op → Option Q
  | .move x => some ⟨none, none, g x⟩
  | .assign x => some ⟨none, none, g x⟩
  | .pick c a b => match g c with
    | .c (.bool t) => match t with
      | .tt => some ⟨none, none, g a⟩
      | .ff => some ⟨none, none, g b⟩
      | .sym t => some ⟨none, none, if t = true then g a else g b⟩
    | _ => none
  | .binOp op t x y _ => match binV op (g x) (g y) with
    | some q => some q
    | none => match eqB op (ti t) (g x) (g y) with
      | some q => some q
      | none => nilB op (ti t) (g x) (g y)
  | .unOp op _ x => unV op (g x)
  | .convert s d x => match convV (ti s) (ti d) (g x) with
    | some q => some q
    | none => cbsV ti hp s d (g x)
  | .extract x i => extV i (g x)
  | .fieldAddr T x f => fadV (ti T) f (g x)
  | .field T x f => fldV (ti T) f (g x)
  | .load T x => loadV (ti T) hp (g x)
  | .index T x i => idxV (ti T) (g x) (g i)
  | .indexAddr T x i => iadV ti T hp (g x) (g i)
  | .slice T x lo hi none => match cutV ti T (lo.map g) (hi.map g) (g x) with
    | some q => some q
    | none => cutS ti T (lo.map g) (hi.map g) (g x)
  | .slice T x (some lo) (some hi) (some m) => cut3 hp (ti T) ti (g x) (g lo) (g hi) (g m)
  | .nilCheck x => match g x with
    | .c (.ptr b o) => some ⟨none, none, .c (.ptr b o)⟩
    | .c (.pel d y o) => some ⟨none, none, .c (.pel d y o)⟩
    | _ => none
  | .makeFunc (.func f) first captured => match first.toList, caps (captured.toList.map g) with
    | [], some l => some ⟨none, none, .c (.fn f l)⟩
    | [x], some [] => match g x with
      | .c (.ptr b o) => some ⟨none, none, .c (.bm f b o)⟩
      | _ => none
    | _, _ => none
  | .build T parts => bldV (ti T) (parts.toList.map fun p => (p.1, g p.2))
  | .call c => match c.callee, c.args.toList, c.argTypes.toList with
    | .builtin .len, [x], [t] => lenV hp (ti t) (g x)
    | .builtin .cap, [x], [t] => capV (ti t) (g x)
    | _, _, _ => none
  | _ => none

end OE
