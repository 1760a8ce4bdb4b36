/- OE, part 5: the run over abstract states, and that it is right. Own work; generic over the program. -/
import Derived.Test.YthpllblcbbkfdaaOeMapOp
import Derived.Deep.LoopGhost
namespace OE
open Go Go.RowKit

inductive It where
  | code (c : Code)
  | ops (all : Array Oper) (l : List Oper)
  | blk (id : Nat)
  | scp
  | fin (R : St → Prop)

/-- what is wanted of a function: its slots, its results -/
structure FI where
  fn : Func
  nt : Nat
  res : List ResultVar

structure Fm where
  fi : FI
  fr : List (Nat × SV)
  todo : List It
  dst : Option Tmp

structure En where
  P : Program
  ti : Nat → Option TI
  inl : Nat → Option (FI × Code)
  post : SV → St → Prop

def ev (fr : List (Nat × SV)) : Operand → SV
  | .tmp t => (lk fr t).getD .un
  | .const v => cv v
  | .func f => .c (.fn f [])
  | .global _ => .un

def putF (nt : Nat) (fr : List (Nat × SV)) (dst : Option Tmp) (v : SV) : List (Nat × SV) :=
  match dst with
  | none => fr
  | some d => if d < nt then (d, v) :: fr else fr

def exitTo (id : Nat) : List It → Option (List It)
  | [] => none
  | .blk id' :: r => if id' = id then some r else exitTo id r
  | _ :: r => exitTo id r

def partOf : SV → Option (Bool × List C)
  | .c x => some (false, [x])
  | .agg l => some (true, l)
  | _ => none

def resC (ti : Nat → Option TI) (hp : List (Nat × Ob)) (T : TypeId) : SV → Option Q
  | .c (.ptr b o) => match ti T, lk hp b with
    | some i, some (.cells _ l) => ldV i l o
    | _, _ => none
  | _ => none

def resV (ti : Nat → Option TI) (hp : List (Nat × Ob)) (fr : List (Nat × SV)) : List ResultVar → Option (List (Bool × List C))
  | [] => some []
  | .tmp t :: r => match partOf ((lk fr t).getD .un), resV ti hp fr r with
    | some p, some l => some (p :: l)
    | _, _ => none
  | .cell t T :: r => match resC ti hp T ((lk fr t).getD .un), resV ti hp fr r with
    | some q, some l => match partOf q.v with
      | some p => some (p :: l)
      | none => none
    | _, _ => none

def resS : List (Bool × List C) → SV
  | [(false, [x])] => .c x
  | [(true, l)] => .agg l
  | l => .tup l

/-- a test of a Bool: both ways -/
def spl (b : Bool) (X Y : Prop) : Prop := (b = true → X) ∧ (b = false → Y)
theorem spl_true (X Y : Prop) : spl true X Y = X := by simp [spl]
theorem spl_false (X Y : Prop) : spl false X Y = Y := by simp [spl]

def cl (g : Operand → SV) : Op → Option (Nat × List SV)
  | .call c => match c.callee with
    | .value x => match g x with
      | .c (.fn f caps) => some (f, c.args.toList.map g ++ caps.map (fun p => .c (.ptr p.1 p.2)))
      | .c (.bm f b o) => some (f, .c (.ptr b o) :: c.args.toList.map g)
      | _ => none
    | _ => none
  | _ => none

/-- a Bool that goes into a call is told in one form -/
def nzC : C → C
  | .bool .tt => .bool (.sym true)
  | .bool .ff => .bool (.sym false)
  | c => c
def nzS : SV → SV
  | .c x => .c (nzC x)
  | .agg l => .agg (l.map nzC)
  | s => s

def num (l : List SV) : Nat → List (Nat × SV) := fun n => match l with
  | [] => []
  | s :: r => (n, s) :: num r (n + 1)

/-! ### what a run must come to -/

def RepA (w0 : W0) (cur : FI) (st : St) (S : List (Fm × Act)) (η : Nat → Option Nat × Value) (a : Act) (w : World) : Prop :=
  (RepH w0 st.hp (lt st.nx) η w ∧ cur.fn.results.toList = cur.res) ∧ RepF (cxS w0 st.hp (lt st.nx) η w) cur.nt st.fr a ∧
    ∀ p ∈ S, RepF (cxS w0 st.hp (lt st.nx) η w) p.1.fi.nt p.1.fr p.2 ∧ p.1.fi.fn.results.toList = p.1.fi.res

def TW (P : Program) (w0 : W0) (cur : FI) (S : List (Fm × Act)) (R : Act → World → Prop) : List It → Exit → Act → World → Prop
  | [], .normal, a, w => R a w
  | [], .ret, a, w => R a w
  | [], _, _, _ => False
  | .code c :: r, .normal, a, w => c.wp P (TW P w0 cur S R r) a w
  | .code _ :: r, e, a, w => TW P w0 cur S R r e a w
  | .ops all l :: r, .normal, a, w => wpList P all (TW P w0 cur S R r) l a w
  | .ops _ _ :: r, e, a, w => TW P w0 cur S R r e a w
  | .blk id :: r, .exit id', a, w => if id' = id then TW P w0 cur S R r .normal a w else TW P w0 cur S R r (.exit id') a w
  | .blk _ :: r, e, a, w => TW P w0 cur S R r e a w
  | .scp :: _, .goto _, _, _ => False
  | .scp :: r, e, a, w => TW P w0 cur S R r e a w
  | .fin Q :: _, .normal, a, w => ∃ η st, RepA w0 cur st S η a w ∧ Q st
  | .fin _ :: r, e, a, w => TW P w0 cur S R r e a w

def RR (P : Program) (w0 : W0) (final : Value → World → Prop) : FI → List (Fm × Act) → Act → World → Prop
  | cur, [], a, w => a.defers = [] ∧ ∃ v, (results cur.fn a.tmps).run P w = .ok v w ∧ final v w
  | cur, (f, a0) :: S, a, w => a.defers = [] ∧ ∃ v, (results cur.fn a.tmps).run P w = .ok v w ∧ TW P w0 f.fi S (RR P w0 final f.fi S) f.todo .normal (a0.put f.dst v) w

def Fin (w0 : W0) (post : SV → St → Prop) (v : Value) (w : World) : Prop := ∃ η sv st, RepH w0 st.hp (lt st.nx) η w ∧ RS (cxS w0 st.hp (lt st.nx) η w) sv v ∧ post sv st

/-- from every state that the abstract state stands for, the run comes to what is asked -/
def Mean (E : En) (cur : FI) (t : List It) (st : St) (stk : List Fm) : Prop :=
  ∀ w0 η S a w, S.map (·.1) = stk → RepA w0 cur st S η a w → TW E.P w0 cur S (RR E.P w0 (Fin w0 E.post) cur S) t .normal a w

/-! a loop, a call, a region that draws: what the prover says of it -/
structure LoopOk (E : En) (cur : FI) (c : Code) (r : List It) (st : St) (stk : List Fm) : Prop where
  out : Mean E cur (.code (.loop c) :: r) st stk
structure DrawOk (E : En) (cur : FI) (id : Nat) (all : Array Oper) (r : List It) (st : St) (stk : List Fm) : Prop where
  out : Mean E cur (.code (.region id all true) :: r) st stk
structure CallOk (E : En) (cur : FI) (f : Nat) (args : List SV) (all : Array Oper) (o : Oper) (l : List Oper) (r : List It) (st : St) (stk : List Fm) : Prop where
  out : (∃ args0, cl (ev st.fr) o.op = some (f, args0) ∧ args = args0.map nzS) → Mean E cur (.ops all (⟨o.dst, o.op, o.type, o.pos, o.after, none⟩ :: l) :: r) st stk

/-- an operation that the run does not take by itself: a rule says what it does -/
structure StuckOk (E : En) (cur : FI) (all : Array Oper) (o : Oper) (l : List Oper) (r : List It) (st : St) (stk : List Fm) : Prop where
  out : Mean E cur (.ops all (⟨o.dst, o.op, o.type, o.pos, o.after, none⟩ :: l) :: r) st stk

/-- what a call comes to, where data go in and one abstract value comes out -/
def CG (P : Program) (f : Nat) (args : List SV) (pf : SV → Prop) : Prop :=
  (∃ fn, P.funcs[f]? = some fn ∧ fn.body.isSome = true ∧ (fn.name == "runtime.NumGoroutine") = false) ∧
  ∀ (w0 : W0) (hp : List (Nat × Ob)) (nx : Nat) (η : Nat → Option Nat × Value) (w : World) (vs : Array Value), RepH w0 hp (lt nx) η w → RL (RS (cxS w0 hp (lt nx) η w)) args vs.toList →
    Calls P f vs w fun e w' => ∃ s v, e = .returned v ∧ pf s ∧ RS (cxS w0 hp (lt nx) η w') s v ∧ Below w.heap.size w w'
/-- a call that is made only if C -/
structure CallG (E : En) (C : Prop) (f : Nat) (args : List SV) (K : SV → Prop) : Prop where
  out : ∃ pf : SV → Prop, (∃ s, pf s) ∧ (∀ s, pf s → K s) ∧ (C → CG E.P f args pf)

/-! what is handed on is written out -/
def fcC (K : C → Prop) : C → Prop
  | .int k n => K (.int k n)
  | .bool .tt => K (.bool .tt)
  | .bool .ff => K (.bool .ff)
  | .bool (.sym b) => K (.bool (.sym b))
  | .str s => K (.str s)
  | .ptr b o => K (.ptr b o)
  | .pel d x o => K (.pel d x o)
  | .prw b i s o => K (.prw b i s o)
  | .row b => K (.row b)
  | .dat d xs => K (.dat d xs)
  | .val v => K (.val v)
  | .fn f l => K (.fn f l)
  | .bm f b o => K (.bm f b o)
  | .mp b => K (.mp b)
  | .csl b n => K (.csl b n)
  | .sub b o sz n c => K (.sub b o sz n c)
theorem fcC_eq (K : C → Prop) (c : C) : fcC K c = K c := by
  cases c with
  | bool b => cases b <;> rfl
  | _ => rfl
def fcL : (List C → Prop) → List C → Prop
  | K, [] => K []
  | K, c :: l => fcC (fun c => fcL (fun l => K (c :: l)) l) c
theorem fcL_eq : ∀ (K : List C → Prop) (l : List C), fcL K l = K l
  | K, [] => rfl
  | K, c :: l => by simp only [fcL, fcC_eq, fcL_eq]
def fcT : (List (Bool × List C) → Prop) → List (Bool × List C) → Prop
  | K, [] => K []
  | K, (true, c) :: l => fcL (fun c => fcT (fun l => K ((true, c) :: l)) l) c
  | K, (false, c) :: l => fcL (fun c => fcT (fun l => K ((false, c) :: l)) l) c
theorem fcT_eq : ∀ (K : List (Bool × List C) → Prop) (l : List (Bool × List C)), fcT K l = K l
  | K, [] => rfl
  | K, (true, c) :: l => by simp only [fcT, fcL_eq, fcT_eq]
  | K, (false, c) :: l => by simp only [fcT, fcL_eq, fcT_eq]
def fcS (K : SV → Prop) : SV → Prop
  | .c x => fcC (fun x => K (.c x)) x
  | .agg l => fcL (fun l => K (.agg l)) l
  | .tup l => fcT (fun l => K (.tup l)) l
  | .un => K .un
theorem fcS_eq (K : SV → Prop) (s : SV) : fcS K s = K s := by cases s <;> simp only [fcS, fcC_eq, fcL_eq, fcT_eq]
def fcA : (List SV → Prop) → List SV → Prop
  | K, [] => K []
  | K, s :: l => fcS (fun s => fcA (fun l => K (s :: l)) l) s
theorem fcA_eq : ∀ (K : List SV → Prop) (l : List SV), fcA K l = K l
  | K, [] => rfl
  | K, s :: l => by simp only [fcA, fcS_eq, fcA_eq]
def fcO (K : Ob → Prop) : Ob → Prop
  | .cells T l => fcL (fun l => K (.cells T l)) l
  | .row T d xs => K (.row T d xs)
  | .lmp T k es => K (.lmp T k es)
  | .dmp T kd vd es => K (.dmp T kd vd es)
  | .itr m n seen => K (.itr m n seen)
  | .wid T d xs c => K (.wid T d xs c)
theorem fcO_eq (K : Ob → Prop) (o : Ob) : fcO K o = K o := by cases o <;> simp only [fcO, fcL_eq]
def fcH : (List (Nat × Ob) → Prop) → List (Nat × Ob) → Prop
  | K, [] => K []
  | K, (b, o) :: l => fcO (fun o => fcH (fun l => K ((b, o) :: l)) l) o
theorem fcH_eq : ∀ (K : List (Nat × Ob) → Prop) (l : List (Nat × Ob)), fcH K l = K l
  | K, [] => rfl
  | K, (b, o) :: l => by simp only [fcH, fcO_eq, fcH_eq]
def fcF (K : List (Nat × SV) → Prop) : List (Nat × SV) → Prop
  | [] => K []
  | p :: l => K (p :: l)
theorem fcF_eq (K : List (Nat × SV) → Prop) (l : List (Nat × SV)) : fcF K l = K l := by cases l <;> rfl
def fcN : (List (Nat × SV) → Prop) → List (Nat × SV) → Prop
  | K, [] => K []
  | K, (t, s) :: l => fcS (fun s => fcN (fun l => K ((t, s) :: l)) l) s
theorem fcN_eq : ∀ (K : List (Nat × SV) → Prop) (l : List (Nat × SV)), fcN K l = K l
  | K, [] => rfl
  | K, (t, s) :: l => by simp only [fcN, fcS_eq, fcN_eq]

def hq : Option Prop → Prop → Prop
  | none, X => X
  | some h, X => h → X
def pq : Option Prop → Prop → Prop
  | none, X => X
  | some p, X => p ∧ X
theorem hq_eq (h : Option Prop) (X : Prop) : hq h X = (OP h → X) := by cases h <;> simp [hq]
theorem pq_eq (p : Option Prop) (X : Prop) : pq p X = (OP p ∧ X) := by cases p <;> simp [pq]

/-- a slot that an operation writes -/
def nth : List Oper → Nat → Option Tmp
  | [], _ => none
  | o :: _, 0 => o.dst
  | _ :: l, n + 1 => nth l n
theorem nth_eq : ∀ (l : List Oper) (j : Nat), nth l j = (l[j]?).bind (·.dst)
  | [], _ => by simp [nth]
  | o :: _, 0 => rfl
  | _ :: l, n + 1 => by simpa [nth] using nth_eq l n

def retG (E : En) (k : FI → List It → St → List Fm → Prop) (cur : FI) (fr : List (Nat × SV)) (hp : List (Nat × Ob)) (nx : Nat) (stk : List Fm) : Prop :=
  match resV E.ti hp fr cur.res with
  | some l => fcS (fun v => match stk with
    | [] => E.post v ⟨fr, hp, nx⟩
    | f :: s => fcF (fun fr' => k f.fi f.todo ⟨fr', hp, nx⟩ s) (putF f.fi.nt f.fr f.dst v)) (resS l)
  | none => False

/-! guarded operations, gone through once: what they do counts only if C -/

/-- two ways' Bools as one -/
def mrg (b : Bool) : SV → SV → Option SV
  | .c (.bool x), .c (.bool y) => match x with
    | .sym e => match y with
      | .ff => some (.c (.bool (.sym (b && e))))
      | .tt => some (.c (.bool (.sym (!b || e))))
      | .sym f => some (.c (.bool (.sym (bif b then e else f))))
    | .tt => match y with
      | .ff => some (.c (.bool (.sym b)))
      | .tt => some (.c (.bool .tt))
      | .sym f => some (.c (.bool (.sym (b || f))))
    | .ff => match y with
      | .ff => some (.c (.bool .ff))
      | .tt => some (.c (.bool (.sym (!b))))
      | .sym f => some (.c (.bool (.sym (!b && f))))
  | _, _ => none
theorem mrg_sound {x : Cx} {b : Bool} {s t v : SV} {u : Value} (h : mrg b s t = some v) (h1 : b = true → RS x s u) (h2 : b = false → RS x t u) : RS x v u := by
  unfold mrg at h
  split at h
  · rename_i p q
    have g1 : b = true → u = .bool p.v := fun hb => h1 hb
    have g2 : b = false → u = .bool q.v := fun hb => h2 hb
    cases b
    · have g := g2 rfl
      subst g
      cases p <;> cases q <;> simp only [Option.some.injEq] at h <;> subst h <;> simp [RS, RC]
    · have g := g1 rfl
      subst g
      cases p <;> cases q <;> simp only [Option.some.injEq] at h <;> subst h <;> simp [RS, RC]
  · cases h

/-- the operations at a list's head whose guards are not before the k-th, and what is behind them -/
def segA (k : Nat) : List Oper → List Oper
  | [] => []
  | o :: l => match o.guard with
    | some (j, _) => match Nat.ble k j with
      | true => o :: segA k l
      | false => []
    | none => []
def segB (k : Nat) : List Oper → List Oper
  | [] => []
  | o :: l => match o.guard with
    | some (j, _) => match Nat.ble k j with
      | true => segB k l
      | false => o :: l
    | none => o :: l
theorem seg_eq (k : Nat) : ∀ l : List Oper, segA k l ++ segB k l = l
  | [] => rfl
  | o :: l => by
    simp only [segA, segB]
    cases o.guard with
    | none => rfl
    | some g =>
      obtain ⟨j, w⟩ := g
      dsimp only
      cases Nat.ble k j with
      | true => simp [seg_eq k l]
      | false => rfl

def isN : Option SV → Bool
  | none => true
  | some _ => false
def eqW : Bool → Bool → Bool
  | true, true => true
  | false, false => true
  | _, _ => false
theorem eqW_iff (a b : Bool) : eqW a b = true ↔ a = b := by cases a <;> cases b <;> simp [eqW]
def memN (n : Nat) : List Nat → Bool
  | [] => false
  | m :: l => match Nat.beq n m with
    | true => true
    | false => memN n l
theorem memN_mem {n : Nat} : ∀ {l : List Nat}, memN n l = true → n ∈ l
  | [], h => by cases h
  | m :: l, h => by
    simp only [memN] at h
    split at h
    · rename_i e; rw [Nat.eq_of_beq_eq_true e]; simp
    · exact List.mem_cons_of_mem _ (memN_mem h)
/-- each of these is left out where slot t's Bool is not the one that is wanted; none writes what the frame tells of -/
def skB (fr : List (Nat × SV)) (all : List Oper) (t : Nat) (want : Bool) : List Nat → List Oper → Bool
  | _, [] => true
  | ds, o :: l => match o.guard with
    | none => false
    | some (j, w) => match nth all j with
      | none => false
      | some s => match (match Nat.beq s t with | true => eqW w want | false => memN s ds) with
        | false => false
        | true => match o.dst with
          | none => skB fr all t want ds l
          | some d => match Nat.beq d t with
            | true => false
            | false => match isN (lk fr d) with
              | false => false
              | true => skB fr all t want (d :: ds) l

/-- operations that leave the memory as it is -/
def okK : Op → Bool
  | .move _ | .assign _ | .pick _ _ _ | .binOp _ _ _ _ _ | .unOp _ _ _ | .convert _ _ _ | .extract _ _ | .fieldAddr _ _ _ | .field _ _ _ | .load _ _ | .index _ _ _ | .indexAddr _ _ _ | .slice _ _ _ _ _ | .nilCheck _ | .build _ _ | .lookup _ _ _ _ => true
  | .call c => match c.callee with
    | .builtin .len => true
    | .value _ => true
    | _ => false
  | _ => false
def okS' : List Oper → Bool
  | [] => true
  | o :: l => match okK o.op with
    | true => okS' l
    | false => false

/-- what stands behind guarded operations: a pick between what they yield and another value -/
def segP (fr : List (Nat × SV)) (all : List Oper) (t j : Nat) (w : Bool) (l : List Oper) : Option (Oper × Operand × Operand × List Oper) :=
  match segB j l with
  | p :: l' => match p.op with
    | .pick (.tmp c) x y => match Nat.beq c t with
      | true => match okS' (segA j l) with
        | true => match skB fr all t w [] (segA j l) with
          | true => some (p, x, y, l')
          | false => none
        | false => none
      | false => none
    | _ => none
  | [] => none

def hG (C : Prop) : Option Prop → Prop → Prop
  | none, X => X
  | some h, X => (C → h) → X
def pG (C : Prop) : Option Prop → Prop → Prop
  | none, X => X
  | some p, X => (C → p) ∧ X
theorem hG_eq (C : Prop) (h : Option Prop) (X : Prop) : hG C h X = ((C → OP h) → X) := by cases h <;> simp [hG]
theorem pG_eq (C : Prop) (p : Option Prop) (X : Prop) : pG C p X = ((C → OP p) ∧ X) := by cases p <;> simp [pG]

def perfG (E : En) (nt : Nat) (hp : List (Nat × Ob)) (C : Prop) (o : Oper) (fr : List (Nat × SV)) (K : List (Nat × SV) → Prop) : Prop :=
  match qm E.ti hp (ev fr) o.op with
  | some ⟨h, p, v⟩ => hG C h (pG C p (fcS (fun v => fcF K (putF nt fr o.dst v)) v))
  | none => match cl (ev fr) o.op with
    | some (f, args) => fcA (fun args => fcA (fun args => CallG E C f args (fun s => fcS (fun v => fcF K (putF nt fr o.dst v)) s)) (args.map nzS)) args
    | none => False

def mrgW (w b : Bool) (fr fr' : List (Nat × SV)) (x y : Operand) : Option SV :=
  match w with
  | true => mrg b (ev fr' x) (ev fr y)
  | false => mrg b (ev fr x) (ev fr' y)

def ofW : Bool → BE
  | true => .tt
  | false => .ff

/-- guarded operations, each of which is wanted if C -/
def sgo (E : En) (nt : Nat) (all : List Oper) (hp : List (Nat × Ob)) : Nat → Prop → List Oper → List (Nat × SV) → (List (Nat × SV) → Prop) → Prop
  | 0, _, _, _, _ => False
  | _ + 1, _, [], fr, K => K fr
  | n + 1, C, o :: l, fr, K => match o.guard with
    | none => False
    | some (j, w) => match nth all j with
      | none => False
      | some t => match lk fr t with
        | some (.c (.bool .tt)) => match w with
          | true => perfG E nt hp C o fr (fun fr' => sgo E nt all hp n C l fr' K)
          | false => False
        | some (.c (.bool .ff)) => match w with
          | false => perfG E nt hp C o fr (fun fr' => sgo E nt all hp n C l fr' K)
          | true => False
        | some (.c (.bool (.sym b))) => match segP fr all t j w (o :: l) with
          | some (p, x, y, l') => match p.guard with
            | none => False
            | some (j2, w2) => match nth all j2 with
              | none => False
              | some t2 => match lk fr t2 with
                | some (.c (.bool c2)) => match c2 with
                  | .sym _ => False
                  | .tt => match w2 with
                    | true => sgo E nt all hp n (C ∧ b = w) (segA j (o :: l)) ((t, .c (.bool (ofW w))) :: fr) (fun fr' => match mrgW w b fr fr' x y with
                      | some v => fcS (fun v => fcF (fun fr => sgo E nt all hp n C l' fr K) (putF nt fr p.dst v)) v
                      | none => False)
                    | false => False
                  | .ff => match w2 with
                    | false => sgo E nt all hp n (C ∧ b = w) (segA j (o :: l)) ((t, .c (.bool (ofW w))) :: fr) (fun fr' => match mrgW w b fr fr' x y with
                      | some v => fcS (fun v => fcF (fun fr => sgo E nt all hp n C l' fr K) (putF nt fr p.dst v)) v
                      | none => False)
                    | true => False
                | _ => False
          | none => False
        | _ => False

/-- a test of the run's own -/
def btr (b : Bool) (X : Prop) : Prop := match b with
  | true => X
  | false => False
theorem btr_out {b : Bool} {X : Prop} (h : btr b X) : b = true ∧ X := by
  cases b
  · exact h.elim
  · exact ⟨rfl, h⟩

def perf (E : En) (k : FI → List It → St → List Fm → Prop) (cur : FI) (all : Array Oper) (o : Oper) (l : List Oper) (r : List It) (fr : List (Nat × SV)) (hp : List (Nat × Ob)) (nx : Nat) (stk : List Fm) : Prop :=
  match qm E.ti hp (ev fr) o.op with
  | some ⟨h, p, v⟩ => hq h (pq p (fcS (fun v => fcF (fun fr' => k cur (.ops all l :: r) ⟨fr', hp, nx⟩ stk) (putF cur.nt fr o.dst v)) v))
  | none => match em E.ti hp nx (ev fr) o.op with
    | some ⟨h, p, v, ch, nx'⟩ => hq h (pq p (fcS (fun v => fcH (fun hp' => fcF (fun fr' => k cur (.ops all l :: r) ⟨fr', hp', nx'⟩ stk) (putF cur.nt fr o.dst v)) (apC hp ch)) v))
    | none => match lmL E.ti hp (ev fr) o.op with
      | some (kk, es, n, z, ok) => (Lit.int kk n).wf = true ∧ lkS n (fun f sv => fcS (fun v => fcF (fun fr' => k cur (.ops all l :: r) ⟨fr', hp, nx⟩ stk) (putF cur.nt fr o.dst v)) (lkR ok f sv)) z es
      | none => match cl (ev fr) o.op with
      | some (f, args) => fcA (fun args => match E.inl f with
        | some (fn, c) => btr (Nat.ble args.length fn.nt) <| fcN (fun fr' => k fn [.code c] ⟨fr', hp, nx⟩ (⟨cur, fr, .ops all l :: r, o.dst⟩ :: stk)) (num args 0)
        | none => fcA (fun args => CallOk E cur f args all o l r ⟨fr, hp, nx⟩ stk) (args.map nzS)) args
      | none => StuckOk E cur all o l r ⟨fr, hp, nx⟩ stk

/-- a test that was made is known from there on -/
def cnd (c : Operand) (e : BE) (fr : List (Nat × SV)) : List (Nat × SV) := match c with
  | .tmp t => (t, .c (.bool e)) :: fr
  | _ => fr

def stp (E : En) (k : FI → List It → St → List Fm → Prop) (cur : FI) : List It → St → List Fm → Prop
  | [], ⟨fr, hp, nx⟩, stk => retG E k cur fr hp nx stk
  | .code .skip :: r, st, stk => k cur r st stk
  | .code (.region _ all false) :: r, st, stk => k cur (.ops all all.toList :: r) st stk
  | .code (.region id all true) :: r, st, stk => DrawOk E cur id all r st stk
  | .code (.seq x y) :: r, st, stk => k cur (.code x :: .code y :: r) st stk
  | .code (.cond c x y) :: r, ⟨fr, hp, nx⟩, stk => match ev fr c with
    | .c (.bool .tt) => k cur (.code x :: r) ⟨fr, hp, nx⟩ stk
    | .c (.bool .ff) => k cur (.code y :: r) ⟨fr, hp, nx⟩ stk
    | .c (.bool (.sym b)) => spl b (fcF (fun fr => k cur (.code x :: r) ⟨fr, hp, nx⟩ stk) (cnd c .tt fr)) (fcF (fun fr => k cur (.code y :: r) ⟨fr, hp, nx⟩ stk) (cnd c .ff fr))
    | _ => False
  | .code (.block id c) :: r, st, stk => k cur (.code c :: .blk id :: r) st stk
  | .code (.loop c) :: r, st, stk => LoopOk E cur c r st stk
  | .code (.exit id) :: r, st, stk => match exitTo id r with
    | some r' => k cur r' st stk
    | none => False
  | .code (.scope c) :: r, st, stk => k cur (.code c :: .scp :: r) st stk
  | .code (.label _) :: r, st, stk => k cur r st stk
  | .code .ret :: _, ⟨fr, hp, nx⟩, stk => retG E k cur fr hp nx stk
  | .code _ :: _, _, _ => False
  | .ops _ [] :: r, st, stk => k cur r st stk
  | .ops all (o :: l) :: r, ⟨fr, hp, nx⟩, stk => match o.guard with
    | none => perf E k cur all o l r fr hp nx stk
    | some (j, want) => match nth all.toList j with
      | some t => match lk fr t with
        | some (.c (.bool .tt)) => match want with
          | true => perf E k cur all o l r fr hp nx stk
          | false => fcF (fun fr' => k cur (.ops all l :: r) ⟨fr', hp, nx⟩ stk) (putF cur.nt fr o.dst (.tup []))
        | some (.c (.bool .ff)) => match want with
          | false => perf E k cur all o l r fr hp nx stk
          | true => fcF (fun fr' => k cur (.ops all l :: r) ⟨fr', hp, nx⟩ stk) (putF cur.nt fr o.dst (.tup []))
        | some (.c (.bool (.sym b))) => match segP fr all.toList t j want (o :: l) with
         | some (p, x, y, l') => match p.guard with
          | none => sgo E cur.nt all.toList hp 1000 (b = want) (segA j (o :: l)) ((t, .c (.bool (ofW want))) :: fr) (fun fr' => match mrgW want b fr fr' x y with
            | some v => fcS (fun v => fcF (fun fr => k cur (.ops all l' :: r) ⟨fr, hp, nx⟩ stk) (putF cur.nt fr p.dst v)) v
            | none => False)
          | some _ => False
         | none => match want with
          | true => spl b (perf E k cur all o l r ((t, .c (.bool .tt)) :: fr) hp nx stk) (fcF (fun fr' => k cur (.ops all l :: r) ⟨fr', hp, nx⟩ stk) (putF cur.nt ((t, .c (.bool .ff)) :: fr) o.dst (.tup [])))
          | false => spl b (fcF (fun fr' => k cur (.ops all l :: r) ⟨fr', hp, nx⟩ stk) (putF cur.nt ((t, .c (.bool .tt)) :: fr) o.dst (.tup []))) (perf E k cur all o l r ((t, .c (.bool .ff)) :: fr) hp nx stk)
        | some (.tup _) => fcF (fun fr' => k cur (.ops all l :: r) ⟨fr', hp, nx⟩ stk) (putF cur.nt fr o.dst (.tup []))
        | _ => False
      | none => False
  | .blk _ :: r, st, stk => k cur r st stk
  | .scp :: r, st, stk => k cur r st stk
  | .fin Q :: _, st, _ => Q st

def go (E : En) : Nat → FI → List It → St → List Fm → Prop
  | 0 => fun _ _ _ _ => False
  | n + 1 => stp E (go E n)

end OE
