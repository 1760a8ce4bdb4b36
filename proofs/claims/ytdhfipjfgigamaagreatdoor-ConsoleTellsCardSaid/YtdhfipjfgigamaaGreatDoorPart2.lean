/- Several texts of the proof, one behind the other; put together by a program of the session (mrg.py). Own work. -/
import Derived.LoopN
import Derived.Deep.LoopGhost
import Derived.Deep.Quiet
import Derived.Test.YtdhfipjfgigamaaGreatDoorPart1
/- OE, part 5a: what a run from a piece of code comes to, in a frame that was entered by a plain call (so communications can be told, too); its rules. Own work, after the kit's own rules of control; generic over the program. -/
namespace OE
open Go Go.RowKit

def WP (P : Program) (c : Code) (Q : Exit → Act → World → Prop) (a : Act) (w : World) : Prop :=
  ∀ b : Frame, b.kind = .normal → ∀ (k : List Item) (cs : List Frame), ∃ e a' w', Q e a' w' ∧ Arrives P (lone (b.at a (.code c :: k)) cs w) b k cs e a' w'

section
variable {P : Program} {Q : Exit → Act → World → Prop} {a : Act} {w : World}
theorem WP.of {c : Code} (h : c.wp P Q a w) : WP P c Q a w := fun b _ k cs => h b k cs
theorem wp_mono {c : Code} {Q' : Exit → Act → World → Prop} (h : WP P c Q a w) (hq : ∀ e a w, Q e a w → Q' e a w) : WP P c Q' a w := by
  intro b hb k cs
  obtain ⟨e, a1, w1, q, r⟩ := h b hb k cs
  exact ⟨e, a1, w1, hq e a1 w1 q, r⟩
theorem wp_skip (h : Q .normal a w) : WP P .skip Q a w := .of (Go.wp_skip h)
theorem wp_label {l : Nat} (h : Q .normal a w) : WP P (.label l) Q a w := .of (Go.wp_label h)
theorem wp_exit {id : Nat} (h : Q (.exit id) a w) : WP P (.exit id) Q a w := .of (Go.wp_exit h)
theorem wp_ret (h : Q .ret a w) : WP P .ret Q a w := .of (Go.wp_ret h)
theorem wp_region_list {id : Nat} {ops : Array Oper} (h : wpList P ops Q ops.toList a w) : WP P (.region id ops false) Q a w := .of (Go.wp_region_list h)
/-- what leaves a piece of code by any way but its end passes over what stands behind it -/
theorem pass {x : Item} (hx : x.plain = true) {m : Machine} {b : Frame} {k : List Item} {cs : List Frame} {e : Exit} (he : e ≠ .normal) (h : Arrives P m b (x :: k) cs e a w) : Arrives P m b k cs e a w :=
  Arrives.pass hx (fun _ _ => .inl he) h
theorem then_not {next : Act → World → Prop} {e : Exit} (he : e ≠ .normal) (h : Exit.then next Q e a w) : Q e a w := by
  cases e with
  | normal => exact absurd rfl he
  | _ => exact h
theorem wp_seq {x y : Code} (h : WP P x (Exit.then (WP P y Q) Q) a w) : WP P (.seq x y) Q a w := by
  intro b hb k cs
  obtain ⟨e, a1, w1, q, r⟩ := h b hb (.code y :: k) cs
  by_cases he : e = .normal
  · subst he
    obtain ⟨e2, a2, w2, q2, r2⟩ := q b hb k cs
    exact ⟨e2, a2, w2, q2, Arrives.of_steps (Steps.head step_seq r) r2⟩
  · exact ⟨e, a1, w1, then_not he q, Arrives.of_steps (Steps.one step_seq) (pass (x := .code y) rfl he r)⟩
theorem wp_cond {c : Operand} {x y : Code} {t : Bool} (hc : a.eval c = .bool t) (h : WP P (if t then x else y) Q a w) : WP P (.cond c x y) Q a w := by
  intro b hb k cs
  obtain ⟨e, a1, w1, q, r⟩ := h b hb k cs
  exact ⟨e, a1, w1, q, Arrives.of_steps (Steps.one (step_cond hc)) r⟩
theorem wp_cond_true {c : Operand} {x y : Code} (hc : a.eval c = .bool true) (h : WP P x Q a w) : WP P (.cond c x y) Q a w := wp_cond hc h
theorem wp_cond_false {c : Operand} {x y : Code} (hc : a.eval c = .bool false) (h : WP P y Q a w) : WP P (.cond c x y) Q a w := wp_cond hc h
theorem wp_cond_split {c : Operand} {x y : Code} {t : Bool} (hc : a.eval c = .bool t) (ht : t = true → WP P x Q a w) (hf : t = false → WP P y Q a w) : WP P (.cond c x y) Q a w := by
  cases t with
  | false => exact wp_cond hc (hf rfl)
  | true => exact wp_cond hc (ht rfl)
theorem wp_block {id : Nat} {c : Code} (h : WP P c (Exit.inBlock id Q) a w) : WP P (.block id c) Q a w := by
  intro b hb k cs
  obtain ⟨e, a1, w1, q, r⟩ := h b hb (.inBlock id :: k) cs
  have st := step_block (P := P) (b := b) (a := a) (k := k) (cs := cs) (w := w) (id := id) (c := c)
  cases e with
  | normal => exact ⟨_, a1, w1, q, Steps.head st (Steps.trans r (Steps.one step_inBlock))⟩
  | exit j =>
    by_cases hj : j = id
    · subst hj
      have q : Q .normal a1 w1 := by simpa [Exit.inBlock] using q
      exact ⟨_, a1, w1, q, Steps.head st (r k (by simp [exitTo]))⟩
    · have q : Q (.exit j) a1 w1 := by simpa [Exit.inBlock, hj] using q
      refine ⟨_, a1, w1, q, fun k' hk => Steps.head st (r k' ?_)⟩
      have hne : (id == j) = false := by simpa using fun h => hj h.symm
      simp [exitTo, hne, hk]
  | goto l => exact ⟨_, a1, w1, q, fun k' hk => Steps.head st (r k' (by simp [gotoIn, hk]))⟩
  | ret => exact ⟨_, a1, w1, q, Arrives.of_steps (Steps.one st) r⟩
  | panic ch => exact ⟨_, a1, w1, q, Arrives.of_steps (Steps.one st) r⟩
  | outgrown => exact ⟨_, a1, w1, q, Arrives.of_steps (b := b) (k := k) (cs := cs) (e := .outgrown) (Steps.one st) r⟩
theorem wp_scope_straight {c : Code} (h : WP P c (Exit.noGoto Q) a w) : WP P (.scope c) Q a w := by
  intro b hb k cs
  obtain ⟨e, a1, w1, q, r⟩ := h b hb (.inScope c :: k) cs
  have st := step_scope (P := P) (b := b) (a := a) (k := k) (cs := cs) (w := w) (c := c)
  cases e with
  | normal => exact ⟨_, a1, w1, q, Steps.head st (Steps.trans r (Steps.one step_inScope))⟩
  | exit j => exact ⟨_, a1, w1, q, fun k' hk => Steps.head st (r k' (by simp [exitTo, hk]))⟩
  | goto l => exact q.elim
  | ret => exact ⟨_, a1, w1, q, Arrives.of_steps (Steps.one st) r⟩
  | panic ch => exact ⟨_, a1, w1, q, Arrives.of_steps (Steps.one st) r⟩
  | outgrown => exact ⟨_, a1, w1, q, Arrives.of_steps (b := b) (k := k) (cs := cs) (e := .outgrown) (Steps.one st) r⟩
theorem wp_loop_ghost {c : Code} (I : Nat → Act → World → Prop) (n0 : Nat) (h0 : I n0 a w) (round : ∀ n a w, I n a w → WP P c (Exit.then (fun a' w' => ∃ n', n' < n ∧ I n' a' w') Q) a w) : WP P (.loop c) Q a w := by
  intro b hb k cs
  have key : ∀ n, ∀ a w, I n a w → ∃ e a' w', Q e a' w' ∧ Arrives P (lone (b.at a (.code c :: .inLoop c :: k)) cs w) b k cs e a' w' := by
    intro n
    induction n using Nat.strongRecOn with
    | _ n ih =>
      intro a w hI
      obtain ⟨e, a1, w1, q, r⟩ := round n a w hI b hb (.inLoop c :: k) cs
      by_cases he : e = .normal
      · subst he
        obtain ⟨m, hm, hI'⟩ := q
        obtain ⟨e2, a2, w2, q2, r2⟩ := ih m hm a1 w1 hI'
        exact ⟨e2, a2, w2, q2, Arrives.of_steps (Steps.trans r (Steps.one step_inLoop)) r2⟩
      · exact ⟨e, a1, w1, then_not he q, pass (x := .inLoop c) rfl he r⟩
  obtain ⟨e, a1, w1, q, r⟩ := key n0 a w h0
  exact ⟨e, a1, w1, q, Arrives.of_steps (Steps.one step_loop) r⟩
end
def rnds (P : Program) (c : Code) (Q : Exit → Act → World → Prop) : Nat → Act → World → Prop
  | 0, _, _ => False
  | n + 1, a, w => WP P c (Exit.then (rnds P c Q n) Q) a w
theorem wp_loop_rounds {P : Program} {Q : Exit → Act → World → Prop} {a : Act} {w : World} {c : Code} (n : Nat) (h : rnds P c Q n a w) : WP P (.loop c) Q a w := by
  refine wp_loop_ghost (fun n a w => rnds P c Q n a w) n h fun n a w hn => ?_
  cases n with
  | zero => exact hn.elim
  | succ n =>
    refine wp_mono hn fun e a w q => ?_
    cases e with
    | normal => exact ⟨n, Nat.lt_succ_self n, q⟩
    | _ => exact q
/-- a call, from its body's run -/
theorem calls_of_wp {P : Program} {f : FuncId} {fn : Func} {c : Code} {args : Array Value} {w : World} {R : Ending → World → Prop} (hf : P.funcs[f]? = some fn) (hb : fn.body = some c)
    (h : WP P c (bodyPost P fn R) { tmps := args ++ Array.replicate (fn.ntmps - args.size) undef, defers := [] } w) : Calls P f args w R := by
  intro cs
  have hen : Frame.enter P f args .normal = ({ (default : Frame) with fn := f, kind := .normal } : Frame).at { tmps := args ++ Array.replicate (fn.ntmps - args.size) undef, defers := [] } [.code c] := by
    simp [Frame.enter, Frame.at, hf, hb]
  obtain ⟨e, a1, w1, q, r⟩ := h { (default : Frame) with fn := f, kind := .normal } rfl [] cs
  rw [← hen] at r
  cases e with
  | normal =>
    obtain ⟨hd, v, hr, hR⟩ := q
    exact ⟨.returned v, w1, _, hR, Steps.trans r (Steps.one step_end), rfl, rfl, hd, rfl, fn, hf, hr⟩
  | ret =>
    obtain ⟨hd, v, hr, hR⟩ := q
    obtain ⟨todo, hs⟩ := r
    exact ⟨.returned v, w1, _, hR, hs, rfl, rfl, hd, rfl, fn, hf, hr⟩
  | panic ch =>
    obtain ⟨hd, hR⟩ := q
    obtain ⟨todo, hs⟩ := r
    exact ⟨.panicked ch, w1, _, hR, hs, rfl, rfl, hd, fn, hf⟩
  | exit id => exact q.elim
  | goto l => exact q.elim
  | outgrown => exact ⟨.outgrown, w1, { (default : Frame) with fn := f, kind := .normal }, q, r.resolve_left (by simp), rfl, trivial⟩
end OE

/- OE, part 5: the run over abstract states, and that it is right. Own work; generic over the program. -/
namespace OE
open Go Go.RowKit

inductive It where
  | code (c : Code)
  | ops (all : Array Oper) (l : List Oper)
  | blk (id : Nat)
  | scp
  | fin (R : St → Prop)

/-- what is wanted of a function: its slots, its results -/
structure FI where
  fn : Func
  nt : Nat
  res : List ResultVar

structure Fm where
  fi : FI
  fr : List (Nat × SV)
  todo : List It
  dst : Option Tmp

structure En where
  P : Program
  ti : Nat → Option TI
  inl : Nat → Option (FI × Code)
  post : SV → St → Prop

def ev (fr : List (Nat × SV)) : Operand → SV
  | .tmp t => (lk fr t).getD .un
  | .const v => cv v
  | .func f => .c (.fn f [])
  | .global g => .c (.glb g)

def putF (nt : Nat) (fr : List (Nat × SV)) (dst : Option Tmp) (v : SV) : List (Nat × SV) :=
  match dst with
  | none => fr
  | some d => if d < nt then (d, v) :: fr else fr

def exitTo (id : Nat) : List It → Option (List It)
  | [] => none
  | .blk id' :: r => if id' = id then some r else exitTo id r
  | _ :: r => exitTo id r

def partOf : SV → Option (Bool × List C)
  | .c x => some (false, [x])
  | .agg l => some (true, l)
  | _ => none

def resC (ti : Nat → Option TI) (hp : List (Nat × Ob)) (T : TypeId) : SV → Option Q
  | .c (.ptr b o) => match ti T, lk hp b with
    | some i, some (.cells _ l) => ldV i l o
    | _, _ => none
  | _ => none

def resV (ti : Nat → Option TI) (hp : List (Nat × Ob)) (fr : List (Nat × SV)) : List ResultVar → Option (List (Bool × List C))
  | [] => some []
  | .tmp t :: r => match partOf ((lk fr t).getD .un), resV ti hp fr r with
    | some p, some l => some (p :: l)
    | _, _ => none
  | .cell t T :: r => match resC ti hp T ((lk fr t).getD .un), resV ti hp fr r with
    | some q, some l => match partOf q.v with
      | some p => some (p :: l)
      | none => none
    | _, _ => none

def resS : List (Bool × List C) → SV
  | [(false, [x])] => .c x
  | [(true, l)] => .agg l
  | l => .tup l

/-- a test of a Bool: both ways -/
def spl (b : Bool) (X Y : Prop) : Prop := (b = true → X) ∧ (b = false → Y)
def cl (g : Operand → SV) : Op → Option (Nat × List SV)
  | .call c => match c.callee with
    | .value x => match g x with
      | .c (.fn f caps) => some (f, c.args.toList.map g ++ caps.map (fun p => .c (.ptr p.1 p.2)))
      | .c (.bm f b o) => some (f, .c (.ptr b o) :: c.args.toList.map g)
      | _ => none
    | _ => none
  | _ => none

/-- a Bool that goes into a call is told in one form -/
def nzC : C → C
  | .bool .tt => .bool (.sym true)
  | .bool .ff => .bool (.sym false)
  | c => c
def nzS : SV → SV
  | .c x => .c (nzC x)
  | .agg l => .agg (l.map nzC)
  | s => s

def num (l : List SV) : Nat → List (Nat × SV) := fun n => match l with
  | [] => []
  | s :: r => (n, s) :: num r (n + 1)

/-! ### what a run must come to -/

def RepA (w0 : W0) (cur : FI) (st : St) (S : List (Fm × Act)) (η : Nat → Option Nat × Value) (a : Act) (w : World) : Prop :=
  (RepH w0 st.hp (lt st.nx) η w ∧ cur.fn.results.toList = cur.res) ∧ RepF (cxS w0 st.hp (lt st.nx) η w) cur.nt st.fr a ∧
    ∀ p ∈ S, RepF (cxS w0 st.hp (lt st.nx) η w) p.1.fi.nt p.1.fr p.2 ∧ p.1.fi.fn.results.toList = p.1.fi.res

def TW (P : Program) (w0 : W0) (cur : FI) (S : List (Fm × Act)) (R : Act → World → Prop) : List It → Exit → Act → World → Prop
  | [], .normal, a, w => R a w
  | [], .ret, a, w => R a w
  | [], _, _, _ => False
  | .code c :: r, .normal, a, w => WP P c (TW P w0 cur S R r) a w
  | .code _ :: r, e, a, w => TW P w0 cur S R r e a w
  | .ops all l :: r, .normal, a, w => wpList P all (TW P w0 cur S R r) l a w
  | .ops _ _ :: r, e, a, w => TW P w0 cur S R r e a w
  | .blk id :: r, .exit id', a, w => if id' = id then TW P w0 cur S R r .normal a w else TW P w0 cur S R r (.exit id') a w
  | .blk _ :: r, e, a, w => TW P w0 cur S R r e a w
  | .scp :: _, .goto _, _, _ => False
  | .scp :: r, e, a, w => TW P w0 cur S R r e a w
  | .fin Q :: _, .normal, a, w => ∃ η st, RepA w0 cur st S η a w ∧ Q st
  | .fin _ :: r, e, a, w => TW P w0 cur S R r e a w

def RR (P : Program) (w0 : W0) (final : Value → World → Prop) : FI → List (Fm × Act) → Act → World → Prop
  | cur, [], a, w => a.defers = [] ∧ ∃ v, (results cur.fn a.tmps).run P w = .ok v w ∧ final v w
  | cur, (f, a0) :: S, a, w => a.defers = [] ∧ ∃ v, (results cur.fn a.tmps).run P w = .ok v w ∧ TW P w0 f.fi S (RR P w0 final f.fi S) f.todo .normal (a0.put f.dst v) w

def Fin (w0 : W0) (post : SV → St → Prop) (v : Value) (w : World) : Prop := ∃ η sv st, RepH w0 st.hp (lt st.nx) η w ∧ RS (cxS w0 st.hp (lt st.nx) η w) sv v ∧ post sv st

/-- from every state that the abstract state stands for, the run comes to what is asked -/
def Mean (E : En) (cur : FI) (t : List It) (st : St) (stk : List Fm) : Prop :=
  ∀ w0 η S a w, S.map (·.1) = stk → RepA w0 cur st S η a w → TW E.P w0 cur S (RR E.P w0 (Fin w0 E.post) cur S) t .normal a w

/-! a loop, a call, a region that draws: what the prover says of it -/
structure LoopOk (E : En) (cur : FI) (c : Code) (r : List It) (st : St) (stk : List Fm) : Prop where
  out : Mean E cur (.code (.loop c) :: r) st stk
structure DrawOk (E : En) (cur : FI) (id : Nat) (all : Array Oper) (r : List It) (st : St) (stk : List Fm) : Prop where
  out : Mean E cur (.code (.region id all true) :: r) st stk
/-- a region in which something is sent or received -/
structure CommOk (E : En) (cur : FI) (id : Nat) (all : Array Oper) (r : List It) (st : St) (stk : List Fm) : Prop where
  out : Mean E cur (.code (.region id all false) :: r) st stk
def isCm : Op → Bool
  | .send _ _ => true
  | .recv _ _ _ => true
  | .select _ _ => true
  | _ => false
def hasCm : List Oper → Bool
  | [] => false
  | o :: l => match isCm o.op with
    | true => true
    | false => hasCm l
structure CallOk (E : En) (cur : FI) (f : Nat) (args : List SV) (all : Array Oper) (o : Oper) (l : List Oper) (r : List It) (st : St) (stk : List Fm) : Prop where
  out : (∃ args0, cl (ev st.fr) o.op = some (f, args0) ∧ args = args0.map nzS) → Mean E cur (.ops all (⟨o.dst, o.op, o.type, o.pos, o.after, none⟩ :: l) :: r) st stk

/-- an operation that the run does not take by itself: a rule says what it does -/
structure StuckOk (E : En) (cur : FI) (all : Array Oper) (o : Oper) (l : List Oper) (r : List It) (st : St) (stk : List Fm) : Prop where
  out : Mean E cur (.ops all (⟨o.dst, o.op, o.type, o.pos, o.after, none⟩ :: l) :: r) st stk

/-- what a call comes to, where data go in and one abstract value comes out -/
def CG (P : Program) (f : Nat) (args : List SV) (pf : SV → Prop) : Prop :=
  (∃ fn, P.funcs[f]? = some fn ∧ fn.body.isSome = true ∧ (fn.name == "runtime.NumGoroutine") = false) ∧
  ∀ (w0 : W0) (hp : List (Nat × Ob)) (nx : Nat) (η : Nat → Option Nat × Value) (w : World) (vs : Array Value), RepH w0 hp (lt nx) η w → RL (RS (cxS w0 hp (lt nx) η w)) args vs.toList →
    Calls P f vs w fun e w' => ∃ s v, e = .returned v ∧ pf s ∧ RS (cxS w0 hp (lt nx) η w') s v ∧ Below w.heap.size w w'
/-- a call that is made only if C -/
structure CallG (E : En) (C : Prop) (f : Nat) (args : List SV) (K : SV → Prop) : Prop where
  out : ∃ pf : SV → Prop, (∃ s, pf s) ∧ (∀ s, pf s → K s) ∧ (C → CG E.P f args pf)

/-! what is handed on is written out -/
def fcC (K : C → Prop) : C → Prop
  | .int k n => K (.int k n)
  | .bool .tt => K (.bool .tt)
  | .bool .ff => K (.bool .ff)
  | .bool (.sym b) => K (.bool (.sym b))
  | .str s => K (.str s)
  | .ptr b o => K (.ptr b o)
  | .pel d x o => K (.pel d x o)
  | .prw b i s o => K (.prw b i s o)
  | .row b => K (.row b)
  | .dat d xs => K (.dat d xs)
  | .val v => K (.val v)
  | .fn f l => K (.fn f l)
  | .bm f b o => K (.bm f b o)
  | .mp b => K (.mp b)
  | .chn b => K (.chn b)
  | .csl b n => K (.csl b n)
  | .glb g => K (.glb g)
  | .sub b o sz n c => K (.sub b o sz n c)
theorem fcC_eq (K : C → Prop) (c : C) : fcC K c = K c := by
  cases c with
  | bool b => cases b <;> rfl
  | _ => rfl
def fcL : (List C → Prop) → List C → Prop
  | K, [] => K []
  | K, c :: l => fcC (fun c => fcL (fun l => K (c :: l)) l) c
theorem fcL_eq : ∀ (K : List C → Prop) (l : List C), fcL K l = K l
  | K, [] => rfl
  | K, c :: l => by simp only [fcL, fcC_eq, fcL_eq]
def fcT : (List (Bool × List C) → Prop) → List (Bool × List C) → Prop
  | K, [] => K []
  | K, (true, c) :: l => fcL (fun c => fcT (fun l => K ((true, c) :: l)) l) c
  | K, (false, c) :: l => fcL (fun c => fcT (fun l => K ((false, c) :: l)) l) c
theorem fcT_eq : ∀ (K : List (Bool × List C) → Prop) (l : List (Bool × List C)), fcT K l = K l
  | K, [] => rfl
  | K, (true, c) :: l => by simp only [fcT, fcL_eq, fcT_eq]
  | K, (false, c) :: l => by simp only [fcT, fcL_eq, fcT_eq]
def fcS (K : SV → Prop) : SV → Prop
  | .c x => fcC (fun x => K (.c x)) x
  | .agg l => fcL (fun l => K (.agg l)) l
  | .tup l => fcT (fun l => K (.tup l)) l
  | .un => K .un
  | .arr d xs => K (.arr d xs)
theorem fcS_eq (K : SV → Prop) (s : SV) : fcS K s = K s := by cases s <;> simp only [fcS, fcC_eq, fcL_eq, fcT_eq]
def fcA : (List SV → Prop) → List SV → Prop
  | K, [] => K []
  | K, s :: l => fcS (fun s => fcA (fun l => K (s :: l)) l) s
theorem fcA_eq : ∀ (K : List SV → Prop) (l : List SV), fcA K l = K l
  | K, [] => rfl
  | K, s :: l => by simp only [fcA, fcS_eq, fcA_eq]
def fcO (K : Ob → Prop) : Ob → Prop
  | .cells T l => fcL (fun l => K (.cells T l)) l
  | .row T d xs => K (.row T d xs)
  | .lmp T k es => K (.lmp T k es)
  | .dmp T kd vd es => K (.dmp T kd vd es)
  | .chan cap d xs s r => K (.chan cap d xs s r)
  | .sit s p => K (.sit s p)
  | .itr m n seen => K (.itr m n seen)
  | .wid T d xs c => K (.wid T d xs c)
theorem fcO_eq (K : Ob → Prop) (o : Ob) : fcO K o = K o := by cases o <;> simp only [fcO, fcL_eq]
def fcH : (List (Nat × Ob) → Prop) → List (Nat × Ob) → Prop
  | K, [] => K []
  | K, (b, o) :: l => fcO (fun o => fcH (fun l => K ((b, o) :: l)) l) o
theorem fcH_eq : ∀ (K : List (Nat × Ob) → Prop) (l : List (Nat × Ob)), fcH K l = K l
  | K, [] => rfl
  | K, (b, o) :: l => by simp only [fcH, fcO_eq, fcH_eq]
def fcF (K : List (Nat × SV) → Prop) : List (Nat × SV) → Prop
  | [] => K []
  | p :: l => K (p :: l)
theorem fcF_eq (K : List (Nat × SV) → Prop) (l : List (Nat × SV)) : fcF K l = K l := by cases l <;> rfl
def fcN : (List (Nat × SV) → Prop) → List (Nat × SV) → Prop
  | K, [] => K []
  | K, (t, s) :: l => fcS (fun s => fcN (fun l => K ((t, s) :: l)) l) s
theorem fcN_eq : ∀ (K : List (Nat × SV) → Prop) (l : List (Nat × SV)), fcN K l = K l
  | K, [] => rfl
  | K, (t, s) :: l => by simp only [fcN, fcS_eq, fcN_eq]

def hq : Option Prop → Prop → Prop
  | none, X => X
  | some h, X => h → X
def pq : Option Prop → Prop → Prop
  | none, X => X
  | some p, X => p ∧ X
theorem hq_eq (h : Option Prop) (X : Prop) : hq h X = (OP h → X) := by cases h <;> simp [hq]
theorem pq_eq (p : Option Prop) (X : Prop) : pq p X = (OP p ∧ X) := by cases p <;> simp [pq]

/-- a slot that an operation writes -/
def nth : List Oper → Nat → Option Tmp
  | [], _ => none
  | o :: _, 0 => o.dst
  | _ :: l, n + 1 => nth l n
theorem nth_eq : ∀ (l : List Oper) (j : Nat), nth l j = (l[j]?).bind (·.dst)
  | [], _ => by simp [nth]
  | o :: _, 0 => rfl
  | _ :: l, n + 1 => by simpa [nth] using nth_eq l n

def retG (E : En) (k : FI → List It → St → List Fm → Prop) (cur : FI) (fr : List (Nat × SV)) (hp : List (Nat × Ob)) (nx : Nat) (stk : List Fm) : Prop :=
  match resV E.ti hp fr cur.res with
  | some l => fcS (fun v => match stk with
    | [] => E.post v ⟨fr, hp, nx⟩
    | f :: s => fcF (fun fr' => k f.fi f.todo ⟨fr', hp, nx⟩ s) (putF f.fi.nt f.fr f.dst v)) (resS l)
  | none => False

/-! guarded operations, gone through once: what they do counts only if C -/

/-- two ways' Bools as one -/
def mrg (b : Bool) : SV → SV → Option SV
  | .c (.bool x), .c (.bool y) => match x with
    | .sym e => match y with
      | .ff => some (.c (.bool (.sym (b && e))))
      | .tt => some (.c (.bool (.sym (!b || e))))
      | .sym f => some (.c (.bool (.sym (bif b then e else f))))
    | .tt => match y with
      | .ff => some (.c (.bool (.sym b)))
      | .tt => some (.c (.bool .tt))
      | .sym f => some (.c (.bool (.sym (b || f))))
    | .ff => match y with
      | .ff => some (.c (.bool .ff))
      | .tt => some (.c (.bool (.sym (!b))))
      | .sym f => some (.c (.bool (.sym (!b && f))))
  | _, _ => none
theorem mrg_sound {x : Cx} {b : Bool} {s t v : SV} {u : Value} (h : mrg b s t = some v) (h1 : b = true → RS x s u) (h2 : b = false → RS x t u) : RS x v u := by
  unfold mrg at h
  split at h
  · rename_i p q
    have g1 : b = true → u = .bool p.v := fun hb => h1 hb
    have g2 : b = false → u = .bool q.v := fun hb => h2 hb
    cases b
    · have g := g2 rfl
      subst g
      cases p <;> cases q <;> simp only [Option.some.injEq] at h <;> subst h <;> simp [RS, RC]
    · have g := g1 rfl
      subst g
      cases p <;> cases q <;> simp only [Option.some.injEq] at h <;> subst h <;> simp [RS, RC]
  · cases h

/-- the operations at a list's head whose guards are not before the k-th, and what is behind them -/
def segA (k : Nat) : List Oper → List Oper
  | [] => []
  | o :: l => match o.guard with
    | some (j, _) => match Nat.ble k j with
      | true => o :: segA k l
      | false => []
    | none => []
def segB (k : Nat) : List Oper → List Oper
  | [] => []
  | o :: l => match o.guard with
    | some (j, _) => match Nat.ble k j with
      | true => segB k l
      | false => o :: l
    | none => o :: l
theorem seg_eq (k : Nat) : ∀ l : List Oper, segA k l ++ segB k l = l
  | [] => rfl
  | o :: l => by
    simp only [segA, segB]
    cases o.guard with
    | none => rfl
    | some g =>
      obtain ⟨j, w⟩ := g
      dsimp only
      cases Nat.ble k j with
      | true => simp [seg_eq k l]
      | false => rfl

def isN : Option SV → Bool
  | none => true
  | some _ => false
def eqW : Bool → Bool → Bool
  | true, true => true
  | false, false => true
  | _, _ => false
theorem eqW_iff (a b : Bool) : eqW a b = true ↔ a = b := by cases a <;> cases b <;> simp [eqW]
def memN (n : Nat) : List Nat → Bool
  | [] => false
  | m :: l => match Nat.beq n m with
    | true => true
    | false => memN n l
theorem memN_mem {n : Nat} : ∀ {l : List Nat}, memN n l = true → n ∈ l
  | [], h => by cases h
  | m :: l, h => by
    simp only [memN] at h
    split at h
    · rename_i e; rw [Nat.eq_of_beq_eq_true e]; simp
    · exact List.mem_cons_of_mem _ (memN_mem h)
/-- each of these is left out where slot t's Bool is not the one that is wanted; none writes what the frame tells of -/
def skB (fr : List (Nat × SV)) (all : List Oper) (t : Nat) (want : Bool) : List Nat → List Oper → Bool
  | _, [] => true
  | ds, o :: l => match o.guard with
    | none => false
    | some (j, w) => match nth all j with
      | none => false
      | some s => match (match Nat.beq s t with | true => eqW w want | false => memN s ds) with
        | false => false
        | true => match o.dst with
          | none => skB fr all t want ds l
          | some d => match Nat.beq d t with
            | true => false
            | false => match isN (lk fr d) with
              | false => false
              | true => skB fr all t want (d :: ds) l

/-- operations that leave the memory as it is -/
def okK : Op → Bool
  | .move _ | .assign _ | .pick _ _ _ | .binOp _ _ _ _ _ | .unOp _ _ _ | .convert _ _ _ | .extract _ _ | .fieldAddr _ _ _ | .field _ _ _ | .load _ _ | .index _ _ _ | .indexAddr _ _ _ | .slice _ _ _ _ _ | .nilCheck _ | .build _ _ | .lookup _ _ _ _ => true
  | .call c => match c.callee with
    | .builtin .len => true
    | .value _ => true
    | _ => false
  | _ => false
def okS' : List Oper → Bool
  | [] => true
  | o :: l => match okK o.op with
    | true => okS' l
    | false => false

/-- is a call handed a pointer to an object? -/
def ptrS : SV → Bool
  | .c (.ptr _ _) => true
  | _ => false
def defOf (t : Nat) : List Oper → Option Op
  | [] => none
  | o :: l => match o.dst with
    | some d => match Nat.beq d t with
      | true => some o.op
      | false => defOf t l
    | none => defOf t l
def argPt (fr : List (Nat × SV)) (seg : List Oper) : List Operand → Bool
  | [] => false
  | .tmp t :: l => match (match defOf t seg with
    | some (.move x) => ptrS (ev fr x)
    | some _ => false
    | none => ptrS (ev fr (.tmp t))) with
    | true => true
    | false => argPt fr seg l
  | _ :: l => argPt fr seg l
def ptC (fr : List (Nat × SV)) (seg : List Oper) : List Oper → Bool
  | [] => false
  | o :: l => match (match o.op with
    | .call c => match c.callee with
      | .value _ => argPt fr seg c.args.toList
      | _ => false
    | _ => false) with
    | true => true
    | false => ptC fr seg l
/-- what stands behind guarded operations: a pick between what they yield and another value -/
def segP (fr : List (Nat × SV)) (all : List Oper) (t j : Nat) (w : Bool) (l : List Oper) : Option (Oper × Operand × Operand × List Oper) :=
  match segB j l with
  | p :: l' => match p.op with
    | .pick (.tmp c) x y => match Nat.beq c t with
      | true => match okS' (segA j l) with
        | true => match skB fr all t w [] (segA j l) with
          | true => match ptC fr (segA j l) (segA j l) with
            | true => none
            | false => some (p, x, y, l')
          | false => none
        | false => none
      | false => none
    | _ => none
  | [] => none

def hG (C : Prop) : Option Prop → Prop → Prop
  | none, X => X
  | some h, X => (C → h) → X
def pG (C : Prop) : Option Prop → Prop → Prop
  | none, X => X
  | some p, X => (C → p) ∧ X
theorem hG_eq (C : Prop) (h : Option Prop) (X : Prop) : hG C h X = ((C → OP h) → X) := by cases h <;> simp [hG]
theorem pG_eq (C : Prop) (p : Option Prop) (X : Prop) : pG C p X = ((C → OP p) ∧ X) := by cases p <;> simp [pG]

def perfG (E : En) (nt : Nat) (hp : List (Nat × Ob)) (C : Prop) (o : Oper) (fr : List (Nat × SV)) (K : List (Nat × SV) → Prop) : Prop :=
  match qm E.ti hp (ev fr) o.op with
  | some ⟨h, p, v⟩ => hG C h (pG C p (fcS (fun v => fcF K (putF nt fr o.dst v)) v))
  | none => match cl (ev fr) o.op with
    | some (f, args) => fcA (fun args => fcA (fun args => CallG E C f args (fun s => fcS (fun v => fcF K (putF nt fr o.dst v)) s)) (args.map nzS)) args
    | none => False

def mrgW (w b : Bool) (fr fr' : List (Nat × SV)) (x y : Operand) : Option SV :=
  match w with
  | true => mrg b (ev fr' x) (ev fr y)
  | false => mrg b (ev fr x) (ev fr' y)

def ofW : Bool → BE
  | true => .tt
  | false => .ff

/-- guarded operations, each of which is wanted if C -/
def sgo (E : En) (nt : Nat) (all : List Oper) (hp : List (Nat × Ob)) : Nat → Prop → List Oper → List (Nat × SV) → (List (Nat × SV) → Prop) → Prop
  | 0, _, _, _, _ => False
  | _ + 1, _, [], fr, K => K fr
  | n + 1, C, o :: l, fr, K => match o.guard with
    | none => False
    | some (j, w) => match nth all j with
      | none => False
      | some t => match lk fr t with
        | some (.c (.bool .tt)) => match w with
          | true => perfG E nt hp C o fr (fun fr' => sgo E nt all hp n C l fr' K)
          | false => False
        | some (.c (.bool .ff)) => match w with
          | false => perfG E nt hp C o fr (fun fr' => sgo E nt all hp n C l fr' K)
          | true => False
        | some (.c (.bool (.sym b))) => match segP fr all t j w (o :: l) with
          | some (p, x, y, l') => match p.guard with
            | none => False
            | some (j2, w2) => match nth all j2 with
              | none => False
              | some t2 => match lk fr t2 with
                | some (.c (.bool c2)) => match c2 with
                  | .sym _ => False
                  | .tt => match w2 with
                    | true => sgo E nt all hp n (C ∧ b = w) (segA j (o :: l)) ((t, .c (.bool (ofW w))) :: fr) (fun fr' => match mrgW w b fr fr' x y with
                      | some v => fcS (fun v => fcF (fun fr => sgo E nt all hp n C l' fr K) (putF nt fr p.dst v)) v
                      | none => False)
                    | false => False
                  | .ff => match w2 with
                    | false => sgo E nt all hp n (C ∧ b = w) (segA j (o :: l)) ((t, .c (.bool (ofW w))) :: fr) (fun fr' => match mrgW w b fr fr' x y with
                      | some v => fcS (fun v => fcF (fun fr => sgo E nt all hp n C l' fr K) (putF nt fr p.dst v)) v
                      | none => False)
                    | true => False
                | _ => False
          | none => False
        | _ => False

/-- a test of the run's own -/
def btr (b : Bool) (X : Prop) : Prop := match b with
  | true => X
  | false => False
theorem btr_out {b : Bool} {X : Prop} (h : btr b X) : b = true ∧ X := by
  cases b
  · exact h.elim
  · exact ⟨rfl, h⟩

def perf (E : En) (k : FI → List It → St → List Fm → Prop) (cur : FI) (all : Array Oper) (o : Oper) (l : List Oper) (r : List It) (fr : List (Nat × SV)) (hp : List (Nat × Ob)) (nx : Nat) (stk : List Fm) : Prop :=
  match qm E.ti hp (ev fr) o.op with
  | some ⟨h, p, v⟩ => hq h (pq p (fcS (fun v => fcF (fun fr' => k cur (.ops all l :: r) ⟨fr', hp, nx⟩ stk) (putF cur.nt fr o.dst v)) v))
  | none => match em E.ti hp nx (ev fr) o.op with
    | some ⟨h, p, v, ch, nx'⟩ => hq h (pq p (fcS (fun v => fcH (fun hp' => fcF (fun fr' => k cur (.ops all l :: r) ⟨fr', hp', nx'⟩ stk) (putF cur.nt fr o.dst v)) (apC hp ch)) v))
    | none => match lmL E.ti hp (ev fr) o.op with
      | some (kk, es, n, z, ok) => (Lit.int kk n).wf = true ∧ lkS n (fun f sv => fcS (fun v => fcF (fun fr' => k cur (.ops all l :: r) ⟨fr', hp, nx⟩ stk) (putF cur.nt fr o.dst v)) (lkR ok f sv)) z es
      | none => match cl (ev fr) o.op with
      | some (f, args) => fcA (fun args => match E.inl f with
        | some (fn, c) => btr (Nat.ble args.length fn.nt) <| fcN (fun fr' => k fn [.code c] ⟨fr', hp, nx⟩ (⟨cur, fr, .ops all l :: r, o.dst⟩ :: stk)) (num args 0)
        | none => fcA (fun args => CallOk E cur f args all o l r ⟨fr, hp, nx⟩ stk) (args.map nzS)) args
      | none => StuckOk E cur all o l r ⟨fr, hp, nx⟩ stk

/-- a test that was made is known from there on -/
def cnd (c : Operand) (e : BE) (fr : List (Nat × SV)) : List (Nat × SV) := match c with
  | .tmp t => (t, .c (.bool e)) :: fr
  | _ => fr

def stp (E : En) (k : FI → List It → St → List Fm → Prop) (cur : FI) : List It → St → List Fm → Prop
  | [], ⟨fr, hp, nx⟩, stk => retG E k cur fr hp nx stk
  | .code .skip :: r, st, stk => k cur r st stk
  | .code (.region id all false) :: r, st, stk => match hasCm all.toList with
    | true => CommOk E cur id all r st stk
    | false => k cur (.ops all all.toList :: r) st stk
  | .code (.region id all true) :: r, st, stk => DrawOk E cur id all r st stk
  | .code (.seq x y) :: r, st, stk => k cur (.code x :: .code y :: r) st stk
  | .code (.cond c x y) :: r, ⟨fr, hp, nx⟩, stk => match ev fr c with
    | .c (.bool .tt) => k cur (.code x :: r) ⟨fr, hp, nx⟩ stk
    | .c (.bool .ff) => k cur (.code y :: r) ⟨fr, hp, nx⟩ stk
    | .c (.bool (.sym b)) => spl b (fcF (fun fr => k cur (.code x :: r) ⟨fr, hp, nx⟩ stk) (cnd c .tt fr)) (fcF (fun fr => k cur (.code y :: r) ⟨fr, hp, nx⟩ stk) (cnd c .ff fr))
    | _ => False
  | .code (.block id c) :: r, st, stk => k cur (.code c :: .blk id :: r) st stk
  | .code (.loop c) :: r, st, stk => LoopOk E cur c r st stk
  | .code (.exit id) :: r, st, stk => match exitTo id r with
    | some r' => k cur r' st stk
    | none => False
  | .code (.scope c) :: r, st, stk => k cur (.code c :: .scp :: r) st stk
  | .code (.label _) :: r, st, stk => k cur r st stk
  | .code .ret :: _, ⟨fr, hp, nx⟩, stk => retG E k cur fr hp nx stk
  | .code _ :: _, _, _ => False
  | .ops _ [] :: r, st, stk => k cur r st stk
  | .ops all (o :: l) :: r, ⟨fr, hp, nx⟩, stk => match o.guard with
    | none => perf E k cur all o l r fr hp nx stk
    | some (j, want) => match nth all.toList j with
      | some t => match lk fr t with
        | some (.c (.bool .tt)) => match want with
          | true => perf E k cur all o l r fr hp nx stk
          | false => fcF (fun fr' => k cur (.ops all l :: r) ⟨fr', hp, nx⟩ stk) (putF cur.nt fr o.dst (.tup []))
        | some (.c (.bool .ff)) => match want with
          | false => perf E k cur all o l r fr hp nx stk
          | true => fcF (fun fr' => k cur (.ops all l :: r) ⟨fr', hp, nx⟩ stk) (putF cur.nt fr o.dst (.tup []))
        | some (.c (.bool (.sym b))) => match segP fr all.toList t j want (o :: l) with
         | some (p, x, y, l') => match p.guard with
          | none => sgo E cur.nt all.toList hp 1000 (b = want) (segA j (o :: l)) ((t, .c (.bool (ofW want))) :: fr) (fun fr' => match mrgW want b fr fr' x y with
            | some v => fcS (fun v => fcF (fun fr => k cur (.ops all l' :: r) ⟨fr, hp, nx⟩ stk) (putF cur.nt fr p.dst v)) v
            | none => False)
          | some _ => False
         | none => match want with
          | true => spl b (perf E k cur all o l r ((t, .c (.bool .tt)) :: fr) hp nx stk) (fcF (fun fr' => k cur (.ops all l :: r) ⟨fr', hp, nx⟩ stk) (putF cur.nt ((t, .c (.bool .ff)) :: fr) o.dst (.tup [])))
          | false => spl b (fcF (fun fr' => k cur (.ops all l :: r) ⟨fr', hp, nx⟩ stk) (putF cur.nt ((t, .c (.bool .tt)) :: fr) o.dst (.tup []))) (perf E k cur all o l r ((t, .c (.bool .ff)) :: fr) hp nx stk)
        | some (.tup _) => fcF (fun fr' => k cur (.ops all l :: r) ⟨fr', hp, nx⟩ stk) (putF cur.nt fr o.dst (.tup []))
        | _ => False
      | none => False
  | .blk _ :: r, st, stk => k cur r st stk
  | .scp :: r, st, stk => k cur r st stk
  | .fin Q :: _, st, _ => Q st

def go (E : En) : Nat → FI → List It → St → List Fm → Prop
  | 0 => fun _ _ _ _ => False
  | n + 1 => stp E (go E n)

end OE

/- OE, part 6: the run over abstract states is right. Own work; generic over the program. -/
set_option linter.unusedVariables false
namespace OE
open Go Go.RowKit

structure EnOk (E : En) : Prop where
  tab : TabOk E.P E.ti
  inl : ∀ f fi c, E.inl f = some (fi, c) → E.P.funcs[f]? = some fi.fn ∧ fi.fn.body = some c ∧ (fi.fn.name == "runtime.NumGoroutine") = false ∧ fi.fn.ntmps = fi.nt ∧ fi.fn.results.toList = fi.res

theorem ev_sound {x : Cx} {nt : Nat} {fr : List (Nat × SV)} {a : Act} (h : RepF x nt fr a) : ∀ o, RS x (ev fr o) (a.eval o)
  | .tmp t => by
    simp only [ev, Act.eval]
    cases hl : lk fr t with
    | none => exact trivial
    | some sv =>
      obtain ⟨v, h1, h2⟩ := h.sl t sv hl
      have : a.tmps.getD t undef = v := by simp [Array.getD_eq_getD_getElem?, h1]
      rw [this]
      exact h2
  | .const v => rs_cv v
  | .func f => ⟨#[], rfl, trivial⟩
  | .global _ => rfl

theorem putF_sound {x : Cx} {nt : Nat} {fr : List (Nat × SV)} {a : Act} (h : RepF x nt fr a) {dst : Option Tmp} {sv : SV} {v : Value} (hv : RS x sv v) : RepF x nt (putF nt fr dst sv) (a.put dst v) := by
  cases dst with
  | none => exact h
  | some d =>
    simp only [putF, Act.put]
    split
    · rename_i hd
      refine ⟨fun t s ht => ?_, by simp [h.siz], h.dfr⟩
      simp only [lk] at ht
      split at ht
      · rename_i e
        subst e
        cases ht
        exact ⟨v, by rw [Array.getElem?_setIfInBounds_self_of_lt (by rw [h.siz]; exact hd)], hv⟩
      · rename_i e
        obtain ⟨u, h1, h2⟩ := h.sl t s ht
        exact ⟨u, by rw [Array.getElem?_setIfInBounds_ne (Ne.symm e)]; exact h1, h2⟩
    · rename_i hd
      refine ⟨fun t s ht => ?_, by simp [h.siz], h.dfr⟩
      obtain ⟨u, h1, h2⟩ := h.sl t s ht
      have : t < a.tmps.size := (Array.getElem?_eq_some_iff.1 h1).1
      rw [h.siz] at this
      exact ⟨u, by rw [Array.getElem?_setIfInBounds_ne (fun e => hd (by rw [e]; exact this))]; exact h1, h2⟩

theorem cons_sound {x : Cx} {nt : Nat} {fr : List (Nat × SV)} {a : Act} (h : RepF x nt fr a) {t : Nat} {sv : SV} {v : Value} (ht : a.tmps[t]? = some v) (hv : RS x sv v) : RepF x nt ((t, sv) :: fr) a :=
  ⟨fun s u hs => by
    simp only [lk] at hs
    split at hs
    · rename_i e; subst e; cases hs; exact ⟨v, ht, hv⟩
    · exact h.sl s u hs, h.siz, h.dfr⟩

theorem partOf_sound {x : Cx} {s : SV} {p : Bool × List C} {v : Value} (h : partOf s = some p) (hv : RS x s v) : RP x p v := by
  unfold partOf at h
  split at h
  · cases h; exact ⟨_, rfl, hv⟩
  · cases h; exact hv
  · cases h

theorem resC_sound {P : Program} {ti : Nat → Option TI} (ht : TabOk P ti) {w0 : W0} {hp : List (Nat × Ob)} {nx : Nat → Prop} {η : Nat → Option Nat × Value} {w : World} (hH : RepH w0 hp nx η w) {t : TypeId} {s : SV} {q : Q} {u : Value}
    (h : resC ti hp t s = some q) (hx : RS (cxS w0 hp nx η w) s u) : ∃ v, RS (cxS w0 hp nx η w) q.v v ∧ (do loadVar t (← asAddr u) : Go.Sem Value).run P w = .ok v w := by
  unfold resC at h
  split at h
  · rename_i b off
    obtain ⟨hb, k, hk, e⟩ := hx
    split at h
    · rename_i i T l hi hlk
      obtain ⟨k', vs, h1, h2, h3⟩ := hH.obs b _ hlk
      have hkk : k' = k := by have : some k' = some k := h1.symm.trans hk; simpa using this
      subst hkk
      obtain ⟨g1, g2, v, g3, g4⟩ := run_loadVar (P := P) ht hi h h2 (p := 0) h3 (fun j v hj => by simpa using hj)
      rw [Nat.zero_add] at g4
      refine ⟨v, g3, ?_⟩
      simp [e, asAddr, g4 w rfl]
    · cases h
  · cases h

def resOne (tmps : Array Value) : ResultVar → Go.Sem Value
  | .tmp t => pure (tmps.getD t undef)
  | .cell a t => do loadVar t (← asAddr (tmps.getD a undef))

theorem results_eq (fn : Func) (tmps : Array Value) : results fn tmps = (fn.results.mapM (resOne tmps) >>= fun vs => pure (if h : vs.size = 1 then vs[0] else .tuple vs)) := by
  unfold results
  congr 1

theorem resV_sound {P : Program} {ti : Nat → Option TI} (ht : TabOk P ti) {w0 : W0} {hp : List (Nat × Ob)} {nx : Nat → Prop} {η : Nat → Option Nat × Value} {w : World} (hH : RepH w0 hp nx η w) {nt : Nat} {fr : List (Nat × SV)} {a : Act}
    (hF : RepF (cxS w0 hp nx η w) nt fr a) : ∀ {l : List ResultVar} {m : List (Bool × List C)}, resV ti hp fr l = some m →
    ∃ vs, (l.mapM (resOne a.tmps)).run P w = .ok vs w ∧ RL (RP (cxS w0 hp nx η w)) m vs
  | [], m, h => by
    simp only [resV, Option.some.injEq] at h
    subst h
    exact ⟨[], rfl, trivial⟩
  | .tmp t :: r, m, h => by
    simp only [resV] at h
    split at h
    · rename_i p l hp' hl
      simp only [Option.some.injEq] at h
      subst h
      obtain ⟨vs, h1, h2⟩ := resV_sound ht hH hF hl
      have hv := ev_sound hF (.tmp t)
      simp only [ev, Act.eval] at hv
      refine ⟨a.tmps.getD t undef :: vs, ?_, partOf_sound hp' hv, h2⟩
      simp only [List.mapM_cons, Go.Sem.run_bind, Go.Sem.run_pure, Result.andThen_ok, h1, resOne]
    · cases h
  | .cell t T :: r, m, h => by
    simp only [resV] at h
    split at h
    · rename_i q l hq hl
      split at h
      · rename_i p hp'
        simp only [Option.some.injEq] at h
        subst h
        obtain ⟨vs, h1, h2⟩ := resV_sound ht hH hF hl
        have hv := ev_sound hF (.tmp t)
        simp only [ev, Act.eval] at hv
        obtain ⟨v, g1, g2⟩ := resC_sound (P := P) ht hH hq hv
        refine ⟨v :: vs, ?_, partOf_sound hp' g1, h2⟩
        simp only [List.mapM_cons]
        rw [Go.Sem.run_bind]
        simp only [resOne]
        rw [g2]
        simp only [Result.andThen_ok, Go.Sem.run_bind, h1, Go.Sem.run_pure]
      · cases h
    · cases h

theorem resS_sound {P : Program} {ti : Nat → Option TI} (ht : TabOk P ti) {w0 : W0} {hp : List (Nat × Ob)} {nx : Nat → Prop} {η : Nat → Option Nat × Value} {w : World} (hH : RepH w0 hp nx η w) {nt : Nat} {fr : List (Nat × SV)} {a : Act}
    (hF : RepF (cxS w0 hp nx η w) nt fr a) {fn : Func} {l : List ResultVar} (hl : fn.results.toList = l) {m : List (Bool × List C)} (h : resV ti hp fr l = some m) :
    ∃ v, (results fn a.tmps).run P w = .ok v w ∧ RS (cxS w0 hp nx η w) (resS m) v := by
  subst hl
  obtain ⟨vs, h1, h2⟩ := resV_sound (P := P) ht hH hF h
  have hr : (results fn a.tmps).run P w = .ok (if h : vs.toArray.size = 1 then vs.toArray[0] else .tuple vs.toArray) w := by
    rw [results_eq, Array.mapM_eq_mapM_toList, Go.Sem.run_bind, Go.Sem.run_map, h1]
    rfl
  refine ⟨_, hr, ?_⟩
  cases m with
  | nil =>
    cases vs with
    | nil => exact ⟨#[], rfl, trivial⟩
    | cons _ _ => exact h2.elim
  | cons p m =>
    obtain ⟨v, vs', rfl, hp, hm⟩ := rl_cons h2
    cases m with
    | cons p' m' =>
      obtain ⟨v', vs'', rfl, hp', hm'⟩ := rl_cons hm
      have e1 : resS (p :: p' :: m') = .tup (p :: p' :: m') := by
        unfold resS; split <;> simp_all
      rw [e1, dif_neg (by simp)]
      exact ⟨_, rfl, by simpa using h2⟩
    | nil =>
      have : vs' = [] := by cases vs' with | nil => rfl | cons _ _ => exact hm.elim
      subst this
      rw [dif_pos (by simp)]
      obtain ⟨b, l⟩ := p
      cases b with
      | true =>
        simp only [RP, if_true] at hp
        exact hp
      | false =>
        simp only [RP, Bool.false_eq_true, if_false] at hp
        obtain ⟨y, rfl, hy⟩ := hp
        exact hy

/-! ### the run -/

theorem RepA.fr {w0 : W0} {cur : FI} {st : St} {S : List (Fm × Act)} {η : Nat → Option Nat × Value} {a : Act} {w : World} (h : RepA w0 cur st S η a w) {fr : List (Nat × SV)} {a' : Act}
    (hF : RepF (cxS w0 st.hp (lt st.nx) η w) cur.nt fr a') : RepA w0 cur ⟨fr, st.hp, st.nx⟩ S η a' w := ⟨h.1, hF, h.2.2⟩

/-- the heap has gone on: the frames stand -/
theorem RepA.heap {w0 : W0} {cur : FI} {st : St} {S : List (Fm × Act)} {η η' : Nat → Option Nat × Value} {a : Act} {w w' : World} (h : RepA w0 cur st S η a w) {hp : List (Nat × Ob)} {nx : Nat} (hH : RepH w0 hp (lt nx) η' w')
    (hle : (cxS w0 st.hp (lt st.nx) η w).le (cxS w0 hp (lt nx) η' w')) : RepA w0 cur ⟨st.fr, hp, nx⟩ S η' a w' :=
  ⟨⟨hH, h.1.2⟩, RepF.mono hle h.2.1, fun p hp => ⟨RepF.mono hle (h.2.2 p hp).1, (h.2.2 p hp).2⟩⟩

theorem rs_undef {x : Cx} : RS x (.tup []) undef := ⟨#[], rfl, trivial⟩
theorem yielded_tup {all : Array Oper} {a : Act} {j t : Nat} {vs : Array Value} (h1 : (all[j]?).bind (·.dst) = some t) (h2 : a.tmps[t]? = some (.tuple vs)) : yielded all a.tmps j = none := by
  simp [yielded, h1, h2]
theorem yielded_of {all : Array Oper} {a : Act} {j t : Nat} {b : Bool} (h1 : (all[j]?).bind (·.dst) = some t) (h2 : a.tmps[t]? = some (.bool b)) : yielded all a.tmps j = some b := by
  simp [yielded, h1, h2]

theorem tw_exit {P : Program} {w0 : W0} {cur : FI} {S : List (Fm × Act)} {R : Act → World → Prop} {id : Nat} : ∀ {r r' : List It}, exitTo id r = some r' → ∀ a w, TW P w0 cur S R r' .normal a w → TW P w0 cur S R r (.exit id) a w
  | [], _, h, _, _, _ => by simp [exitTo] at h
  | .blk id' :: r, r', h, a, w, hh => by
    simp only [exitTo] at h
    simp only [TW]
    by_cases e : id' = id
    · subst e
      simp only [if_true, Option.some.injEq] at h
      subst h
      simpa using hh
    · rw [if_neg e] at h
      rw [if_neg (Ne.symm e)]
      exact tw_exit h a w hh
  | .code _ :: r, r', h, a, w, hh => tw_exit (r := r) h a w hh
  | .ops _ _ :: r, r', h, a, w, hh => tw_exit (r := r) h a w hh
  | .scp :: r, r', h, a, w, hh => tw_exit (r := r) h a w hh
  | .fin _ :: r, r', h, a, w, hh => tw_exit (r := r) h a w hh

theorem tw_ret {P : Program} {w0 : W0} {cur : FI} {S : List (Fm × Act)} {R : Act → World → Prop} {a : Act} {w : World} (h : R a w) : ∀ {r : List It}, TW P w0 cur S R r .ret a w
  | [] => h
  | .code _ :: r => tw_ret h (r := r)
  | .ops _ _ :: r => tw_ret h (r := r)
  | .blk _ :: r => tw_ret h (r := r)
  | .scp :: r => tw_ret h (r := r)
  | .fin _ :: r => tw_ret h (r := r)

theorem caps_rs {x : Cx} : ∀ {caps : List (Nat × Nat)} {m : List Value}, RL (fun (p : Nat × Nat) u => x.nm p.1 ∧ ∃ k, (x.η p.1).1 = some k ∧ u = .pointer (some ⟨k, p.2, none⟩)) caps m →
    RL (RS x) (caps.map fun p => .c (.ptr p.1 p.2)) m
  | [], [], _ => trivial
  | _ :: _, _ :: _, ⟨h1, h2⟩ => ⟨h1, caps_rs h2⟩
  | [], _ :: _, h => h.elim
  | _ :: _, [], h => h.elim

theorem tw_outgrown {P : Program} {w0 : W0} {cur : FI} {S : List (Fm × Act)} {R : Act → World → Prop} {a : Act} {w : World} : ∀ {r : List It}, TW P w0 cur S R r .outgrown a w → False
  | [], h => h
  | .code _ :: r, h => tw_outgrown (r := r) h
  | .ops _ _ :: r, h => tw_outgrown (r := r) h
  | .blk _ :: r, h => tw_outgrown (r := r) h
  | .scp :: r, h => tw_outgrown (r := r) h
  | .fin _ :: r, h => tw_outgrown (r := r) h

theorem upon_dst {P : Program} {o o' : Oper} (h : o.dst = o'.dst) (a : Act) (next : Act → World → Prop) (Q : Exit → Act → World → Prop) (r : Result Next) : o.upon P a next Q r = o'.upon P a next Q r := by
  cases r with
  | halt x w => cases x <;> rfl
  | ok n w => cases n <;> simp [Oper.upon, h]

/-- a call's operation comes to the call -/
theorem run_call {E : En} {x : Cx} {g : Operand → SV} {ρ : Operand → Value} (hg : ∀ o, RS x (g o) (ρ o)) {o : Oper} {f : Nat} {args : List SV} (h : cl g o.op = some (f, args)) {fn : Func} (hf : E.P.funcs[f]? = some fn)
    (hb : fn.body.isSome) (hn : (fn.name == "runtime.NumGoroutine") = false) : ∃ vs : Array Value, RL (RS x) args vs.toList ∧ ∀ w, (execOp ρ o).run E.P w = .ok (.enter f vs) w := by
  unfold cl at h
  split at h
  · rename_i c ho
    split at h
    · rename_i X hc
      split at h
      · rename_i f' caps hX
        simp only [Option.some.injEq, Prod.mk.injEq] at h
        obtain ⟨rfl, rfl⟩ := h
        have hx := hg X
        rw [hX] at hx
        obtain ⟨cs, e, hcs⟩ := hx
        refine ⟨c.args.map ρ ++ cs, ?_, fun w => ?_⟩
        · rw [Array.toList_append]
          refine RL.app ?_ ?_
          · have := rl_map hg c.args.toList
            simpa using this
          · exact caps_rs hcs
        · have hb' : fn.body.isNone = false := by cases hbb : fn.body with | none => simp [hbb] at hb | some _ => rfl
          simp only [execOp, ho, resolve, hc, e, Deferred.ofValue, invoke, callFunc, Sem.run_bind, Sem.run_pure, Result.andThen_ok, run_program, hf, hn, hb', Bool.false_eq_true, if_false, Array.empty_append]
      · rename_i f' b off hX
        simp only [Option.some.injEq, Prod.mk.injEq] at h
        obtain ⟨rfl, rfl⟩ := h
        have hx := hg X
        rw [hX] at hx
        obtain ⟨g1, k, g2, e⟩ := hx
        refine ⟨#[.pointer (some ⟨k, off, none⟩)] ++ c.args.map ρ, ?_, fun w => ?_⟩
        · rw [Array.toList_append]
          refine ⟨⟨g1, k, g2, rfl⟩, ?_⟩
          have := rl_map hg c.args.toList
          simpa using this
        · have hb' : fn.body.isNone = false := by cases hbb : fn.body with | none => simp [hbb] at hb | some _ => rfl
          simp only [execOp, ho, resolve, hc, e, Deferred.ofValue, invoke, callFunc, Sem.run_bind, Sem.run_pure, Result.andThen_ok, run_program, hf, hn, hb', Bool.false_eq_true, if_false, Array.append_empty]
      · cases h
    · cases h
  · cases h

theorem num_lk : ∀ {l : List SV} {n t : Nat} {s : SV}, lk (num l n) t = some s → n ≤ t ∧ l[t - n]? = some s
  | [], _, _, _, h => by simp [num, lk] at h
  | a :: l, n, t, s, h => by
    simp only [num, lk] at h
    split at h
    · rename_i e
      subst e
      cases h
      simp
    · obtain ⟨h1, h2⟩ := num_lk h
      refine ⟨by omega, ?_⟩
      have : t - n = (t - (n + 1)) + 1 := by omega
      rw [this]
      simpa using h2

theorem enter_rep {x : Cx} {args : List SV} {vs : Array Value} (h : RL (RS x) args vs.toList) {nt : Nat} (hn : args.length ≤ nt) : RepF x nt (num args 0) { tmps := vs ++ Array.replicate (nt - vs.size) undef, defers := [] } := by
  have hl := RL.len h
  simp only [Array.length_toList] at hl
  refine ⟨fun t s ht => ?_, by simp; omega, rfl⟩
  obtain ⟨_, h2⟩ := num_lk ht
  simp only [Nat.sub_zero] at h2
  obtain ⟨v, h3, h4⟩ := RL.get h h2
  have hlt : t < vs.size := by
    have := (List.getElem?_eq_some_iff.1 h3).1
    simpa using this
  exact ⟨v, by rw [Array.getElem?_append_left hlt]; simpa using h3, h4⟩

theorem nz_sound {x : Cx} {s : SV} {v : Value} (h : RS x s v) : RS x (nzS s) v := by
  have one : ∀ {c : C} {v : Value}, RC x c v → RC x (nzC c) v := fun {c v} h => by
    unfold nzC
    split <;> exact h
  unfold nzS
  split
  · exact one h
  · obtain ⟨vs, e, hl⟩ := h
    refine ⟨vs, e, ?_⟩
    generalize vs.toList = m at hl
    rename_i l
    clear e
    induction l generalizing m with
    | nil => exact hl
    | cons c l ih =>
      obtain ⟨v, m', rfl, h1, h2⟩ := rl_cons hl
      exact ⟨one h1, ih m' h2⟩
  · exact h

theorem nzs_sound {x : Cx} : ∀ {l : List SV} {m : List Value}, RL (RS x) l m → RL (RS x) (l.map nzS) m
  | [], [], _ => trivial
  | _ :: _, _ :: _, ⟨h1, h2⟩ => ⟨nz_sound h1, nzs_sound h2⟩
  | [], _ :: _, h => h.elim
  | _ :: _, [], h => h.elim


/-! ### guarded operations -/

theorem RepF.keep {x : Cx} {nt : Nat} {fr : List (Nat × SV)} {a a' : Act} (h : RepF x nt fr a) (hs : ∀ t, lk fr t ≠ none → a'.tmps[t]? = a.tmps[t]?) (hz : a'.tmps.size = a.tmps.size) (hd : a'.defers = a.defers) : RepF x nt fr a' :=
  ⟨fun t sv ht => by rw [hs t (by rw [ht]; simp)]; exact h.sl t sv ht, hz.trans h.siz, hd.trans h.dfr⟩

theorem put_keep {a : Act} {dst : Option Tmp} {v : Value} {t : Nat} (h : dst ≠ some t) : (a.put dst v).tmps[t]? = a.tmps[t]? := by
  cases dst with
  | none => rfl
  | some d => simp only [Act.put]; exact Array.getElem?_setIfInBounds_ne (fun e => h (by rw [e]))
theorem put_size {a : Act} {dst : Option Tmp} {v : Value} : (a.put dst v).tmps.size = a.tmps.size := by
  cases dst <;> simp [Act.put]
theorem put_defers {a : Act} {dst : Option Tmp} {v : Value} : (a.put dst v).defers = a.defers := by
  cases dst <;> rfl

/-- nothing that is read as a Bool -/
def NoB (a : Act) (d : Nat) : Prop := ∀ b, a.tmps[d]? ≠ some (.bool b)
theorem put_nob {a : Act} {d : Nat} : NoB (a.put (some d) undef) d := by
  intro b h
  simp only [Act.put] at h
  by_cases hd : d < a.tmps.size
  · rw [Array.getElem?_setIfInBounds_self_of_lt hd] at h
    cases h
  · rw [Array.getElem?_eq_none (by simp; omega)] at h; cases h

/-- what is guarded by what does not come is left out -/
theorem skip_run {P : Program} {all : Array Oper} {Q : Exit → Act → World → Prop} {fr : List (Nat × SV)} {t : Nat} {want : Bool} {b : Bool} (hb : b ≠ want) {rest : List Oper} {w : World} : ∀ {l : List Oper} {ds : List Nat} {a : Act},
    skB fr all.toList t want ds l = true → a.tmps[t]? = some (.bool b) → (∀ d ∈ ds, NoB a d ∧ d ≠ t) → (lk fr t ≠ none) →
    (∀ a', (∀ s, (∀ o ∈ l, o.dst ≠ some s) → a'.tmps[s]? = a.tmps[s]?) → a'.tmps.size = a.tmps.size → a'.defers = a.defers → wpList P all Q rest a' w) → wpList P all Q (l ++ rest) a w
  | [], ds, a, _, _, _, _, h => h a (fun _ _ => rfl) rfl rfl
  | o :: l, ds, a, hk, hv, hds, hft, h => by
    unfold skB at hk
    split at hk
    · cases hk
    · rename_i j w hg
      split at hk
      · cases hk
      · rename_i s hs
        split at hk
        · cases hk
        · rename_i hok
          have hs' : (all[j]?).bind (·.dst) = some s := by rw [← Array.getElem?_toList, ← nth_eq]; exact hs
          have hw : Region.wanted o (yielded all a.tmps) = false := by
            split at hok
            · rename_i e
              have e := Nat.eq_of_beq_eq_true e
              subst e
              have := (eqW_iff _ _).1 hok
              subst this
              simp [Region.wanted, hg, yielded_of hs' hv, hb]
            · have hn := (hds s (memN_mem hok)).1
              have : yielded all a.tmps j = none := by
                unfold yielded
                rw [hs']
                cases hx : a.tmps[s]? with
                | none => simp [hx]
                | some u => cases u <;> simp_all [NoB]
              simp [Region.wanted, hg, this]
          simp only [List.cons_append, wpList]
          rw [if_neg (by rw [hw]; simp)]
          split at hk
          · rename_i hd
            rw [hd]
            exact skip_run hb hk hv hds hft fun a' h1 h2 h3 => h a' (fun s hs => h1 s fun o' ho' => hs o' (by simp [ho'])) h2 h3
          · rename_i d hd
            rw [hd]
            split at hk
            · cases hk
            · rename_i hdt
              have hdt : d ≠ t := fun e => by subst e; simp at hdt
              split at hk
              · cases hk
              · rename_i hln
                have hln : lk fr d = none := by cases hl : lk fr d with | none => rfl | some _ => rw [hl] at hln; simp [isN] at hln
                refine skip_run hb hk ?_ ?_ hft ?_
                · rw [put_keep (fun e => hdt (by cases e; rfl))]; exact hv
                · intro c hc
                  rcases List.mem_cons.1 hc with rfl | hc
                  · exact ⟨put_nob, hdt⟩
                  · refine ⟨?_, (hds c hc).2⟩
                    by_cases e : c = d
                    · subst e; exact put_nob
                    · intro b' hb'
                      rw [put_keep (fun e' => e (by cases e'; rfl))] at hb'
                      exact (hds c hc).1 b' hb'
                · intro a' h1 h2 h3
                  refine h a' (fun s hs => ?_) (h2.trans put_size) (h3.trans put_defers)
                  rw [h1 s (fun o' ho' => hs o' (by simp [ho'])), put_keep (fun e => hs o (by simp) (by rw [hd]; exact e))]

theorem skB_dst {fr : List (Nat × SV)} {all : List Oper} {t : Nat} {want : Bool} : ∀ {l : List Oper} {ds : List Nat}, skB fr all t want ds l = true → ∀ o ∈ l, ∀ s, o.dst = some s → lk fr s = none
  | [], _, _, _, h, _, _ => by cases h
  | o :: l, ds, hk, o', ho, s, hs => by
    unfold skB at hk
    split at hk
    · cases hk
    · split at hk
      · cases hk
      · split at hk
        · cases hk
        · split at hk
          · rename_i hd
            rcases List.mem_cons.1 ho with rfl | ho
            · rw [hd] at hs; cases hs
            · exact skB_dst hk o' ho s hs
          · rename_i d hd
            split at hk
            · cases hk
            · split at hk
              · cases hk
              · rename_i hln
                rcases List.mem_cons.1 ho with rfl | ho
                · rw [hd] at hs; cases hs
                  cases hl : lk fr s with | none => rfl | some _ => rw [hl] at hln; simp [isN] at hln
                · exact skB_dst hk o' ho s hs

theorem segP_spec {fr : List (Nat × SV)} {all : List Oper} {t j : Nat} {w : Bool} {l l' : List Oper} {p : Oper} {x y : Operand} (h : segP fr all t j w l = some (p, x, y, l')) :
    l = segA j l ++ p :: l' ∧ p.op = .pick (.tmp t) x y ∧ skB fr all t w [] (segA j l) = true := by
  unfold segP at h
  split at h
  · rename_i p' l'' hB
    split at h
    · rename_i c x' y' hp
      split at h
      · rename_i hc
        split at h
        · split at h
          · rename_i hk
            split at h
            · cases h
            · cases h
              have := Nat.eq_of_beq_eq_true hc
              subst this
              exact ⟨by rw [← hB, seg_eq], hp, hk⟩
          · cases h
        · cases h
      · cases h
    · cases h
  · cases h

/-- the pick itself -/
theorem pick_wp {P : Program} {o : Oper} {x y : Operand} {t : Nat} (hp : o.op = .pick (.tmp t) x y) {a : Act} {b : Bool} (hv : a.tmps[t]? = some (.bool b)) {w : World} {K : Act → World → Prop} {Q : Exit → Act → World → Prop}
    (h : K (a.put o.dst (if b = true then a.eval x else a.eval y)) w) : o.wp P a w K Q := by
  unfold Oper.wp
  have he : a.eval (.tmp t) = .bool b := by simp [Act.eval, Array.getD_eq_getD_getElem?, hv]
  have hrun : (execOp a.eval o).run P w = .ok (.value (if b = true then a.eval x else a.eval y)) w := by
    cases o
    simp only at hp
    subst hp
    simp only [execOp, he]
    cases b <;> rfl
  rw [hrun, Oper.upon_value]
  exact h

section
variable {E : En} (hE : EnOk E) {nt : Nat} {all : Array Oper} {hp : List (Nat × Ob)} {nx : Nat}

theorem perfG_skip {C : Prop} (hC : ¬ C) {o : Oper} {fr : List (Nat × SV)} {K : List (Nat × SV) → Prop} (h : perfG E nt hp C o fr K) : ∃ fr', K fr' := by
  unfold perfG at h
  split at h
  · rw [hG_eq, pG_eq, fcS_eq, fcF_eq] at h
    exact ⟨_, (h fun c => (hC c).elim).2⟩
  · split at h
    · rw [fcA_eq, fcA_eq] at h
      obtain ⟨pf, ⟨s, hs⟩, h, _⟩ := h.out
      have h := h s hs
      rw [fcS_eq, fcF_eq] at h
      exact ⟨_, h⟩
    · exact h.elim

theorem sgo_skip : ∀ (n : Nat) {C : Prop} (hC : ¬ C) {l : List Oper} {fr : List (Nat × SV)} {K : List (Nat × SV) → Prop}, sgo E nt all.toList hp n C l fr K → ∃ fr', K fr'
  | 0, _, _, _, _, _, h => by unfold sgo at h; exact h.elim
  | n + 1, C, hC, [], fr, K, h => by unfold sgo at h; exact ⟨fr, h⟩
  | n + 1, C, hC, o :: l, fr, K, h => by
    have inner : ∀ {b w : Bool} {x y : Operand} {p : Oper} {l' sg : List Oper} {fr1 : List (Nat × SV)}, sgo E nt all.toList hp n (C ∧ b = w) sg fr1 (fun fr' => match mrgW w b fr fr' x y with
                      | some v => fcS (fun v => fcF (fun fr => sgo E nt all.toList hp n C l' fr K) (putF nt fr p.dst v)) v
                      | none => False) → ∃ fr', K fr' := by
      intro b w x y p l' sg fr1 h
      obtain ⟨fr', h⟩ := sgo_skip n (fun c => hC c.1) h
      split at h
      · rw [fcS_eq, fcF_eq] at h
        exact sgo_skip n hC h
      · exact h.elim
    unfold sgo at h
    split at h
    · exact h.elim
    · split at h
      · exact h.elim
      · split at h
        · split at h
          · obtain ⟨fr', h⟩ := perfG_skip hC h
            exact sgo_skip n hC h
          · exact h.elim
        · split at h
          · obtain ⟨fr', h⟩ := perfG_skip hC h
            exact sgo_skip n hC h
          · exact h.elim
        · split at h
          · split at h
            · exact h.elim
            · split at h
              · exact h.elim
              · split at h
                · split at h
                  · exact h.elim
                  · split at h
                    · exact inner h
                    · exact h.elim
                  · split at h
                    · exact inner h
                    · exact h.elim
                · exact h.elim
          · exact h.elim
        · exact h.elim

include hE

theorem perfG_run {cur : FI} (hnt : nt = cur.nt) {C : Prop} (hC : C) {o : Oper} {fr : List (Nat × SV)} {K : List (Nat × SV) → Prop} (h : perfG E nt hp C o fr K) {w0 : W0} {η : Nat → Option Nat × Value} {S : List (Fm × Act)} {a : Act} {w : World}
    (hR : RepA w0 cur ⟨fr, hp, nx⟩ S η a w) {X : Act → World → Prop} {Q : Exit → Act → World → Prop}
    (hX : ∀ fr' v w', K fr' → RepA w0 cur ⟨fr', hp, nx⟩ S η (a.put o.dst v) w' → Below w.heap.size w w' → X (a.put o.dst v) w') : o.wp E.P a w X Q := by
  subst hnt
  unfold perfG at h
  split at h
  · rename_i qh qp qv' hq
    obtain ⟨h1, h2⟩ := qm_sound (P := E.P) hE.tab hR.1.1 (fun _ _ h => h) (ev_sound hR.2.1) hq
    rw [hG_eq, pG_eq, fcS_eq, fcF_eq] at h
    obtain ⟨hpp, hgo⟩ := h fun _ => h1
    obtain ⟨v, hv, hy⟩ := h2 (hpp hC)
    have hrun := hy w (Below.refl _ _)
    unfold Oper.wp
    rw [hrun, Oper.upon_value]
    exact hX _ _ _ hgo (hR.fr (putF_sound hR.2.1 hv)) (Below.refl _ _)
  · split at h
    · rename_i f args hcl
      rw [fcA_eq, fcA_eq] at h
      obtain ⟨pf, _, hK, hcg⟩ := h.out
      obtain ⟨⟨fn, hf1, hf2, hf3⟩, hrest⟩ := hcg hC
      obtain ⟨vs, hvs, hrun⟩ := run_call (E := E) (ev_sound hR.2.1) hcl hf1 hf2 hf3
      unfold Oper.wp
      rw [hrun, Oper.upon_enter]
      refine (hrest w0 hp nx η w vs hR.1.1 (nzs_sound hvs)).mono ?_
      rintro e w' ⟨s, v, rfl, hs, hv, hb⟩
      have hle := cx_below (w0 := w0) (hp := hp) (nx := lt nx) (η := η) hb
      have hR' := hR.heap (hR.1.1.below hb) hle
      have hK := hK s hs
      rw [fcS_eq, fcF_eq] at hK
      exact hX _ _ _ hK (hR'.fr (putF_sound hR'.2.1 hv)) hb
    · exact h.elim

theorem sgo_run {cur : FI} (hnt : nt = cur.nt) : ∀ (n : Nat) {C : Prop} (hC : C) {l : List Oper} {fr : List (Nat × SV)} {K : List (Nat × SV) → Prop} (h : sgo E nt all.toList hp n C l fr K) {w0 : W0} {η : Nat → Option Nat × Value} {S : List (Fm × Act)} {a : Act} {w : World}
    (hR : RepA w0 cur ⟨fr, hp, nx⟩ S η a w) {rest : List Oper} {Q : Exit → Act → World → Prop}
    (hX : ∀ fr' a' w', K fr' → RepA w0 cur ⟨fr', hp, nx⟩ S η a' w' → Below w.heap.size w w' → (∀ s, (∀ o ∈ l, o.dst ≠ some s) → a'.tmps[s]? = a.tmps[s]?) → a'.tmps.size = a.tmps.size → a'.defers = a.defers → wpList E.P all Q rest a' w'),
    wpList E.P all Q (l ++ rest) a w
  | 0, _, _, _, _, _, h, _, _, _, _, _, _, _, _, _ => by unfold sgo at h; exact h.elim
  | n + 1, C, hC, [], fr, K, h, w0, η, S, a, w, hR, rest, Q, hX => by
    unfold sgo at h
    exact hX fr a w h hR (Below.refl _ _) (fun _ _ => rfl) rfl rfl
  | n + 1, C, hC, o :: l, fr, K, h, w0, η, S, a, w, hR, rest, Q, hX => by
    have one : ∀ {j t : Nat} {v : Bool}, o.guard = some (j, v) → nth all.toList j = some t → a.tmps[t]? = some (.bool v) → perfG E nt hp C o fr (fun fr' => sgo E nt all.toList hp n C l fr' K) → wpList E.P all Q (o :: l ++ rest) a w := by
      intro j t v hg ht hav h
      have ht : (all[j]?).bind (·.dst) = some t := by rw [← Array.getElem?_toList, ← nth_eq]; exact ht
      simp only [List.cons_append, wpList]
      rw [if_pos (by simp [Region.wanted, hg, yielded_of ht hav])]
      refine .inl (perfG_run hE hnt hC h hR fun fr' v w' hK hR' hb => ?_)
      refine sgo_run hnt n hC hK hR' fun fr2 a2 w2 hK2 hR2 hb2 hs2 hz2 hd2 => ?_
      refine hX fr2 a2 w2 hK2 hR2 (hb.trans (hb2.mono hb.size)) (fun s hs => ?_) (hz2.trans put_size) (hd2.trans put_defers)
      rw [hs2 s (fun o' ho' => hs o' (by simp [ho'])), put_keep (hs o (by simp))]
    have inner : ∀ {j t : Nat} {b v : Bool} {x y : Operand} {p : Oper} {l' : List Oper}, lk fr t = some (.c (.bool (.sym b))) → (∃ v0, o.guard = some (j, v0)) → nth all.toList j = some t → segP fr all.toList t j v (o :: l) = some (p, x, y, l') →
        (∃ j2 t2 w2, p.guard = some (j2, w2) ∧ nth all.toList j2 = some t2 ∧ ∃ c : BE, c.v = w2 ∧ lk fr t2 = some (.c (.bool c))) →
        sgo E nt all.toList hp n (C ∧ b = v) (segA j (o :: l)) ((t, .c (.bool (ofW v))) :: fr) (fun fr' => match mrgW v b fr fr' x y with
                      | some v => fcS (fun v => fcF (fun fr => sgo E nt all.toList hp n C l' fr K) (putF nt fr p.dst v)) v
                      | none => False) → wpList E.P all Q (o :: l ++ rest) a w := by
      rintro j t b v x y p l' hlk _ ht hseg ⟨j2, t2, w2, hg2, ht2, c, hc, hlk2⟩ h
      obtain ⟨hl, hpop, hsk⟩ := segP_spec hseg
      obtain ⟨u, hu1, hu2⟩ := hR.2.1.sl _ _ hlk
      have hu2 : u = .bool b := hu2
      subst hu2
      have ht2' : (all[j2]?).bind (·.dst) = some t2 := by rw [← Array.getElem?_toList, ← nth_eq]; exact ht2
      have hin : ∀ s, (∀ o' ∈ o :: l, o'.dst ≠ some s) → (∀ o' ∈ segA j (o :: l), o'.dst ≠ some s) ∧ p.dst ≠ some s ∧ ∀ o' ∈ l', o'.dst ≠ some s := fun s hs => by
        rw [hl] at hs
        exact ⟨fun o' ho' => hs o' (by simp [ho']), hs p (by simp), fun o' ho' => hs o' (by simp [ho'])⟩
      have behind : ∀ (fr' : List (Nat × SV)) (a' : Act) (w' : World), (match mrgW v b fr fr' x y with
                      | some v => fcS (fun v => fcF (fun fr => sgo E nt all.toList hp n C l' fr K) (putF nt fr p.dst v)) v
                      | none => False) → RepA w0 cur ⟨fr, hp, nx⟩ S η a' w' → (b = v → RepF (cxS w0 hp (lt nx) η w') cur.nt fr' a') → Below w.heap.size w w' → (∀ s, (∀ o' ∈ segA j (o :: l), o'.dst ≠ some s) → a'.tmps[s]? = a.tmps[s]?) → a'.tmps.size = a.tmps.size → a'.defers = a.defers →
          wpList E.P all Q ((p :: l') ++ rest) a' w' := by
        intro fr' a' w' hK hR' hF' hb' hs' hz' hd'
        split at hK
        · rename_i z hz
          rw [fcS_eq, fcF_eq] at hK
          simp only [List.cons_append, wpList]
          have hc2 : a'.tmps[t2]? = some (.bool w2) := by
            obtain ⟨u, g1, g2⟩ := hR'.2.1.sl _ _ hlk2
            have g2 : u = .bool c.v := g2
            rw [g2, hc] at g1; exact g1
          have hcb : a'.tmps[t]? = some (.bool b) := by
            obtain ⟨u, g1, g2⟩ := hR'.2.1.sl _ _ hlk
            have g2 : u = .bool b := g2
            rw [g2] at g1; exact g1
          rw [if_pos (by simp [Region.wanted, hg2, yielded_of ht2' hc2])]
          refine .inl (pick_wp hpop hcb ?_)
          have hv : RS (cxS w0 hp (lt nx) η w') z (if b = true then a'.eval x else a'.eval y) := by
            unfold mrgW at hz
            cases v with
            | true =>
              refine mrg_sound hz (fun hb => ?_) (fun hb => ?_)
              · rw [if_pos hb]; exact ev_sound (hF' hb) x
              · rw [if_neg (by rw [hb]; simp)]; exact ev_sound hR'.2.1 y
            | false =>
              refine mrg_sound hz (fun hb => ?_) (fun hb => ?_)
              · rw [if_pos hb]; exact ev_sound hR'.2.1 x
              · rw [if_neg (by rw [hb]; simp)]; exact ev_sound (hF' hb) y
          have hR2 : RepA w0 cur ⟨putF nt fr p.dst z, hp, nx⟩ S η (a'.put p.dst (if b = true then a'.eval x else a'.eval y)) w' := by
            rw [hnt]; exact hR'.fr (putF_sound hR'.2.1 hv)
          refine sgo_run hnt n hC hK hR2 fun fr2 a2 w2 hK2 hR2 hb2 hs2 hz2 hd2 => ?_
          refine hX fr2 a2 w2 hK2 hR2 (hb'.trans (hb2.mono hb'.size)) (fun s hs => ?_) ((hz2.trans put_size).trans hz') ((hd2.trans put_defers).trans hd')
          obtain ⟨i1, i2, i3⟩ := hin s hs
          rw [hs2 s i3, put_keep i2, hs' s i1]
        · exact hK.elim
      have hfr : ∀ (a' : Act), (∀ s, (∀ o' ∈ segA j (o :: l), o'.dst ≠ some s) → a'.tmps[s]? = a.tmps[s]?) → ∀ s, lk fr s ≠ none → a'.tmps[s]? = a.tmps[s]? := fun a' h s hs =>
        h s fun o2 ho2 e => hs (skB_dst hsk o2 ho2 s e)
      have hsplit : o :: l ++ rest = segA j (o :: l) ++ ((p :: l') ++ rest) := by conv => lhs; rw [hl]
                                                                                  simp
      rw [hsplit]
      by_cases hbv : b = v
      · have hR1 : RepA w0 cur ⟨(t, .c (.bool (ofW v))) :: fr, hp, nx⟩ S η a w := hR.fr (cons_sound hR.2.1 hu1 (by subst hbv; cases b <;> exact rfl))
        refine sgo_run hnt n ⟨hC, hbv⟩ h hR1 fun fr' a' w' hK hR' hb' hs' hz' hd' => ?_
        refine behind fr' a' w' hK ⟨hR'.1, ?_, hR'.2.2⟩ (fun _ => hR'.2.1) hb' hs' hz' hd'
        exact RepF.keep (RepF.mono (cx_below hb') hR.2.1) (hfr a' hs') hz' hd'
      · obtain ⟨fr', hK⟩ := sgo_skip n (fun c => hbv c.2) h
        refine skip_run hbv hsk hu1 (fun _ h => by cases h) (by rw [hlk]; simp) fun a' hs' hz' hd' => ?_
        exact behind fr' a' w hK (hR.fr (RepF.keep hR.2.1 (hfr a' hs') hz' hd')) (fun h => (hbv h).elim) (Below.refl _ _) hs' hz' hd'
    unfold sgo at h
    split at h
    · exact h.elim
    · rename_i j v hg
      split at h
      · exact h.elim
      · rename_i t ht
        have at_ : ∀ c : BE, lk fr t = some (.c (.bool c)) → a.tmps[t]? = some (.bool c.v) := fun c hc => by
          obtain ⟨u, g1, g2⟩ := hR.2.1.sl _ _ hc
          have g2 : u = .bool c.v := g2
          rw [g2] at g1; exact g1
        split at h
        · rename_i hlk
          split at h
          · exact one hg ht (at_ _ hlk) h
          · exact h.elim
        · rename_i hlk
          split at h
          · exact one hg ht (at_ _ hlk) h
          · exact h.elim
        · rename_i b hlk
          split at h
          · rename_i p x y l' hseg
            split at h
            · exact h.elim
            · rename_i j2 w2 hg2
              split at h
              · exact h.elim
              · rename_i t2 ht2
                split at h
                · rename_i c2 hlk2
                  split at h
                  · exact h.elim
                  · split at h
                    · exact inner hlk ⟨_, hg⟩ ht hseg ⟨j2, t2, _, hg2, ht2, .tt, rfl, hlk2⟩ h
                    · exact h.elim
                  · split at h
                    · exact inner hlk ⟨_, hg⟩ ht hseg ⟨j2, t2, _, hg2, ht2, .ff, rfl, hlk2⟩ h
                    · exact h.elim
                · exact h.elim
          · exact h.elim
        · exact h.elim
end

section
variable {E : En} (hE : EnOk E) {k : FI → List It → St → List Fm → Prop} (hk : ∀ cur t st stk, k cur t st stk → Mean E cur t st stk)
include hE hk

theorem ret_sound {cur : FI} {fr : List (Nat × SV)} {hp : List (Nat × Ob)} {nx : Nat} {stk : List Fm} (h : retG E k cur fr hp nx stk) {w0 : W0} {η : Nat → Option Nat × Value} {S : List (Fm × Act)} {a : Act} {w : World} (hS : S.map (·.1) = stk)
    (hR : RepA w0 cur ⟨fr, hp, nx⟩ S η a w) : RR E.P w0 (Fin w0 E.post) cur S a w := by
  unfold retG at h
  split at h
  · rename_i l hl
    rw [fcS_eq] at h
    obtain ⟨v, h1, h2⟩ := resS_sound (P := E.P) hE.tab hR.1.1 hR.2.1 hR.1.2 hl
    split at h
    · cases S with
      | cons _ _ => simp at hS
      | nil => exact ⟨hR.2.1.dfr, v, h1, η, _, ⟨fr, hp, nx⟩, hR.1.1, h2, h⟩
    · rename_i f s
      rw [fcF_eq] at h
      cases S with
      | nil => simp at hS
      | cons p S =>
        obtain ⟨f', a0⟩ := p
        simp only [List.map_cons, List.cons.injEq] at hS
        obtain ⟨rfl, hS⟩ := hS
        refine ⟨hR.2.1.dfr, v, h1, ?_⟩
        have hp := hR.2.2 (f', a0) (by simp)
        exact hk _ _ _ _ h w0 η S _ w hS ⟨⟨hR.1.1, hp.2⟩, putF_sound hp.1 h2, fun q hq => hR.2.2 q (by simp [hq])⟩
  · exact h.elim

theorem perf_sound {cur : FI} {all : Array Oper} {o o' : Oper} (hoo : o'.op = o.op ∧ o'.dst = o.dst ∧ o'.type = o.type) {l : List Oper} {r : List It} {fr : List (Nat × SV)} {hp : List (Nat × Ob)} {nx : Nat} {stk : List Fm} (h : perf E k cur all o l r fr hp nx stk) {w0 : W0}
    {η : Nat → Option Nat × Value} {S : List (Fm × Act)} {a : Act} {w : World} (hS : S.map (·.1) = stk) (hR : RepA w0 cur ⟨fr, hp, nx⟩ S η a w) :
    o'.wp E.P a w (wpList E.P all (TW E.P w0 cur S (RR E.P w0 (Fin w0 E.post) cur S) r) l) (TW E.P w0 cur S (RR E.P w0 (Fin w0 E.post) cur S) r) := by
  obtain ⟨e1, e2, e3⟩ := hoo
  have hexec : execOp a.eval o' = execOp a.eval o := by
    cases o; cases o'
    simp only at e1 e2 e3
    subst e1 e2 e3
    rfl
  unfold perf at h
  split at h
  · rename_i qh qp qv' hq
    obtain ⟨h1, h2⟩ := qm_sound (P := E.P) hE.tab hR.1.1 (fun _ _ h => h) (ev_sound hR.2.1) hq
    rw [hq_eq, pq_eq, fcS_eq, fcF_eq] at h
    obtain ⟨hpp, hgo⟩ := h h1
    obtain ⟨v, hv, hy⟩ := h2 hpp
    have hrun := hy w (Below.refl _ _)
    unfold Oper.wp
    rw [hexec, hrun, Oper.upon_value, e2]
    exact hk _ _ _ _ hgo w0 η S _ w hS (hR.fr (putF_sound hR.2.1 hv))
  · split at h
    · rename_i eh ep ev' ch nx' he
      obtain ⟨h1, h2⟩ := em_sound (P := E.P) hE.tab (show ¬ lt nx nx from Nat.lt_irrefl _) hR.1.1 (fun _ _ h => h) (ev_sound hR.2.1) he
      rw [hq_eq, pq_eq, fcS_eq, fcH_eq, fcF_eq] at h
      obtain ⟨hpp, hgo⟩ := h h1
      obtain ⟨n, v, w', η', hrun, hn, hH, hle, hv⟩ := h2 hpp
      rw [nmE_lt (em_nx he).1] at hH hle hv
      have hR' := hR.heap hH hle
      have hfin := hk _ _ _ _ hgo w0 η' S (a.put o.dst v) w' hS (hR'.fr (putF_sound hR'.2.1 hv))
      unfold Oper.wp
      rw [hexec, hrun]
      rcases hn with rfl | ⟨rfl, rfl⟩
      · rw [Oper.upon_value, e2]; exact hfin
      · rw [Oper.upon_skip, e2]; exact hfin
    · split at h
      · rename_i kk es n z ok hlm
        obtain ⟨hwf, h⟩ := h
        obtain ⟨f, sv, v, hK, hv, hrun⟩ := lmL_sound (P := E.P) hE.tab hR.1.1 (ev_sound hR.2.1) hlm hwf h
        rw [fcS_eq, fcF_eq] at hK
        unfold Oper.wp
        rw [hexec, hrun, Oper.upon_value, e2]
        exact hk _ _ _ _ hK w0 η S _ w hS (hR.fr (putF_sound hR.2.1 hv))
      · split at h
        · rename_i f args hcl
          rw [fcA_eq] at h
          split at h
          · rename_i fi c hin
            obtain ⟨g1, g2, g3, g4, g5⟩ := hE.inl _ _ _ hin
            obtain ⟨vs, hvs, hrun⟩ := run_call (E := E) (ev_sound hR.2.1) hcl g1 (by rw [g2]; rfl) g3
            unfold Oper.wp
            rw [hexec, hrun, Oper.upon_enter]
            obtain ⟨hlen, hgo⟩ := btr_out h
            have hlen := Nat.le_of_ble_eq_true hlen
            rw [fcN_eq] at hgo
            refine calls_of_wp g1 g2 ?_
            have hF := enter_rep (x := cxS w0 hp (lt nx) η w) hvs hlen
            rw [← g4] at hF
            have hm := hk _ _ _ _ hgo w0 η ((⟨cur, fr, .ops all l :: r, o.dst⟩, a) :: S) _ w (by simp [hS])
              ⟨⟨hR.1.1, g5⟩, by rw [← g4]; exact hF, fun p hp => by
                rcases List.mem_cons.1 hp with rfl | hp
                · exact ⟨hR.2.1, hR.1.2⟩
                · exact hR.2.2 p hp⟩
            refine wp_mono hm ?_
            intro ex a'' w'' hq
            have hret : RR E.P w0 (Fin w0 E.post) fi ((⟨cur, fr, .ops all l :: r, o.dst⟩, a) :: S) a'' w'' →
                a''.defers = [] ∧ ∃ v, (results fi.fn a''.tmps).run E.P w'' = .ok v w'' ∧ wpList E.P all (TW E.P w0 cur S (RR E.P w0 (Fin w0 E.post) cur S) r) l (a.put o'.dst v) w'' := fun hq => by
              obtain ⟨q1, v, q2, q3⟩ := hq
              exact ⟨q1, v, q2, by rw [e2]; exact q3⟩
            cases ex with
            | normal => exact hret hq
            | ret => exact hret hq
            | exit id => exact hq.elim
            | goto l => exact hq.elim
            | panic ch => exact hq.elim
            | outgrown => exact hq.elim
          · rw [fcA_eq] at h
            have hm := h.out ⟨_, hcl, rfl⟩ w0 η S a w hS hR
            simp only [TW, wpList, Region.wanted, if_true] at hm
            rcases hm with hm | ⟨_, a', w', hq⟩
            · unfold Oper.wp at hm ⊢
              rw [hexec, upon_dst e2]
              exact hm
            · exact (tw_outgrown hq).elim
        · have hm := h.out w0 η S a w hS hR
          simp only [TW, wpList, Region.wanted, if_true] at hm
          rcases hm with hm | ⟨_, a', w', hq⟩
          · unfold Oper.wp at hm ⊢
            rw [hexec, upon_dst e2]
            exact hm
          · exact (tw_outgrown hq).elim

theorem stp_sound {cur : FI} {t : List It} {st : St} {stk : List Fm} (h : stp E k cur t st stk) : Mean E cur t st stk := by
  intro w0 η S a w hS hR
  unfold stp at h
  split at h
  · exact ret_sound hE hk h hS hR
  · exact wp_skip (hk _ _ _ _ h w0 η S a w hS hR)
  · split at h
    · exact h.out w0 η S a w hS hR
    · exact wp_region_list (hk _ _ _ _ h w0 η S a w hS hR)
  · exact h.out w0 η S a w hS hR
  · rename_i x y r
    refine wp_seq (wp_mono (hk _ _ _ _ h w0 η S a w hS hR) ?_)
    intro e a w hq
    cases e <;> exact hq
  · rename_i c x y r fr hp nx
    split at h
    · rename_i hc
      have hx := ev_sound hR.2.1 c
      rw [hc] at hx
      exact wp_cond_true (rs_bool hx) (hk _ _ _ _ h w0 η S a w hS hR)
    · rename_i hc
      have hx := ev_sound hR.2.1 c
      rw [hc] at hx
      exact wp_cond_false (rs_bool hx) (hk _ _ _ _ h w0 η S a w hS hR)
    · rename_i b hc
      have hx := ev_sound hR.2.1 c
      rw [hc] at hx
      have hx := rs_bool hx
      unfold spl at h
      rw [fcF_eq, fcF_eq] at h
      have hF : ∀ e : BE, b = e.v → RepF (cxS w0 hp (lt nx) η w) cur.nt (cnd c e fr) a := by
        intro e he
        cases c with
        | tmp t =>
          show RepF _ _ ((t, .c (.bool e)) :: fr) a
          simp only [ev] at hc
          cases hl : lk fr t with
          | none => rw [hl] at hc; cases hc
          | some u =>
            rw [hl] at hc
            simp only [Option.getD_some] at hc
            subst hc
            obtain ⟨v, g1, g2⟩ := hR.2.1.sl _ _ hl
            exact cons_sound hR.2.1 g1 (by subst he; exact g2)
        | const _ => exact hR.2.1
        | func _ => exact hR.2.1
        | global _ => exact hR.2.1
      exact wp_cond_split hx (fun hb => hk _ _ _ _ (h.1 hb) w0 η S a w hS (hR.fr (hF .tt hb))) (fun hb => hk _ _ _ _ (h.2 hb) w0 η S a w hS (hR.fr (hF .ff hb)))
    · exact h.elim
  · rename_i id c r
    refine wp_block (wp_mono (hk _ _ _ _ h w0 η S a w hS hR) ?_)
    intro e a w hq
    cases e <;> exact hq
  · exact h.out w0 η S a w hS hR
  · rename_i id r
    split at h
    · rename_i r' hr
      exact wp_exit (tw_exit hr a w (hk _ _ _ _ h w0 η S a w hS hR))
    · exact h.elim
  · rename_i c r
    refine wp_scope_straight (wp_mono (hk _ _ _ _ h w0 η S a w hS hR) ?_)
    intro e a w hq
    cases e <;> exact hq
  · exact wp_label (hk _ _ _ _ h w0 η S a w hS hR)
  · exact wp_ret (tw_ret (ret_sound hE hk h hS hR))
  · exact h.elim
  · exact hk _ _ _ _ h w0 η S a w hS hR
  · rename_i all o l r fr hp nx
    simp only [TW, wpList]
    split at h
    · rename_i hg
      have hw : Region.wanted o (yielded all a.tmps) = true := by simp [Region.wanted, hg]
      rw [if_pos hw]
      exact .inl (perf_sound hE hk ⟨rfl, rfl, rfl⟩ h hS hR)
    · rename_i j want hg
      split at h
      · rename_i t ht
        have ht : (all[j]?).bind (·.dst) = some t := by rw [← Array.getElem?_toList, ← nth_eq]; exact ht
        have fact : ∀ b, lk fr t = some (.c (.bool b)) → a.tmps[t]? = some (.bool b.v) ∧ Region.wanted o (yielded all a.tmps) = (some b.v == some want) := by
          intro b hlk
          obtain ⟨v, hv1, hv2⟩ := hR.2.1.sl _ _ hlk
          have hv2 := rs_bool hv2
          subst hv2
          exact ⟨hv1, by simp [Region.wanted, hg, yielded_of ht hv1]⟩
        have skip : ∀ fr', RepF (cxS w0 hp (lt nx) η w) cur.nt fr' a → (Region.wanted o (yielded all a.tmps) = false) → fcF (fun fr' => k cur (.ops all l :: r) ⟨fr', hp, nx⟩ stk) (putF cur.nt fr' o.dst (.tup [])) →
            (if Region.wanted o (yielded all a.tmps) = true then o.wp E.P a w (wpList E.P all (TW E.P w0 cur S (RR E.P w0 (Fin w0 E.post) cur S) r) l) (TW E.P w0 cur S (RR E.P w0 (Fin w0 E.post) cur S) r) ∨
              (o.asks E.P a w ∧ LetsOut (TW E.P w0 cur S (RR E.P w0 (Fin w0 E.post) cur S) r)) else wpList E.P all (TW E.P w0 cur S (RR E.P w0 (Fin w0 E.post) cur S) r) l (a.put o.dst undef) w) := by
          intro fr' hF hne hgo
          rw [fcF_eq] at hgo
          rw [if_neg (by rw [hne]; simp)]
          exact hk _ _ _ _ hgo w0 η S _ w hS (RepA.fr hR (putF_sound hF rs_undef))
        have perform : ∀ fr', RepF (cxS w0 hp (lt nx) η w) cur.nt fr' a → (Region.wanted o (yielded all a.tmps) = true) → perf E k cur all o l r fr' hp nx stk →
            (if Region.wanted o (yielded all a.tmps) = true then o.wp E.P a w (wpList E.P all (TW E.P w0 cur S (RR E.P w0 (Fin w0 E.post) cur S) r) l) (TW E.P w0 cur S (RR E.P w0 (Fin w0 E.post) cur S) r) ∨
              (o.asks E.P a w ∧ LetsOut (TW E.P w0 cur S (RR E.P w0 (Fin w0 E.post) cur S) r)) else wpList E.P all (TW E.P w0 cur S (RR E.P w0 (Fin w0 E.post) cur S) r) l (a.put o.dst undef) w) := by
          intro fr' hF he hgo
          rw [if_pos he]
          exact .inl (perf_sound hE hk ⟨rfl, rfl, rfl⟩ hgo hS (RepA.fr hR hF))
        split at h
        · rename_i hlk
          obtain ⟨f1, f2⟩ := fact _ hlk
          split at h
          · exact perform fr hR.2.1 (by rw [f2]; rfl) h
          · exact skip fr hR.2.1 (by rw [f2]; rfl) h
        · rename_i hlk
          obtain ⟨f1, f2⟩ := fact _ hlk
          split at h
          · exact perform fr hR.2.1 (by rw [f2]; rfl) h
          · exact skip fr hR.2.1 (by rw [f2]; rfl) h
        · rename_i b hlk
          obtain ⟨f1, f2⟩ := fact _ hlk
          have hF : ∀ c : BE, b = c.v → RepF (cxS w0 hp (lt nx) η w) cur.nt ((t, .c (.bool c)) :: fr) a := fun c hc => cons_sound hR.2.1 f1 (by subst hc; exact rfl)
          split at h
          · rename_i p x y l' hseg
            split at h
            · rename_i hpg
              obtain ⟨hl, hpop, hsk⟩ := segP_spec hseg
              have ht' : lk fr t ≠ none := by rw [hlk]; simp
              have behind : ∀ (fr' : List (Nat × SV)) (a' : Act) (w' : World), (match mrgW want b fr fr' x y with
                      | some v => fcS (fun v => fcF (fun fr => k cur (.ops all l' :: r) ⟨fr, hp, nx⟩ stk) (putF cur.nt fr p.dst v)) v
                      | none => False) → RepA w0 cur ⟨fr, hp, nx⟩ S η a' w' → (b = want → RepF (cxS w0 hp (lt nx) η w') cur.nt fr' a') →
                  wpList E.P all (TW E.P w0 cur S (RR E.P w0 (Fin w0 E.post) cur S) r) (p :: l') a' w' := by
                intro fr' a' w' hK hR' hF'
                split at hK
                · rename_i z hz
                  rw [fcS_eq, fcF_eq] at hK
                  simp only [wpList]
                  have hcb : a'.tmps[t]? = some (.bool b) := by
                    obtain ⟨u, g1, g2⟩ := hR'.2.1.sl _ _ hlk
                    have g2 : u = .bool b := g2
                    rw [g2] at g1; exact g1
                  rw [if_pos (by simp [Region.wanted, hpg])]
                  refine .inl (pick_wp hpop hcb ?_)
                  have hv : RS (cxS w0 hp (lt nx) η w') z (if b = true then a'.eval x else a'.eval y) := by
                    unfold mrgW at hz
                    cases want with
                    | true =>
                      refine mrg_sound hz (fun hb => ?_) (fun hb => ?_)
                      · rw [if_pos hb]; exact ev_sound (hF' hb) x
                      · rw [if_neg (by rw [hb]; simp)]; exact ev_sound hR'.2.1 y
                    | false =>
                      refine mrg_sound hz (fun hb => ?_) (fun hb => ?_)
                      · rw [if_pos hb]; exact ev_sound hR'.2.1 x
                      · rw [if_neg (by rw [hb]; simp)]; exact ev_sound (hF' hb) y
                  exact hk _ _ _ _ hK w0 η S _ w' hS (hR'.fr (putF_sound hR'.2.1 hv))
                · exact hK.elim
              have hfr : ∀ (a' : Act), (∀ s, (∀ o' ∈ segA j (o :: l), o'.dst ≠ some s) → a'.tmps[s]? = a.tmps[s]?) → ∀ s, lk fr s ≠ none → a'.tmps[s]? = a.tmps[s]? := fun a' h s hs =>
                h s fun o2 ho2 e => hs (skB_dst hsk o2 ho2 s e)
              have hwl : wpList E.P all (TW E.P w0 cur S (RR E.P w0 (Fin w0 E.post) cur S) r) (o :: l) a w := by
                rw [hl]
                by_cases hbv : b = want
                · refine sgo_run hE rfl 1000 hbv h (hR.fr (hF (ofW want) (by rw [hbv]; cases want <;> rfl))) fun fr' a' w' hK hR' hb' hs' hz' hd' => ?_
                  refine behind fr' a' w' hK ⟨hR'.1, ?_, hR'.2.2⟩ (fun _ => hR'.2.1)
                  exact RepF.keep (RepF.mono (cx_below hb') hR.2.1) (hfr a' hs') hz' hd'
                · obtain ⟨fr', hK⟩ := sgo_skip 1000 hbv h
                  refine skip_run hbv hsk f1 (fun _ h => by cases h) ht' fun a' hs' hz' hd' => ?_
                  exact behind fr' a' w hK (hR.fr (RepF.keep hR.2.1 (hfr a' hs') hz' hd')) (fun h => (hbv h).elim)
              simpa only [wpList] using hwl
            · exact h.elim
          split at h
          · cases b with
            | true => exact perform _ (hF .tt rfl) (by rw [f2]; rfl) (h.1 rfl)
            | false => exact skip _ (hF .ff rfl) (by rw [f2]; rfl) (h.2 rfl)
          · cases b with
            | true => exact skip _ (hF .tt rfl) (by rw [f2]; rfl) (h.1 rfl)
            | false => exact perform _ (hF .ff rfl) (by rw [f2]; rfl) (h.2 rfl)
        · rename_i l' hlk
          have hne : Region.wanted o (yielded all a.tmps) = false := by
            obtain ⟨v, hv1, vs, rfl, _⟩ := hR.2.1.sl _ _ hlk
            simp [Region.wanted, hg, yielded_tup ht hv1]
          exact skip fr hR.2.1 hne h
        · exact h.elim
      · exact h.elim
  · exact hk _ _ _ _ h w0 η S a w hS hR
  · exact hk _ _ _ _ h w0 η S a w hS hR
  · exact ⟨η, st, hR, h⟩
end

theorem go_sound {E : En} (hE : EnOk E) : ∀ n cur t st stk, go E n cur t st stk → Mean E cur t st stk
  | 0, _, _, _, _, h => h.elim
  | n + 1, _, _, _, _, h => stp_sound hE (go_sound hE n) h

end OE

/- OE, part 7: the prover's rules: a function's contract, a call, a loop, a state made weaker. Own work; generic over the program. -/
namespace OE
open Go Go.RowKit

/-- data alone: nothing that names a block of the call's own -/
def isDC : C → Bool
  | .ptr _ _ | .prw _ _ _ _ | .row _ | .mp _ | .chn _ | .csl _ _ | .sub _ _ _ _ _ | .bm _ _ _ => false
  | .fn _ l => l.isEmpty
  | _ => true
def isDs : SV → Bool
  | .c x => isDC x
  | .agg l => l.all isDC
  | .tup l => l.all fun p => p.2.all isDC
  | .un => true
  | .arr _ _ => true

def DX (w : World) (ok : Nat → Prop) : Cx := ⟨w, fun _ => (none, undef), ok, fun _ => False⟩

theorem rc_data {x y : Cx} (ho : ∀ k, x.ok k → y.ok k) (hh : ∀ k, x.ok k → y.w.heap[k]? = x.w.heap[k]?) : ∀ {c : C} {v : Value}, isDC c = true → RC x c v → RC y c v
  | .int _ _, _, _, h => h
  | .bool _, _, _, h => h
  | .str _, _, _, h => h
  | .pel _ _ _, _, _, ⟨k, o, cells, T, fz, cs, h1, h2, h3, h4, h5⟩ => ⟨k, o, cells, T, fz, cs, h1, ho k h2, (hh k h2).trans h3, Rd.mono ho hh h4, h5⟩
  | .dat _ _, _, _, h => by
    have h : Rd x.w x.ok (.list _) _ _ := h
    exact (Rd.mono ho hh h : Rd y.w y.ok (.list _) _ _)
  | .val _, _, _, h => h
  | .glb _, _, _, h => h
  | .fn f l, _, hd, ⟨vs, e, h⟩ => by
    cases l with
    | nil => exact ⟨vs, e, by cases hv : vs.toList with | nil => trivial | cons _ _ => rw [hv] at h; exact h.elim⟩
    | cons _ _ => simp [isDC] at hd
  | .ptr _ _, _, hd, _ => by simp [isDC] at hd
  | .prw _ _ _ _, _, hd, _ => by simp [isDC] at hd
  | .row _, _, hd, _ => by simp [isDC] at hd
  | .mp _, _, hd, _ => by simp [isDC] at hd
  | .chn _, _, hd, _ => by simp [isDC] at hd
  | .bm _ _ _, _, hd, _ => by simp [isDC] at hd
  | .csl _ _, _, hd, _ => by simp [isDC] at hd
  | .sub _ _ _ _ _, _, hd, _ => by simp [isDC] at hd

theorem rl_data {x y : Cx} (ho : ∀ k, x.ok k → y.ok k) (hh : ∀ k, x.ok k → y.w.heap[k]? = x.w.heap[k]?) : ∀ {l : List C} {m : List Value}, l.all isDC = true → RL (RC x) l m → RL (RC y) l m
  | [], [], _, _ => trivial
  | c :: l, v :: m, hd, ⟨h1, h2⟩ => by
    simp only [List.all_cons, Bool.and_eq_true] at hd
    exact ⟨rc_data ho hh hd.1 h1, rl_data ho hh hd.2 h2⟩
  | [], _ :: _, _, h => h.elim
  | _ :: _, [], _, h => h.elim

theorem rp_data {x y : Cx} (ho : ∀ k, x.ok k → y.ok k) (hh : ∀ k, x.ok k → y.w.heap[k]? = x.w.heap[k]?) {p : Bool × List C} {v : Value} (hd : p.2.all isDC = true) (h : RP x p v) : RP y p v := by
  unfold RP at *
  by_cases hp : p.1 = true
  · rw [if_pos hp] at h ⊢
    obtain ⟨vs, e, hl⟩ := h
    exact ⟨vs, e, rl_data ho hh hd hl⟩
  · rw [if_neg hp] at h ⊢
    obtain ⟨z, e, hl⟩ := h
    rw [e] at hd
    simp at hd
    exact ⟨z, e, rc_data ho hh hd hl⟩

theorem rps_data {x y : Cx} (ho : ∀ k, x.ok k → y.ok k) (hh : ∀ k, x.ok k → y.w.heap[k]? = x.w.heap[k]?) : ∀ {l : List (Bool × List C)} {m : List Value}, (l.all fun p => p.2.all isDC) = true → RL (RP x) l m → RL (RP y) l m
  | [], [], _, _ => trivial
  | c :: l, v :: m, hd, ⟨h1, h2⟩ => by
    simp only [List.all_cons, Bool.and_eq_true] at hd
    exact ⟨rp_data ho hh hd.1 h1, rps_data ho hh hd.2 h2⟩
  | [], _ :: _, _, h => h.elim
  | _ :: _, [], _, h => h.elim

theorem rs_data {x y : Cx} (ho : ∀ k, x.ok k → y.ok k) (hh : ∀ k, x.ok k → y.w.heap[k]? = x.w.heap[k]?) : ∀ {s : SV} {v : Value}, isDs s = true → RS x s v → RS y s v
  | .c _, _, hd, h => rc_data (x := x) ho hh hd h
  | .agg _, _, hd, ⟨vs, e, h⟩ => ⟨vs, e, rl_data ho hh hd h⟩
  | .tup _, _, hd, ⟨vs, e, h⟩ => ⟨vs, e, rps_data ho hh hd h⟩
  | .un, _, _, _ => trivial
  | .arr _ _, _, _, h => h

theorem rls_data {x y : Cx} (ho : ∀ k, x.ok k → y.ok k) (hh : ∀ k, x.ok k → y.w.heap[k]? = x.w.heap[k]?) : ∀ {l : List SV} {m : List Value}, l.all isDs = true → RL (RS x) l m → RL (RS y) l m
  | [], [], _, _ => trivial
  | c :: l, v :: m, hd, ⟨h1, h2⟩ => by
    simp only [List.all_cons, Bool.and_eq_true] at hd
    exact ⟨rs_data ho hh hd.1 h1, rls_data ho hh hd.2 h2⟩
  | [], _ :: _, _, h => h.elim
  | _ :: _, [], _, h => h.elim

/-- A FUNCTION's CONTRACT: from data to data; what was there stays. -/
def FnD (P : Program) (f : Nat) (args : List SV) (post : SV → Prop) : Prop :=
  (∃ fn, P.funcs[f]? = some fn ∧ fn.body.isSome = true ∧ (fn.name == "runtime.NumGoroutine") = false) ∧
  ∀ w ok (vs : Array Value), OkW w ok → RL (RS (DX w ok)) args vs.toList →
    Calls P f vs w fun e w' => ∃ r v, e = .returned v ∧ post r ∧ RS (DX w' fun k => (ok k ∨ w.heap.size ≤ k) ∧ k < w'.heap.size) r v ∧ Below w.heap.size w w'

theorem FnD.mono {P : Program} {f : Nat} {args : List SV} {post post' : SV → Prop} (h : FnD P f args post) (hp : ∀ r, post r → post' r) : FnD P f args post' :=
  ⟨h.1, fun w ok vs ho hv => (h.2 w ok vs ho hv).mono fun _ _ ⟨r, v, e, h1, h2⟩ => ⟨r, v, e, hp r h1, h2⟩⟩

/-- a result, as data: a row of the call's own is a list -/
def cvC (hp : List (Nat × Ob)) : C → Option C
  | .row b => match lk hp b with
    | some (.row _ d xs) => some (.dat d xs)
    | _ => none
  | .ptr _ _ => none
  | .prw _ _ _ _ => none
  | .mp _ => none
  | .chn _ => none
  | .bm _ _ _ => none
  | .csl _ _ => none
  | .sub _ _ _ _ _ => none
  | .fn f [] => some (.fn f [])
  | .fn _ _ => none
  | .bool .tt => some (.bool (.sym true))
  | .bool .ff => some (.bool (.sym false))
  | c => some c
def cvL (hp : List (Nat × Ob)) : List C → Option (List C)
  | [] => some []
  | c :: l => match cvC hp c, cvL hp l with
    | some c, some l => some (c :: l)
    | _, _ => none
def cvT (hp : List (Nat × Ob)) : List (Bool × List C) → Option (List (Bool × List C))
  | [] => some []
  | (b, c) :: l => match cvL hp c, cvT hp l with
    | some c, some l => some ((b, c) :: l)
    | _, _ => none
def cvS (hp : List (Nat × Ob)) : SV → Option SV
  | .c x => match cvC hp x with | some y => some (.c y) | none => none
  | .agg l => match cvL hp l with | some m => some (.agg m) | none => none
  | .tup l => match cvT hp l with | some m => some (.tup m) | none => none
  | .un => some .un
  | .arr _ _ => none

/-- the same, where parts of rows come out, too -/
def cwC (hp : List (Nat × Ob)) (K : C → Prop) : C → Prop
  | .sub b o sz n _ => match lk hp b with
    | some (.wid _ d xs _) => sz = d.sz ∧ o + n ≤ xs.length ∧ K (.dat d ((xs.drop o).take n))
    | _ => False
  | c => match cvC hp c with
    | some y => K y
    | none => False
def cwL (hp : List (Nat × Ob)) : (List C → Prop) → List C → Prop
  | K, [] => K []
  | K, c :: l => cwC hp (fun y => cwL hp (fun m => K (y :: m)) l) c
def cwT (hp : List (Nat × Ob)) : (List (Bool × List C) → Prop) → List (Bool × List C) → Prop
  | K, [] => K []
  | K, (b, c) :: l => cwL hp (fun m => cwT hp (fun r => K ((b, m) :: r)) l) c
def cwS (hp : List (Nat × Ob)) (K : SV → Prop) : SV → Prop
  | .c x => cwC hp (fun y => K (.c y)) x
  | .agg l => cwL hp (fun m => K (.agg m)) l
  | .tup l => cwT hp (fun m => K (.tup m)) l
  | .un => K .un
  | .arr _ _ => False

def Post (post : SV → Prop) (r : SV) (st : St) : Prop := match cvS st.hp r with
  | some s => post s
  | none => cwS st.hp post r

section
variable {w0 : W0} {hp : List (Nat × Ob)} {nx : Nat → Prop} {η : Nat → Option Nat × Value} {w : World} {ok : Nat → Prop}

theorem cvC_sound (hH : RepH w0 hp nx η w) (hok : ∀ k, okS w0 hp η w k → ok k) (hnew : ∀ k, ¬ w0.old k → k < w.heap.size → ok k) {c c' : C} {v : Value} (h : cvC hp c = some c') (hv : RC (cxS w0 hp nx η w) c v) : RC (DX w ok) c' v := by
  have keep : isDC c = true → c = c' → RC (DX w ok) c' v := fun hd e => by
    subst e
    exact rc_data (x := cxS w0 hp nx η w) (y := DX w ok) hok (fun _ _ => rfl) hd hv
  cases c <;> simp only [cvC, Option.some.injEq, reduceCtorEq] at h
  case row b =>
    split at h
    · rename_i T d xs hlk
      simp only [Option.some.injEq] at h
      subst h
      obtain ⟨hb, e, _⟩ := hv
      obtain ⟨cs, r1, r2, r3⟩ := hH.obs b _ hlk
      have r1 : (η b).1 = (η b).2.ownBlock := r1
      have e : v = (η b).2 := e
      show Rd w ok (.list d) xs [v]
      simp only [Rd]
      rcases r2.2 with ⟨hv, hn⟩ | ⟨g, cap, cur, hv, _, hg, hc1, hc2, hc3, hc4⟩
      · have hv : (η b).2 = .slice none 0 0 := hv
        have : xs = [] := List.eq_nil_of_length_eq_zero hn
        subst this
        exact ⟨none, 0, by rw [e, hv]; rfl, by simp, by simp [maxLen], fun _ => rfl, .inl rfl⟩
      · have hv : (η b).2 = .slice (some ⟨g, 0, none⟩) xs.length cap := hv
        have hk := hH.new b g (by rw [hlk]; simp) (by rw [r1, hv]; rfl)
        refine ⟨some ⟨g, 0, none⟩, cap, by rw [e, hv], hc1, hc2, (fun h => by cases h), .inr ⟨g, 0, cur, T, (0, 0), rfl, hnew g hk.1 hk.2, hg, ?_⟩⟩
        rw [List.drop_zero, hc4]
        exact RdF.imp (fun _ _ h => Rd.mono hok (fun _ _ => rfl) h) r3
    · cases h
  case bool b =>
    cases b <;> simp only [Option.some.injEq] at h
    case sym b => exact keep rfl h
    all_goals
      subst h
      have hv : v = .bool _ := hv
      subst hv
      exact rfl
  case fn f l =>
    cases l with
    | nil => simp only [Option.some.injEq] at h; exact keep rfl h
    | cons _ _ => simp at h
  all_goals exact keep rfl h

theorem cvW_sound (hH : RepH w0 hp nx η w) (hok : ∀ k, okS w0 hp η w k → ok k) (hnew : ∀ k, ¬ w0.old k → k < w.heap.size → ok k) {b o n c : Nat} {T : TypeId} {d : D} {xs : List d.T} {c0 : Nat} {v : Value} (hlk : lk hp b = some (.wid T d xs c0)) (hle : o + n ≤ xs.length)
    (hv : RC (cxS w0 hp nx η w) (.sub b o d.sz n c) v) : RC (DX w ok) (.dat d ((xs.drop o).take n)) v := by
  obtain ⟨hb, hnc, hcm, k2, o', hk, e, ho'⟩ := hv
  obtain ⟨k3, cur, hk3, hcur, hcs, hlc, hcm', hf⟩ := hH.obs b _ hlk
  have hkk : k3 = k2 := by have : some k3 = some k2 := hk3.symm.trans hk; simpa using this
  subst hkk
  have hlen : ((xs.drop o).take n).length = n := by rw [List.length_take, List.length_drop]; omega
  have hnw := hH.new b k3 (by rw [hlk]; simp) hk
  show Rd w ok (.list d) _ [v]
  simp only [Rd]
  refine ⟨some ⟨k3, o', none⟩, c, by rw [hlen, e], by rw [hlen]; exact hnc, hcm, (fun h => by cases h), ?_⟩
  by_cases h0 : n = 0
  · left; apply List.eq_nil_of_length_eq_zero; rw [hlen]; exact h0
  · right
    refine ⟨k3, o', cur, T, (0, 0), rfl, hnew k3 hnw.1 hnw.2, hcur, ?_⟩
    rw [ho' (by omega), hlen]
    have r := RdF.take (fun _ _ => Rd.len) n (RdF.drop (fun _ _ => Rd.len) o hf)
    have e3 : ((cur.toList.take (xs.length * d.sz)).drop (o * d.sz)).take (n * d.sz) = (cur.toList.drop (o * d.sz)).take (n * d.sz) := by
      have : (o + n) * d.sz ≤ xs.length * d.sz := Nat.mul_le_mul_right _ hle
      rw [Nat.add_mul] at this
      rw [List.drop_take, List.take_take, Nat.min_eq_left (by omega)]
    rw [e3] at r
    exact RdF.imp (fun _ _ h => Rd.mono hok (fun _ _ => rfl) h) r

theorem cvL_sound (hH : RepH w0 hp nx η w) (hok : ∀ k, okS w0 hp η w k → ok k) (hnew : ∀ k, ¬ w0.old k → k < w.heap.size → ok k) : ∀ {l l' : List C} {m : List Value}, cvL hp l = some l' → RL (RC (cxS w0 hp nx η w)) l m → RL (RC (DX w ok)) l' m
  | [], l', m, h, hl => by
    simp only [cvL, Option.some.injEq] at h
    subst h
    cases m with | nil => trivial | cons _ _ => exact hl.elim
  | c :: l, l', m, h, hl => by
    obtain ⟨v, m', rfl, h1, h2⟩ := rl_cons hl
    simp only [cvL] at h
    split at h
    · rename_i c' l'' hc hl'
      simp only [Option.some.injEq] at h
      subst h
      exact ⟨cvC_sound hH hok hnew hc h1, cvL_sound hH hok hnew hl' h2⟩
    · cases h

theorem cvT_sound (hH : RepH w0 hp nx η w) (hok : ∀ k, okS w0 hp η w k → ok k) (hnew : ∀ k, ¬ w0.old k → k < w.heap.size → ok k) : ∀ {l l' : List (Bool × List C)} {m : List Value}, cvT hp l = some l' → RL (RP (cxS w0 hp nx η w)) l m → RL (RP (DX w ok)) l' m
  | [], l', m, h, hl => by
    simp only [cvT, Option.some.injEq] at h
    subst h
    cases m with | nil => trivial | cons _ _ => exact hl.elim
  | (b, c) :: l, l', m, h, hl => by
    obtain ⟨v, m', rfl, h1, h2⟩ := rl_cons hl
    simp only [cvT] at h
    split at h
    · rename_i c' l'' hc hl'
      simp only [Option.some.injEq] at h
      subst h
      refine ⟨?_, cvT_sound hH hok hnew hl' h2⟩
      unfold RP at *
      cases b with
      | true =>
        simp only [if_true] at h1 ⊢
        obtain ⟨vs, e, hvs⟩ := h1
        exact ⟨vs, e, cvL_sound hH hok hnew hc hvs⟩
      | false =>
        simp only [Bool.false_eq_true, if_false] at h1 ⊢
        obtain ⟨z, rfl, hz⟩ := h1
        simp only [cvL] at hc
        split at hc
        · rename_i z' l3 hz' hl3
          simp only [Option.some.injEq] at hc hl3
          subst hc; subst hl3
          exact ⟨z', rfl, cvC_sound hH hok hnew hz' hz⟩
        · cases hc
    · cases h

theorem cvS_sound (hH : RepH w0 hp nx η w) (hok : ∀ k, okS w0 hp η w k → ok k) (hnew : ∀ k, ¬ w0.old k → k < w.heap.size → ok k) {s s' : SV} {v : Value} (h : cvS hp s = some s') (hv : RS (cxS w0 hp nx η w) s v) : RS (DX w ok) s' v := by
  unfold cvS at h
  split at h
  · split at h
    · rename_i y hy
      cases h
      exact cvC_sound hH hok hnew hy hv
    · cases h
  · split at h
    · rename_i m hm
      cases h
      obtain ⟨vs, e, hl⟩ := hv
      exact ⟨vs, e, cvL_sound hH hok hnew hm hl⟩
    · cases h
  · split at h
    · rename_i m hm
      cases h
      obtain ⟨vs, e, hl⟩ := hv
      exact ⟨vs, e, cvT_sound hH hok hnew hm hl⟩
    · cases h
  · cases h
    trivial
  · cases h
end

section
variable {w0 : W0} {hp : List (Nat × Ob)} {nx : Nat → Prop} {η : Nat → Option Nat × Value} {w : World} {ok : Nat → Prop}
theorem cwC_sound (hH : RepH w0 hp nx η w) (hok : ∀ k, okS w0 hp η w k → ok k) (hnew : ∀ k, ¬ w0.old k → k < w.heap.size → ok k) {K : C → Prop} {c : C} {v : Value} (h : cwC hp K c) (hv : RC (cxS w0 hp nx η w) c v) : ∃ y, K y ∧ RC (DX w ok) y v := by
  unfold cwC at h
  split at h
  · split at h
    · rename_i hlk
      obtain ⟨rfl, h1, h2⟩ := h
      exact ⟨_, h2, cvW_sound hH hok hnew hlk h1 hv⟩
    · exact h.elim
  · split at h
    · rename_i hy
      exact ⟨_, h, cvC_sound hH hok hnew hy hv⟩
    · exact h.elim
theorem cwL_sound (hH : RepH w0 hp nx η w) (hok : ∀ k, okS w0 hp η w k → ok k) (hnew : ∀ k, ¬ w0.old k → k < w.heap.size → ok k) : ∀ {K : List C → Prop} {l : List C} {m : List Value}, cwL hp K l → RL (RC (cxS w0 hp nx η w)) l m → ∃ l', K l' ∧ RL (RC (DX w ok)) l' m
  | K, [], [], h, _ => ⟨[], h, trivial⟩
  | K, c :: l, v :: m, h, ⟨h1, h2⟩ => by
    obtain ⟨y, hy, hy2⟩ := cwC_sound hH hok hnew h h1
    obtain ⟨l', hl, hl2⟩ := cwL_sound hH hok hnew hy h2
    exact ⟨y :: l', hl, hy2, hl2⟩
  | K, [], _ :: _, _, h => h.elim
  | K, _ :: _, [], _, h => h.elim
theorem cwT_sound (hH : RepH w0 hp nx η w) (hok : ∀ k, okS w0 hp η w k → ok k) (hnew : ∀ k, ¬ w0.old k → k < w.heap.size → ok k) : ∀ {K : List (Bool × List C) → Prop} {l : List (Bool × List C)} {m : List Value}, cwT hp K l → RL (RP (cxS w0 hp nx η w)) l m → ∃ l', K l' ∧ RL (RP (DX w ok)) l' m
  | K, [], [], h, _ => ⟨[], h, trivial⟩
  | K, (b, c) :: l, v :: m, h, ⟨h1, h2⟩ => by
    have key : ∀ {K2 : List C → Prop}, cwL hp K2 c → ∃ c', K2 c' ∧ RP (DX w ok) (b, c') v := fun {K2} hc => by
      unfold RP at h1 ⊢
      cases b with
      | true =>
        simp only [if_true] at h1 ⊢
        obtain ⟨vs, e, hl⟩ := h1
        obtain ⟨c', g1, g2⟩ := cwL_sound hH hok hnew hc hl
        exact ⟨c', g1, vs, e, g2⟩
      | false =>
        simp only [Bool.false_eq_true, if_false] at h1 ⊢
        obtain ⟨z, e, hz⟩ := h1
        subst e
        obtain ⟨c', g1, g2⟩ := cwL_sound hH hok hnew hc (m := [v]) ⟨hz, trivial⟩
        cases c' with
        | nil => exact g2.elim
        | cons y c' => cases c' with
          | nil => exact ⟨[y], g1, y, rfl, g2.1⟩
          | cons _ _ => exact g2.2.elim
    obtain ⟨c', g1, g2⟩ := key h
    obtain ⟨l', hl, hl2⟩ := cwT_sound hH hok hnew g1 h2
    exact ⟨(b, c') :: l', hl, g2, hl2⟩
  | K, [], _ :: _, _, h => h.elim
  | K, _ :: _, [], _, h => h.elim
theorem cwS_sound (hH : RepH w0 hp nx η w) (hok : ∀ k, okS w0 hp η w k → ok k) (hnew : ∀ k, ¬ w0.old k → k < w.heap.size → ok k) {K : SV → Prop} {s : SV} {v : Value} (h : cwS hp K s) (hv : RS (cxS w0 hp nx η w) s v) : ∃ s', K s' ∧ RS (DX w ok) s' v := by
  cases s with
  | c x => obtain ⟨y, h1, h2⟩ := cwC_sound (K := fun y => K (.c y)) hH hok hnew h hv; exact ⟨.c y, h1, h2⟩
  | agg l =>
    obtain ⟨vs, e, hl⟩ := hv
    obtain ⟨l', h1, h2⟩ := cwL_sound (K := fun m => K (.agg m)) hH hok hnew h hl
    exact ⟨.agg l', h1, vs, e, h2⟩
  | tup l =>
    obtain ⟨vs, e, hl⟩ := hv
    obtain ⟨l', h1, h2⟩ := cwT_sound (K := fun m => K (.tup m)) hH hok hnew h hl
    exact ⟨.tup l', h1, vs, e, h2⟩
  | un => exact ⟨.un, h, trivial⟩
  | arr d xs => exact h.elim
end

/-- A CONTRACT, BY A RUN over abstract states. -/
theorem fn_of {E : En} {fi : FI} {f : Nat} {c : Code} {args : List SV} {post : SV → Prop} (hf : E.P.funcs[f]? = some fi.fn) (hb : fi.fn.body = some c) (hn : (fi.fn.name == "runtime.NumGoroutine") = false) (ht : fi.fn.ntmps = fi.nt)
    (hr : fi.fn.results.toList = fi.res) (hl : args.length ≤ fi.nt) (hp : E.post = Post post) (hm : Mean E fi [.code c] ⟨num args 0, [], 0⟩ []) : FnD E.P f args post := by
  refine ⟨⟨fi.fn, hf, by rw [hb]; rfl, hn⟩, fun w ok vs hok hvs => ?_⟩
  refine calls_of_wp hf hb ?_
  have hle : (DX w ok).le (cxS ⟨w, ok, fun _ => False⟩ [] (lt 0) (fun _ => (none, undef)) w) :=
    ⟨fun _ h => h.elim, fun _ h => h.elim, fun k hk => ⟨⟨hok.lt k hk, fun _ => hk⟩, fun b h => absurd rfl h⟩, fun _ _ => rfl⟩
  have hF := enter_rep (x := cxS ⟨w, ok, fun _ => False⟩ [] (lt 0) (fun _ => (none, undef)) w) (RL.imp (fun _ _ => RS.mono hle) hvs) hl
  rw [← ht] at hF
  refine wp_mono (hm ⟨w, ok, fun _ => False⟩ (fun _ => (none, undef)) [] _ w rfl ⟨⟨⟨fun _ _ h => by simp [lk] at h, fun _ _ _ h => absurd rfl h, fun _ _ h => absurd rfl h, fun _ h => absurd rfl h, BelO.refl _ hok.gl⟩, hr⟩, by rw [← ht]; exact hF, fun _ h => by cases h⟩) ?_
  intro e a' w' hq
  have fin : RR E.P ⟨w, ok, fun _ => False⟩ (Fin ⟨w, ok, fun _ => False⟩ E.post) fi [] a' w' → a'.defers = [] ∧ ∃ v, (results fi.fn a'.tmps).run E.P w' = .ok v w' ∧
      (∃ r v', (Ending.returned v : Ending) = .returned v' ∧ post r ∧ RS (DX w' fun k => (ok k ∨ w.heap.size ≤ k) ∧ k < w'.heap.size) r v' ∧ Below w.heap.size w w') := by
    rintro ⟨h1, v, h2, η, sv, st, h3, h4, h5⟩
    refine ⟨h1, v, h2, ?_⟩
    rw [hp] at h5
    unfold Post at h5
    split at h5
    · rename_i s hs
      refine ⟨s, v, rfl, h5, cvS_sound h3 (fun k hk => ⟨?_, hk.1.1⟩) (fun k h1 h2 => ⟨.inr (Nat.not_lt.1 fun h => h1 ⟨h, id⟩), h2⟩) hs h4, h3.bel.out fun _ => id⟩
      by_cases hlt : k < w.heap.size
      · exact .inl (hk.1.2 ⟨hlt, id⟩)
      · exact .inr (by omega)
    · obtain ⟨s, h6, h7⟩ := cwS_sound (ok := fun k => (ok k ∨ w.heap.size ≤ k) ∧ k < w'.heap.size) h3 (fun k hk => ⟨by
        by_cases hlt : k < w.heap.size
        · exact .inl (hk.1.2 ⟨hlt, id⟩)
        · exact .inr (by omega), hk.1.1⟩) (fun k h1 h2 => ⟨.inr (Nat.not_lt.1 fun h => h1 ⟨h, id⟩), h2⟩) h5 h4
      exact ⟨s, v, rfl, h6, h7, h3.bel.out fun _ => id⟩
  cases e with
  | normal => exact fin hq
  | ret => exact fin hq
  | exit id => exact hq.elim
  | goto l => exact hq.elim
  | panic ch => exact hq.elim
  | outgrown => exact hq.elim

/-- A CALL, by the callee's contract: data go in. -/
theorem call_rule {E : En} {cur : FI} {f : Nat} {args : List SV} {all : Array Oper} {o : Oper} {l : List Oper} {r : List It} {st : St} {stk : List Fm} {post : SV → Prop} (hF : FnD E.P f args post) (hd : args.all isDs = true)
    (hk : ∀ s, post s → Mean E cur (.ops all l :: r) ⟨putF cur.nt st.fr o.dst s, st.hp, st.nx⟩ stk) : CallOk E cur f args all o l r st stk := by
  refine ⟨?_⟩
  rintro ⟨args0, hcl, rfl⟩ z η S a w hS hR
  obtain ⟨⟨fn, hf1, hf2, hf3⟩, hF⟩ := hF
  obtain ⟨vs, hvs, hrun⟩ := run_call (E := E) (ev_sound hR.2.1) hcl hf1 hf2 hf3
  have hvs := nzs_sound hvs
  simp only [TW, wpList, Region.wanted, if_true]
  left
  unfold Oper.wp
  have hexec : execOp a.eval ⟨o.dst, o.op, o.type, o.pos, o.after, none⟩ = execOp a.eval o := rfl
  rw [hexec, hrun, Oper.upon_enter]
  have hargs : RL (RS (DX w (okS z st.hp η w))) (args0.map nzS) vs.toList := rls_data (x := cxS z st.hp (lt st.nx) η w) (y := DX w (okS z st.hp η w)) (fun _ h => h) (fun _ _ => rfl) hd hvs
  refine (hF w (okS z st.hp η w) vs (OkW.of hR.1.1) hargs).mono ?_
  rintro e w' ⟨s, v, rfl, hs, hv, hb⟩
  have hle := cx_below (w0 := z) (hp := st.hp) (nx := lt st.nx) (η := η) hb
  have hR' := hR.heap (hR.1.1.below hb) hle
  have hres : RS (cxS z st.hp (lt st.nx) η w') s v := by
    refine RS.mono (x := DX w' fun k => (okS z st.hp η w k ∨ w.heap.size ≤ k) ∧ k < w'.heap.size) (y := cxS z st.hp (lt st.nx) η w') ⟨fun _ h => h.elim, fun _ h => h.elim, fun k hk => ?_, fun _ _ => rfl⟩ hv
    have hk : (okS z st.hp η w k ∨ w.heap.size ≤ k) ∧ k < w'.heap.size := hk
    refine ⟨⟨hk.2, fun hlt => ?_⟩, fun b hb he => ?_⟩
    · rcases hk.1 with h | h
      · exact h.1.2 hlt
      · have := hR.1.1.bel.size; have := hlt.1; omega
    · rcases hk.1 with h | h
      · exact h.2 b hb he
      · have := (hR.1.1.new b k hb he).2; omega
  exact hk s hs z η S _ w' hS (hR'.fr (putF_sound hR'.2.1 hres))

/-- a call that is made only if C, by the callee's contract -/
theorem cg_of {P : Program} {f : Nat} {args : List SV} {pf : SV → Prop} (hF : FnD P f args pf) (hd : args.all isDs = true) : CG P f args pf := by
  obtain ⟨hfn, hF⟩ := hF
  refine ⟨hfn, fun w0 hp nx η w vs hH hvs => ?_⟩
  have hargs : RL (RS (DX w (okS w0 hp η w))) args vs.toList := rls_data (x := cxS w0 hp (lt nx) η w) (y := DX w (okS w0 hp η w)) (fun _ h => h) (fun _ _ => rfl) hd hvs
  refine (hF w (okS w0 hp η w) vs (OkW.of hH) hargs).mono ?_
  rintro e w' ⟨r, v, rfl, hs, hv, hb⟩
  refine ⟨r, v, rfl, hs, ?_, hb⟩
  refine RS.mono (x := DX w' fun k => (okS w0 hp η w k ∨ w.heap.size ≤ k) ∧ k < w'.heap.size) (y := cxS w0 hp (lt nx) η w') ⟨fun _ h => h.elim, fun _ h => h.elim, fun k hk => ?_, fun _ _ => rfl⟩ hv
  have hk : (okS w0 hp η w k ∨ w.heap.size ≤ k) ∧ k < w'.heap.size := hk
  refine ⟨⟨hk.2, fun hlt => ?_⟩, fun b hb' he => ?_⟩
  · rcases hk.1 with h | h
    · exact h.1.2 hlt
    · have := hH.bel.size; have := hlt.1; omega
  · rcases hk.1 with h | h
    · exact h.2 b hb' he
    · have := (hH.new b k hb' he).2; omega
theorem callg_rule {E : En} {C : Prop} {f : Nat} {args : List SV} {s : SV} {K : SV → Prop} (hF : C → FnD E.P f args (· = s)) (hd : args.all isDs = true) (hk : K s) : CallG E C f args K :=
  ⟨(· = s), ⟨s, rfl⟩, fun _ h => h ▸ hk, fun c => cg_of (hF c) hd⟩
/-! ### own rows are lent: what comes back holds no address -/

def ldC (hp : List (Nat × Ob)) : C → C
  | .row b => match lk hp b with
    | some (.row _ d xs) => .dat d xs
    | _ => .row b
  | c => c
def ldS (hp : List (Nat × Ob)) : SV → SV
  | .c x => .c (ldC hp x)
  | .agg l => .agg (l.map (ldC hp))
  | s => s
def scC : C → Bool
  | .int _ _ | .bool _ | .str _ => true
  | _ => false
def scL : List C → Bool
  | [] => true
  | c :: l => match scC c with | true => scL l | false => false
def scT : List (Bool × List C) → Bool
  | [] => true
  | (_, l) :: r => match scL l with | true => scT r | false => false
def scS : SV → Bool
  | .c x => scC x
  | .agg l => scL l
  | .tup l => scT l
  | .un => false
  | .arr _ _ => false
theorem sc_rc {x y : Cx} : ∀ {c : C} {v : Value}, scC c = true → RC x c v → RC y c v
  | .int _ _, _, _, h => h
  | .bool _, _, _, h => h
  | .str _, _, _, h => h
  | .ptr _ _, _, h, _ => by simp [scC] at h
  | .pel _ _ _, _, h, _ => by simp [scC] at h
  | .prw _ _ _ _, _, h, _ => by simp [scC] at h
  | .row _, _, h, _ => by simp [scC] at h
  | .dat _ _, _, h, _ => by simp [scC] at h
  | .val _, _, h, _ => by simp [scC] at h
  | .fn _ _, _, h, _ => by simp [scC] at h
  | .mp _, _, h, _ => by simp [scC] at h
  | .chn _, _, h, _ => by simp [scC] at h
  | .bm _ _ _, _, h, _ => by simp [scC] at h
  | .csl _ _, _, h, _ => by simp [scC] at h
  | .glb _, _, h, _ => by simp [scC] at h
  | .sub _ _ _ _ _, _, h, _ => by simp [scC] at h
theorem sc_rl {x y : Cx} : ∀ {l : List C} {m : List Value}, scL l = true → RL (RC x) l m → RL (RC y) l m
  | [], [], _, _ => trivial
  | c :: l, v :: m, hs, ⟨h1, h2⟩ => by
    unfold scL at hs
    split at hs
    · rename_i hc; exact ⟨sc_rc hc h1, sc_rl hs h2⟩
    · cases hs
  | [], _ :: _, _, h => h.elim
  | _ :: _, [], _, h => h.elim
theorem sc_rt {x y : Cx} : ∀ {l : List (Bool × List C)} {m : List Value}, scT l = true → RL (RP x) l m → RL (RP y) l m
  | [], [], _, _ => trivial
  | (g, c) :: l, v :: m, hs, ⟨h1, h2⟩ => by
    unfold scT at hs
    split at hs
    · rename_i hc
      refine ⟨?_, sc_rt hs h2⟩
      unfold RP at *
      cases g with
      | true =>
        simp only [if_true] at h1 ⊢
        obtain ⟨vs, e, h⟩ := h1
        exact ⟨vs, e, sc_rl hc h⟩
      | false =>
        simp only [Bool.false_eq_true, if_false] at h1 ⊢
        obtain ⟨z, rfl, h⟩ := h1
        exact ⟨z, rfl, (sc_rl (m := [v]) hc ⟨h, trivial⟩).1⟩
    · cases hs
  | [], _ :: _, _, h => h.elim
  | _ :: _, [], _, h => h.elim
theorem sc_rs {x y : Cx} : ∀ {s : SV} {v : Value}, scS s = true → RS x s v → RS y s v
  | .c c, _, h, hv => sc_rc (x := x) h hv
  | .agg l, _, h, ⟨vs, e, hv⟩ => ⟨vs, e, sc_rl h hv⟩
  | .tup l, _, h, ⟨vs, e, hv⟩ => ⟨vs, e, sc_rt h hv⟩
  | .un, _, h, _ => by simp [scS] at h
  | .arr _ _, _, h, _ => by simp [scS] at h

section
variable {w0 : W0} {hp hin : List (Nat × Ob)} {nx : Nat → Prop} {η : Nat → Option Nat × Value} {w : World}
theorem ldC_sound (hH : RepH w0 hp nx η w) (hs : ∀ b o, lk hin b = some o → lk hp b = some o) {c : C} {v : Value} (hd : isDC (ldC hin c) = true) (hv : RC (cxS w0 hp nx η w) c v) : RC (DX w fun k => k < w.heap.size) (ldC hin c) v := by
  have hle : ∀ k, okS w0 hp η w k → k < w.heap.size := fun k hk => hk.1.1
  have other : isDC c = true → ldC hin c = c → RC (DX w fun k => k < w.heap.size) (ldC hin c) v := fun hd e => by
    rw [e]
    exact rc_data (x := cxS w0 hp nx η w) (y := DX w fun k => k < w.heap.size) hle (fun _ _ => rfl) hd hv
  cases c with
  | row b =>
    cases hlk : lk hin b with
    | none => simp [ldC, hlk, isDC] at hd
    | some ob =>
      cases ob with
      | row T d xs =>
        simp only [ldC, hlk]
        obtain ⟨hb, e, _⟩ := hv
        obtain ⟨cs, r1, r2, r3⟩ := hH.obs b _ (hs _ _ hlk)
        have r1 : (η b).1 = (η b).2.ownBlock := r1
        have e : v = (η b).2 := e
        show Rd w (fun k => k < w.heap.size) (.list d) xs [v]
        simp only [Rd]
        rcases r2.2 with ⟨hv, hn⟩ | ⟨g, cap, cur, hv, _, hg, hc1, hc2, hc3, hc4⟩
        · have hv : (η b).2 = .slice none 0 0 := hv
          have : xs = [] := List.eq_nil_of_length_eq_zero hn
          subst this
          exact ⟨none, 0, by rw [e, hv]; rfl, by simp, by simp [maxLen], fun _ => rfl, .inl rfl⟩
        · have hv : (η b).2 = .slice (some ⟨g, 0, none⟩) xs.length cap := hv
          have hk := hH.new b g (by rw [hs _ _ hlk]; simp) (by rw [r1, hv]; rfl)
          refine ⟨some ⟨g, 0, none⟩, cap, by rw [e, hv], hc1, hc2, (fun h => by cases h), .inr ⟨g, 0, cur, T, (0, 0), rfl, hk.2, hg, ?_⟩⟩
          rw [List.drop_zero, hc4]
          exact RdF.imp (fun _ _ h => Rd.mono hle (fun _ _ => rfl) h) r3
      | _ => simp [ldC, hlk, isDC] at hd
  | _ => exact other hd rfl
theorem ldL_sound (hH : RepH w0 hp nx η w) (hs : ∀ b o, lk hin b = some o → lk hp b = some o) : ∀ {l : List C} {m : List Value}, (l.map (ldC hin)).all isDC = true → RL (RC (cxS w0 hp nx η w)) l m → RL (RC (DX w fun k => k < w.heap.size)) (l.map (ldC hin)) m
  | [], [], _, _ => trivial
  | c :: l, v :: m, hd, ⟨h1, h2⟩ => by
    simp only [List.map_cons, List.all_cons, Bool.and_eq_true] at hd
    exact ⟨ldC_sound hH hs hd.1 h1, ldL_sound hH hs hd.2 h2⟩
  | [], _ :: _, _, h => h.elim
  | _ :: _, [], _, h => h.elim
theorem ldS_sound (hH : RepH w0 hp nx η w) (hs : ∀ b o, lk hin b = some o → lk hp b = some o) : ∀ {s : SV} {v : Value}, isDs (ldS hin s) = true → RS (cxS w0 hp nx η w) s v → RS (DX w fun k => k < w.heap.size) (ldS hin s) v
  | .c _, _, hd, h => ldC_sound hH hs hd h
  | .agg _, _, hd, ⟨vs, e, h⟩ => ⟨vs, e, ldL_sound hH hs hd h⟩
  | .tup _, _, hd, ⟨vs, e, h⟩ => ⟨vs, e, rps_data (x := cxS w0 hp nx η w) (y := DX w fun k => k < w.heap.size) (fun _ hk => hk.1.1) (fun _ _ => rfl) hd h⟩
  | .un, _, _, _ => trivial
  | .arr _ _, _, _, h => h
theorem lds_sound (hH : RepH w0 hp nx η w) (hs : ∀ b o, lk hin b = some o → lk hp b = some o) : ∀ {l : List SV} {m : List Value}, (l.map (ldS hin)).all isDs = true → RL (RS (cxS w0 hp nx η w)) l m → RL (RS (DX w fun k => k < w.heap.size)) (l.map (ldS hin)) m
  | [], [], _, _ => trivial
  | c :: l, v :: m, hd, ⟨h1, h2⟩ => by
    simp only [List.map_cons, List.all_cons, Bool.and_eq_true] at hd
    exact ⟨ldS_sound hH hs hd.1 h1, lds_sound hH hs hd.2 h2⟩
  | [], _ :: _, _, h => h.elim
  | _ :: _, [], _, h => h.elim
end

/-- A CALL to which own rows are lent. -/
theorem lend_rule {E : En} {cur : FI} {f : Nat} {args : List SV} {all : Array Oper} {o : Oper} {l : List Oper} {r : List It} {st : St} {stk : List Fm} {post : SV → Prop} (hF : FnD E.P f (args.map (ldS st.hp)) post) (hd : (args.map (ldS st.hp)).all isDs = true) (hsc : ∀ s, post s → scS s = true)
    (hk : ∀ s, post s → Mean E cur (.ops all l :: r) ⟨putF cur.nt st.fr o.dst s, st.hp, st.nx⟩ stk) : CallOk E cur f args all o l r st stk := by
  refine ⟨?_⟩
  rintro ⟨args0, hcl, rfl⟩ z η S a w hS hR
  obtain ⟨⟨fn, hf1, hf2, hf3⟩, hF⟩ := hF
  obtain ⟨vs, hvs, hrun⟩ := run_call (E := E) (ev_sound hR.2.1) hcl hf1 hf2 hf3
  have hvs := nzs_sound hvs
  simp only [TW, wpList, Region.wanted, if_true]
  left
  unfold Oper.wp
  have hexec : execOp a.eval ⟨o.dst, o.op, o.type, o.pos, o.after, none⟩ = execOp a.eval o := rfl
  rw [hexec, hrun, Oper.upon_enter]
  refine (hF w (fun k => k < w.heap.size) vs (OkW.all hR.1.1) (lds_sound hR.1.1 (fun _ _ h => h) hd hvs)).mono ?_
  rintro e w' ⟨s, v, rfl, hs, hv, hb⟩
  have hle := cx_below (w0 := z) (hp := st.hp) (nx := lt st.nx) (η := η) hb
  have hR' := hR.heap (hR.1.1.below hb) hle
  exact hk s hs z η S _ w' hS (hR'.fr (putF_sound hR'.2.1 (sc_rs (hsc s hs) hv)))

/-! ### own rows become data -/

def fzC (b : Nat) (d : D) (xs : List d.T) : C → C
  | .row b' => match Nat.beq b' b with | true => .dat d xs | false => .row b'
  | c => c
def fzT (b : Nat) (d : D) (xs : List d.T) : List (Bool × List C) → List (Bool × List C)
  | [] => []
  | (g, l) :: r => (g, l.map (fzC b d xs)) :: fzT b d xs r
def fzS (b : Nat) (d : D) (xs : List d.T) : SV → SV
  | .c x => .c (fzC b d xs x)
  | .agg l => .agg (l.map (fzC b d xs))
  | .tup l => .tup (fzT b d xs l)
  | .un => .un
  | .arr d xs => .arr d xs
def fzF (b : Nat) (d : D) (xs : List d.T) : List (Nat × SV) → List (Nat × SV)
  | [] => []
  | (t, s) :: r => (t, fzS b d xs s) :: fzF b d xs r
def fzH (b : Nat) (d : D) (xs : List d.T) : List (Nat × Ob) → List (Nat × Ob)
  | [] => []
  | (c, .cells T l) :: r => (c, .cells T (l.map (fzC b d xs))) :: fzH b d xs r
  | p :: r => p :: fzH b d xs r

theorem lk_fzF {b : Nat} {d : D} {xs : List d.T} : ∀ (fr : List (Nat × SV)) (t : Nat), lk (fzF b d xs fr) t = (lk fr t).map (fzS b d xs)
  | [], _ => rfl
  | (c, s) :: r, t => by
    simp only [fzF, lk]
    split
    · rfl
    · exact lk_fzF r t
theorem lk_fzH {b : Nat} {d : D} {xs : List d.T} {o : Ob} : ∀ {hp : List (Nat × Ob)} {t : Nat}, lk (fzH b d xs hp) t = some o → ∃ o', lk hp t = some o' ∧ (o = o' ∨ ∃ T l, o' = .cells T l ∧ o = .cells T (l.map (fzC b d xs)))
  | [], t, h => by simp [fzH, lk] at h
  | (c, o1) :: r, t, h => by
    by_cases hc : t = c
    · subst hc
      cases o1 <;> simp only [fzH, lk, if_true, Option.some.injEq] at h <;> subst h <;> refine ⟨_, by simp only [lk, if_true]; rfl, ?_⟩
      · exact .inr ⟨_, _, rfl, rfl⟩
      all_goals exact .inl rfl
    · have : lk (fzH b d xs r) t = some o := by
        cases o1 <;> simpa only [fzH, lk, if_neg hc] using h
      obtain ⟨o', h1, h2⟩ := lk_fzH this
      exact ⟨o', by simp only [lk, if_neg hc]; exact h1, h2⟩

section
variable {w0 : W0} {hp : List (Nat × Ob)} {nx : Nat → Prop} {η : Nat → Option Nat × Value} {w : World}

theorem fz_le (b : Nat) : (cxS w0 hp nx η w).le (cxS w0 (rm hp b) nx η w) :=
  ⟨fun _ _ => rfl, fun _ h => h, fun k ⟨h1, h2⟩ => ⟨h1, fun c hc => h2 c (fun e => hc (by rw [lk_rm]; split <;> simp_all))⟩, fun _ _ => rfl⟩

theorem fzC_sound {b : Nat} {T : TypeId} {d : D} {xs : List d.T} (hH : RepH w0 hp nx η w) (hb : lk hp b = some (.row T d xs)) {c : C} {v : Value} (h : RC (cxS w0 hp nx η w) c v) : RC (cxS w0 (rm hp b) nx η w) (fzC b d xs c) v := by
  unfold fzC
  split
  · rename_i b'
    split
    · rename_i e
      have e := Nat.eq_of_beq_eq_true e
      subst e
      obtain ⟨_, hv, _⟩ := h
      obtain ⟨cs, r1, r2, r3⟩ := hH.obs b' _ hb
      have r1 : (η b').1 = (η b').2.ownBlock := r1
      have hv : v = (η b').2 := hv
      show Rd w (okS w0 (rm hp b') η w) (.list d) xs [v]
      simp only [Rd]
      rcases r2.2 with ⟨h0, hn⟩ | ⟨g, cap, cur, h0, _, hg, hc1, hc2, hc3, hc4⟩
      · have h0 : (η b').2 = .slice none 0 0 := h0
        have : xs = [] := List.eq_nil_of_length_eq_zero hn
        subst this
        exact ⟨none, 0, by rw [hv, h0]; rfl, by simp, by simp [maxLen], fun _ => rfl, .inl rfl⟩
      · have h0 : (η b').2 = .slice (some ⟨g, 0, none⟩) xs.length cap := h0
        have hg1 : (η b').1 = some g := by rw [r1, h0]; rfl
        have hk := hH.new b' g (by rw [hb]; simp) hg1
        refine ⟨some ⟨g, 0, none⟩, cap, by rw [hv, h0], hc1, hc2, (fun h => by cases h), .inr ⟨g, 0, cur, T, (0, 0), rfl, ⟨⟨hk.2, fun hlt => (hk.1 hlt).elim⟩, fun c hc he => ?_⟩, hg, ?_⟩⟩
        · rw [lk_rm] at hc
          split at hc
          · exact hc rfl
          · rename_i hne
            exact hne (hH.sep c b' g hc (by rw [hb]; simp) he hg1)
        · rw [List.drop_zero, hc4]
          exact RdF.imp (fun _ _ h => Rd.mono (fz_le (hp := hp) (nx := nx) (w0 := w0) (η := η) (w := w) b').ok (fun _ _ => rfl) h) r3
    · exact RC.mono (fz_le b) h
  · exact RC.mono (fz_le b) h

theorem fzL_sound {b : Nat} {T : TypeId} {d : D} {xs : List d.T} (hH : RepH w0 hp nx η w) (hb : lk hp b = some (.row T d xs)) : ∀ {l : List C} {m : List Value}, RL (RC (cxS w0 hp nx η w)) l m → RL (RC (cxS w0 (rm hp b) nx η w)) (l.map (fzC b d xs)) m
  | [], [], _ => trivial
  | _ :: _, _ :: _, ⟨h1, h2⟩ => ⟨fzC_sound hH hb h1, fzL_sound hH hb h2⟩
  | [], _ :: _, h => h.elim
  | _ :: _, [], h => h.elim
theorem fzT_sound {b : Nat} {T : TypeId} {d : D} {xs : List d.T} (hH : RepH w0 hp nx η w) (hb : lk hp b = some (.row T d xs)) : ∀ {l : List (Bool × List C)} {m : List Value}, RL (RP (cxS w0 hp nx η w)) l m → RL (RP (cxS w0 (rm hp b) nx η w)) (fzT b d xs l) m
  | [], [], _ => trivial
  | (g, l) :: _, _ :: _, ⟨h1, h2⟩ => by
    refine ⟨?_, fzT_sound hH hb h2⟩
    unfold RP at *
    cases g with
    | true =>
      simp only [if_true] at h1 ⊢
      obtain ⟨vs, e, h⟩ := h1
      exact ⟨vs, e, fzL_sound hH hb h⟩
    | false =>
      simp only [Bool.false_eq_true, if_false] at h1 ⊢
      obtain ⟨y, rfl, h⟩ := h1
      exact ⟨_, rfl, fzC_sound hH hb h⟩
  | [], _ :: _, h => h.elim
  | _ :: _, [], h => h.elim
theorem fzS_sound {b : Nat} {T : TypeId} {d : D} {xs : List d.T} (hH : RepH w0 hp nx η w) (hb : lk hp b = some (.row T d xs)) {s : SV} {v : Value} (h : RS (cxS w0 hp nx η w) s v) : RS (cxS w0 (rm hp b) nx η w) (fzS b d xs s) v := by
  cases s with
  | c x => exact fzC_sound hH hb h
  | agg l => obtain ⟨vs, e, h⟩ := h; exact ⟨vs, e, fzL_sound hH hb h⟩
  | tup l => obtain ⟨vs, e, h⟩ := h; exact ⟨vs, e, fzT_sound hH hb h⟩
  | un => trivial
  | arr d xs => exact h
end

/-- AN OWN ROW IS DATA FROM HERE ON. -/
theorem freeze_rule {E : En} {cur : FI} {t : List It} {fr : List (Nat × SV)} {hp : List (Nat × Ob)} {nx : Nat} {stk : List Fm} {b : Nat} {T : TypeId} {d : D} {xs : List d.T} (hb : lk hp b = some (.row T d xs))
    (hm : Mean E cur t ⟨fzF b d xs fr, fzH b d xs (rm hp b), nx⟩ stk) : Mean E cur t ⟨fr, hp, nx⟩ stk := by
  intro w0 η S a w hS hR
  have hle := fz_le (w0 := w0) (hp := hp) (nx := lt nx) (η := η) (w := w) b
  have hok : okS w0 (fzH b d xs (rm hp b)) η w = okS w0 (rm hp b) η w := by
    have : ∀ c, (lk (fzH b d xs (rm hp b)) c ≠ none) = (lk (rm hp b) c ≠ none) := fun c => by
      rw [eq_iff_iff]
      generalize rm hp b = h2
      induction h2 with
      | nil => simp [fzH]
      | cons p r ih =>
        obtain ⟨c', o⟩ := p
        cases o <;> simp only [fzH, lk] <;> split <;> simp_all
    funext k
    simp only [okS, this]
  have hcx : cxS w0 (fzH b d xs (rm hp b)) (lt nx) η w = cxS w0 (rm hp b) (lt nx) η w := by unfold cxS; rw [hok]
  have hdom : ∀ c o, lk (fzH b d xs (rm hp b)) c = some o → lk hp c ≠ none := fun c o h => by
    obtain ⟨o', h1, _⟩ := lk_fzH h
    rw [lk_rm] at h1
    split at h1
    · cases h1
    · rw [h1]; simp
  have hdom' : ∀ c, lk (fzH b d xs (rm hp b)) c ≠ none → lk hp c ≠ none := fun c h => by
    cases ho : lk (fzH b d xs (rm hp b)) c with
    | none => exact (h ho).elim
    | some o => exact hdom c o ho
  have hH := hR.1.1
  refine hm w0 η S a w hS ⟨⟨⟨fun c o ho => ?_, fun c e k h1 h2 => hH.sep c e k (hdom' c h1) (hdom' e h2), fun c k h1 => hH.new c k (hdom' c h1), fun c h1 => hH.nxt c (hdom' c h1), hH.bel⟩, hR.1.2⟩, ?_, fun p hp => ⟨?_, (hR.2.2 p hp).2⟩⟩
  · rw [hcx]
    obtain ⟨o', h1, h2⟩ := lk_fzH ho
    rw [lk_rm] at h1
    split at h1
    · cases h1
    · have hob := hH.obs c o' h1
      have hc : lt nx c := hH.nxt c (by rw [h1]; simp)
      rcases h2 with rfl | ⟨T', l, rfl, rfl⟩
      · exact RO.mono hle hc (fun _ _ => rfl) hob
      · obtain ⟨k, vs, g1, g2, g3⟩ := hob
        exact ⟨k, vs, g1, g2, fzL_sound hH hb g3⟩
  · rw [hcx]
    refine ⟨fun t' sv ht => ?_, hR.2.1.siz, hR.2.1.dfr⟩
    rw [lk_fzF] at ht
    cases h : lk fr t' with
    | none => rw [h] at ht; cases ht
    | some s =>
      rw [h] at ht
      simp only [Option.map_some, Option.some.injEq] at ht
      subst ht
      obtain ⟨v, h1, h2⟩ := hR.2.1.sl t' s h
      exact ⟨v, h1, fzS_sound hH hb h2⟩
  · rw [hcx]
    exact RepF.mono hle (hR.2.2 p hp).1

/-! ### a state made weaker: slots forgotten, blocks named anew -/

abbrev Ren := List (Nat × Option Nat)

def mB (ρ : Ren) (b : Nat) (x : Option Nat) : Option Ren :=
  match lk ρ b with
  | some y => if y = x then some ρ else none
  | none => some ((b, x) :: ρ)

def mP (ρ : Ren) : List (Nat × Nat) → List (Nat × Nat) → Option (Ren × Prop)
  | [], [] => some (ρ, True)
  | (b, o) :: l, (b', o') :: l' => match mB ρ b (some b') with
    | some ρ => match mP ρ l l' with
      | some (ρ, p) => some (ρ, o = o' ∧ p)
      | none => none
    | none => none
  | _, _ => none
def mC (ρ : Ren) : C → C → Option (Ren × Prop)
  | .int k n, .int k' n' => if k = k' then some (ρ, n = n') else none
  | .bool b, .bool b' => some (ρ, b.v = b'.v)
  | .str s, .str s' => some (ρ, s = s')
  | .dat d xs, .dat d' xs' => if h : d' = d then some (ρ, xs = h ▸ xs') else none
  | .dat _ xs, .val (.slice none 0 0) => some (ρ, xs = [])
  | .pel d x o, .pel d' x' o' => if h : d' = d then some (ρ, x = h ▸ x' ∧ o = o') else none
  | .row b, .row b' => match mB ρ b (some b') with | some ρ => some (ρ, True) | none => none
  | .row b, .val (.slice none 0 0) => match mB ρ b none with | some ρ => some (ρ, True) | none => none
  | .ptr b o, .ptr b' o' => match mB ρ b (some b') with | some ρ => some (ρ, o = o') | none => none
  | .csl b n, .csl b' n' => match mB ρ b (some b') with | some ρ => some (ρ, n = n') | none => none
  | .sub b o sz n c, .sub b' o' sz' n' c' => match mB ρ b (some b') with | some ρ => some (ρ, o = o' ∧ sz = sz' ∧ n = n' ∧ c = c') | none => none
  | .mp b, .mp b' => match mB ρ b (some b') with | some ρ => some (ρ, True) | none => none
  | .chn b, .chn b' => match mB ρ b (some b') with | some ρ => some (ρ, True) | none => none
  | .bm f b o, .bm f' b' o' => match mB ρ b (some b') with | some ρ => some (ρ, f = f' ∧ o = o') | none => none
  | .val v, .val v' => some (ρ, v = v')
  | .fn f l, .fn f' l' => match mP ρ l l' with
    | some (ρ, p) => some (ρ, f = f' ∧ p)
    | none => none
  | _, _ => none

def mL (ρ : Ren) : List C → List C → Option (Ren × Prop)
  | [], [] => some (ρ, True)
  | c :: l, c' :: l' => match mC ρ c c' with
    | some (ρ, p) => match mL ρ l l' with
      | some (ρ, q) => some (ρ, p ∧ q)
      | none => none
    | none => none
  | _, _ => none

def mT (ρ : Ren) : List (Bool × List C) → List (Bool × List C) → Option (Ren × Prop)
  | [], [] => some (ρ, True)
  | (b, c) :: l, (b', c') :: l' => if b = b' then (match mL ρ c c' with
    | some (ρ, p) => match mT ρ l l' with
      | some (ρ, q) => some (ρ, p ∧ q)
      | none => none
    | none => none) else none
  | _, _ => none

def mS (ρ : Ren) : SV → SV → Option (Ren × Prop)
  | .c x, .c y => mC ρ x y
  | .agg l, .agg l' => mL ρ l l'
  | .tup l, .tup l' => mT ρ l l'
  | .un, _ => some (ρ, True)
  | .arr d xs, .arr d' xs' => if h : d' = d then some (ρ, xs = h ▸ xs') else none
  | _, _ => none

def mF (ρ : Ren) : List (Nat × SV) → List (Nat × SV) → Option (Ren × Prop)
  | [], _ => some (ρ, True)
  | (t, s) :: l, fr => match lk fr t with
    | some s' => match mS ρ s s' with
      | some (ρ, p) => match mF ρ l fr with
        | some (ρ, q) => some (ρ, p ∧ q)
        | none => none
      | none => none
    | none => none

def mK (ρ : Ren) : List Fm → Option (Ren × Prop)
  | [] => some (ρ, True)
  | f :: s => match mF ρ f.fr f.fr with
    | some (ρ, p) => match mK ρ s with
      | some (ρ, q) => some (ρ, p ∧ q)
      | none => none
    | none => none

def mO (ρ : Ren) : Ob → Ob → Option (Ren × Prop)
  | .cells T l, .cells T' l' => if T = T' then mL ρ l l' else none
  | .row T d xs, .row T' d' xs' => if T = T' then (if h : d' = d then some (ρ, xs = h ▸ xs') else none) else none
  | .wid T d xs c, .wid T' d' xs' c' => if T = T' then (if h : d' = d then some (ρ, xs = h ▸ xs' ∧ c = c') else none) else none
  | .chan c d xs s r, .chan c' d' xs' s' r' => if h : d' = d then some (ρ, c = c' ∧ xs = h ▸ xs' ∧ s = s' ∧ r = r') else none
  | .sit s p, .sit s' p' => some (ρ, s = s' ∧ p = p')
  | .itr m n seen, .itr m' n' seen' => match mB ρ m (some m') with | some ρ => some (ρ, n = n' ∧ seen = seen') | none => none
  | .dmp T kd vd es, .dmp T' kd' vd' es' => if T = T' then (if h : kd' = kd ∧ vd' = vd then some (ρ, es = h.1 ▸ h.2 ▸ es') else none) else none
  | _, _ => none

def mH (ρ : Ren) : List (Nat × Ob) → List (Nat × Ob) → Option (Ren × Prop)
  | [], _ => some (ρ, True)
  | (b, o) :: l, hp => match lk ρ b with
    | some (some b') => match lk hp b' with
      | some o' => match mO ρ o o' with
        | some (ρ, p) => match mH ρ l hp with
          | some (ρ, q) => some (ρ, p ∧ q)
          | none => none
        | none => none
      | none => none
    | some none => match o with
      | .row _ _ xs => match mH ρ l hp with
        | some (ρ, q) => some (ρ, xs = [] ∧ q)
        | none => none
      | _ => none
    | none => none

def small (n : Nat) : Ren → Bool
  | [] => true
  | (b, _) :: ρ => decide (b < n) && small n ρ

def dist : Ren → Bool
  | [] => true
  | (_, none) :: ρ => dist ρ
  | (_, some b) :: ρ => (ρ.all fun p => match p.2 with | some c => decide (c ≠ b) | none => true) && dist ρ

/-- the first state says no more than the second one -/
def sub (st st' : St) (stk : List Fm) : Prop :=
  match mF [] st.fr st'.fr with
  | some (ρ, p) => match mK ρ stk with
    | some (ρ, p2) => match mH ρ st.hp st'.hp with
      | some (ρ, q) => (small st.nx ρ && dist ρ) = true ∧ p ∧ p2 ∧ q
      | none => False
    | none => False
  | none => False

end OE

/- OE, part 8: a weaker state is weaker; the loop's rule. Own work; generic over the program. -/
namespace OE
open Go Go.RowKit

def RLe (ρ σ : Ren) : Prop := ∀ b x, lk ρ b = some x → lk σ b = some x
theorem RLe.refl (ρ : Ren) : RLe ρ ρ := fun _ _ h => h
theorem RLe.trans {ρ σ τ : Ren} (h : RLe ρ σ) (k : RLe σ τ) : RLe ρ τ := fun b x hx => k b x (h b x hx)

theorem mB_le {ρ ρ' : Ren} {b : Nat} {x : Option Nat} (h : mB ρ b x = some ρ') : RLe ρ ρ' ∧ lk ρ' b = some x := by
  unfold mB at h
  split at h
  · rename_i y hy
    split at h
    · rename_i e; subst e; cases h; exact ⟨RLe.refl _, hy⟩
    · cases h
  · rename_i hn
    cases h
    refine ⟨fun c z hc => ?_, by simp [lk]⟩
    simp only [lk]
    split
    · rename_i e; subst e; rw [hn] at hc; cases hc
    · exact hc

/-- how the blocks' names of the one state stand in the other one -/
structure Nm (σ : Ren) (x1 x2 : Cx) : Prop where
  w : x1.w = x2.w
  ok : ∀ k, x2.ok k → x1.ok k
  some_ : ∀ b b', lk σ b = some (some b') → x1.nm b ∧ x1.η b = x2.η b'
  none_ : ∀ b, lk σ b = some none → x1.nm b ∧ x1.η b = (none, .slice none 0 0)

theorem rd_nm {σ : Ren} {x1 x2 : Cx} (h : Nm σ x1 x2) {d : D} {y : d.T} {cs : List Value} (hr : Rd x2.w x2.ok d y cs) : Rd x1.w x1.ok d y cs :=
  Rd.mono h.ok (fun _ _ => by rw [h.w]) hr

theorem mP_sound : ∀ {ρ ρ' : Ren} {l l' : List (Nat × Nat)} {p : Prop}, mP ρ l l' = some (ρ', p) → RLe ρ ρ' ∧ ∀ {σ : Ren} {x1 x2 : Cx}, RLe ρ' σ → Nm σ x1 x2 → p → ∀ m : List Value,
    RL (fun (p : Nat × Nat) u => x2.nm p.1 ∧ ∃ k, (x2.η p.1).1 = some k ∧ u = .pointer (some ⟨k, p.2, none⟩)) l' m → RL (fun (p : Nat × Nat) u => x1.nm p.1 ∧ ∃ k, (x1.η p.1).1 = some k ∧ u = .pointer (some ⟨k, p.2, none⟩)) l m
  | ρ, ρ', [], [], p, h => by
    simp only [mP, Option.some.injEq, Prod.mk.injEq] at h
    obtain ⟨rfl, rfl⟩ := h
    exact ⟨RLe.refl _, fun _ _ _ m hm => by cases m with | nil => trivial | cons _ _ => exact hm.elim⟩
  | ρ, ρ', (b, o) :: l, (b', o') :: l', p, h => by
    simp only [mP] at h
    split at h
    · rename_i ρ1 h1
      split at h
      · rename_i ρ2 p2 h2
        cases h
        obtain ⟨a1, a2⟩ := mB_le h1
        obtain ⟨b1, b2⟩ := mP_sound h2
        refine ⟨a1.trans b1, fun hle hn hp m hm => ?_⟩
        obtain ⟨v, m', rfl, ⟨g1, k, g2, g3⟩, g4⟩ := rl_cons hm
        obtain ⟨k1, k2⟩ := hn.some_ _ _ (hle _ _ (b1 _ _ a2))
        exact ⟨⟨k1, k, by rw [k2]; exact g2, by rw [hp.1]; exact g3⟩, b2 hle hn hp.2 m' g4⟩
      · cases h
    · cases h
  | _, _, [], _ :: _, _, h => by simp [mP] at h
  | _, _, _ :: _, [], _, h => by simp [mP] at h

theorem mC_sound {ρ ρ' : Ren} {c c' : C} {p : Prop} (h : mC ρ c c' = some (ρ', p)) : RLe ρ ρ' ∧ ∀ {σ : Ren} {x1 x2 : Cx}, RLe ρ' σ → Nm σ x1 x2 → p → ∀ v, RC x2 c' v → RC x1 c v := by
  unfold mC at h
  split at h
  · split at h
    · rename_i e; subst e; cases h
      exact ⟨RLe.refl _, fun _ _ hp v hv => by subst hp; exact hv⟩
    · cases h
  · cases h
    exact ⟨RLe.refl _, fun _ _ hp v hv => by
      have hv : v = .bool _ := hv
      show v = .bool _
      rw [hp]; exact hv⟩
  · cases h
    exact ⟨RLe.refl _, fun _ _ hp v hv => by subst hp; exact hv⟩
  · split at h
    · rename_i e; subst e; cases h
      refine ⟨RLe.refl _, fun _ hn hp v hv => ?_⟩
      have hp : _ = _ := hp
      subst hp
      exact (rd_nm hn (show Rd _ _ (.list _) _ [v] from hv) : Rd _ _ (.list _) _ [v])
    · cases h
  · cases h
    refine ⟨RLe.refl _, fun _ hn hp v hv => ?_⟩
    subst hp
    obtain ⟨rfl, _⟩ := hv
    show Rd _ _ (.list _) [] _
    simp only [Rd]
    exact ⟨none, 0, rfl, by simp, by simp [maxLen], fun _ => rfl, .inl rfl⟩
  · split at h
    · rename_i e; subst e; cases h
      refine ⟨RLe.refl _, fun _ hn hp v hv => ?_⟩
      obtain ⟨hp, rfl⟩ := hp
      have hp : _ = _ := hp
      subst hp
      obtain ⟨k, o, cells, T, fz, cs, h1, h2, h3, h4, h5⟩ := hv
      exact ⟨k, o, cells, T, fz, cs, h1, hn.ok k h2, by rw [hn.w]; exact h3, rd_nm hn h4, h5⟩
    · cases h
  · split at h
    · rename_i ρ1 hb
      cases h
      obtain ⟨h1, h2⟩ := mB_le hb
      refine ⟨h1, fun hle hn _ v ⟨hv1, hv2, hv3⟩ => ?_⟩
      obtain ⟨g1, g2⟩ := hn.some_ _ _ (hle _ _ h2)
      exact ⟨g1, by rw [g2]; exact hv2, hv3⟩
    · cases h
  · split at h
    · rename_i ρ1 hb
      cases h
      obtain ⟨h1, h2⟩ := mB_le hb
      refine ⟨h1, fun hle hn _ v ⟨hv1, hv2⟩ => ?_⟩
      obtain ⟨g1, g2⟩ := hn.none_ _ (hle _ _ h2)
      exact ⟨g1, by rw [g2]; exact hv1, _, _, _, hv1⟩
    · cases h
  · split at h
    · rename_i ρ1 hb
      cases h
      obtain ⟨h1, h2⟩ := mB_le hb
      refine ⟨h1, fun hle hn hp v ⟨hv1, k, hv2, hv3⟩ => ?_⟩
      subst hp
      obtain ⟨g1, g2⟩ := hn.some_ _ _ (hle _ _ h2)
      exact ⟨g1, k, by rw [g2]; exact hv2, hv3⟩
    · cases h
  · split at h
    · rename_i ρ1 hb
      cases h
      obtain ⟨h1, h2⟩ := mB_le hb
      refine ⟨h1, fun hle hn hp v ⟨hv1, k, hv2, hv3⟩ => ?_⟩
      subst hp
      obtain ⟨g1, g2⟩ := hn.some_ _ _ (hle _ _ h2)
      exact ⟨g1, k, by rw [g2]; exact hv2, hv3⟩
    · cases h
  · split at h
    · rename_i ρ1 hb
      cases h
      obtain ⟨h1, h2⟩ := mB_le hb
      refine ⟨h1, fun hle hn hp v ⟨hv1, hv4, hv5, k, o', hv2, hv3⟩ => ?_⟩
      obtain ⟨rfl, rfl, rfl, rfl⟩ := hp
      obtain ⟨g1, g2⟩ := hn.some_ _ _ (hle _ _ h2)
      exact ⟨g1, hv4, hv5, k, o', by rw [g2]; exact hv2, hv3⟩
    · cases h
  · split at h
    · rename_i ρ1 hb
      cases h
      obtain ⟨h1, h2⟩ := mB_le hb
      refine ⟨h1, fun hle hn hp v ⟨hv1, k, hv2, hv3⟩ => ?_⟩
      obtain ⟨g1, g2⟩ := hn.some_ _ _ (hle _ _ h2)
      exact ⟨g1, k, by rw [g2]; exact hv2, hv3⟩
    · cases h
  · split at h
    · rename_i ρ1 hb
      cases h
      obtain ⟨h1, h2⟩ := mB_le hb
      refine ⟨h1, fun hle hn hp v ⟨hv1, k, hv2, hv3⟩ => ?_⟩
      obtain ⟨g1, g2⟩ := hn.some_ _ _ (hle _ _ h2)
      exact ⟨g1, k, by rw [g2]; exact hv2, hv3⟩
    · cases h
  · split at h
    · rename_i ρ1 hb
      cases h
      obtain ⟨h1, h2⟩ := mB_le hb
      refine ⟨h1, fun hle hn hp v ⟨hv1, k, hv2, hv3⟩ => ?_⟩
      obtain ⟨rfl, rfl⟩ := hp
      obtain ⟨g1, g2⟩ := hn.some_ _ _ (hle _ _ h2)
      exact ⟨g1, k, by rw [g2]; exact hv2, hv3⟩
    · cases h
  · cases h
    exact ⟨RLe.refl _, fun _ _ hp v hv => by subst hp; exact hv⟩
  · split at h
    · rename_i ρ1 p1 h1
      cases h
      obtain ⟨a1, a2⟩ := mP_sound h1
      refine ⟨a1, fun hle hn hp v hv => ?_⟩
      obtain ⟨rfl, hp⟩ := hp
      obtain ⟨vs, e, hl⟩ := hv
      exact ⟨vs, e, a2 hle hn hp _ hl⟩
    · cases h
  · cases h

theorem mL_sound : ∀ {ρ ρ' : Ren} {l l' : List C} {p : Prop}, mL ρ l l' = some (ρ', p) → RLe ρ ρ' ∧ ∀ {σ : Ren} {x1 x2 : Cx}, RLe ρ' σ → Nm σ x1 x2 → p → ∀ m, RL (RC x2) l' m → RL (RC x1) l m
  | ρ, ρ', [], [], p, h => by
    simp only [mL, Option.some.injEq, Prod.mk.injEq] at h
    obtain ⟨rfl, rfl⟩ := h
    exact ⟨RLe.refl _, fun _ _ _ m hm => by cases m with | nil => trivial | cons _ _ => exact hm.elim⟩
  | ρ, ρ', c :: l, c' :: l', p, h => by
    simp only [mL] at h
    split at h
    · rename_i ρ1 p1 h1
      split at h
      · rename_i ρ2 p2 h2
        cases h
        obtain ⟨a1, a2⟩ := mC_sound h1
        obtain ⟨b1, b2⟩ := mL_sound h2
        refine ⟨a1.trans b1, fun hle hn hp m hm => ?_⟩
        obtain ⟨v, m', rfl, g1, g2⟩ := rl_cons hm
        exact ⟨a2 (b1.trans hle) hn hp.1 v g1, b2 hle hn hp.2 m' g2⟩
      · cases h
    · cases h
  | _, _, [], _ :: _, _, h => by simp [mL] at h
  | _, _, _ :: _, [], _, h => by simp [mL] at h

theorem mT_sound : ∀ {ρ ρ' : Ren} {l l' : List (Bool × List C)} {p : Prop}, mT ρ l l' = some (ρ', p) → RLe ρ ρ' ∧ ∀ {σ : Ren} {x1 x2 : Cx}, RLe ρ' σ → Nm σ x1 x2 → p → ∀ m, RL (RP x2) l' m → RL (RP x1) l m
  | ρ, ρ', [], [], p, h => by
    simp only [mT, Option.some.injEq, Prod.mk.injEq] at h
    obtain ⟨rfl, rfl⟩ := h
    exact ⟨RLe.refl _, fun _ _ _ m hm => by cases m with | nil => trivial | cons _ _ => exact hm.elim⟩
  | ρ, ρ', (b, c) :: l, (b', c') :: l', p, h => by
    simp only [mT] at h
    split at h
    · rename_i hb
      subst hb
      split at h
      · rename_i ρ1 p1 h1
        split at h
        · rename_i ρ2 p2 h2
          cases h
          obtain ⟨a1, a2⟩ := mL_sound h1
          obtain ⟨b1, b2⟩ := mT_sound h2
          refine ⟨a1.trans b1, fun hle hn hp m hm => ?_⟩
          obtain ⟨v, m', rfl, g1, g2⟩ := rl_cons hm
          refine ⟨?_, b2 hle hn hp.2 m' g2⟩
          unfold RP at *
          cases b with
          | true =>
            simp only [if_true] at g1 ⊢
            obtain ⟨vs, e, hv⟩ := g1
            exact ⟨vs, e, a2 (b1.trans hle) hn hp.1 _ hv⟩
          | false =>
            simp only [Bool.false_eq_true, if_false] at g1 ⊢
            obtain ⟨y, rfl, hy⟩ := g1
            cases c with
            | nil => simp [mL] at h1
            | cons z c =>
              have hq := a2 (b1.trans hle) hn hp.1 [v] ⟨hy, trivial⟩
              cases c with
              | nil => exact ⟨z, rfl, hq.1⟩
              | cons _ _ => exact hq.2.elim
        · cases h
      · cases h
    · cases h
  | _, _, [], _ :: _, _, h => by simp [mT] at h
  | _, _, _ :: _, [], _, h => by simp [mT] at h

theorem mS_sound {ρ ρ' : Ren} {s s' : SV} {p : Prop} (h : mS ρ s s' = some (ρ', p)) : RLe ρ ρ' ∧ ∀ {σ : Ren} {x1 x2 : Cx}, RLe ρ' σ → Nm σ x1 x2 → p → ∀ v, RS x2 s' v → RS x1 s v := by
  unfold mS at h
  split at h
  · obtain ⟨h1, h2⟩ := mC_sound h
    exact ⟨h1, fun hle hn hp v hv => h2 hle hn hp v hv⟩
  · obtain ⟨h1, h2⟩ := mL_sound h
    exact ⟨h1, fun hle hn hp v ⟨vs, e, hv⟩ => ⟨vs, e, h2 hle hn hp _ hv⟩⟩
  · obtain ⟨h1, h2⟩ := mT_sound h
    exact ⟨h1, fun hle hn hp v ⟨vs, e, hv⟩ => ⟨vs, e, h2 hle hn hp _ hv⟩⟩
  · cases h
    exact ⟨RLe.refl _, fun _ _ _ _ _ => trivial⟩
  · rename_i d xs d' xs'
    by_cases hd : d' = d
    · subst hd
      simp only [dif_pos] at h
      simp only [Option.some.injEq, Prod.mk.injEq] at h
      obtain ⟨rfl, rfl⟩ := h
      exact ⟨RLe.refl _, fun hle hn hp v hv => by
        have hp : xs = xs' := hp
        subst hp
        exact hv⟩
    · rw [dif_neg hd] at h
      cases h
  · cases h

theorem mF_sound : ∀ {ρ ρ' : Ren} {l fr : List (Nat × SV)} {p : Prop}, mF ρ l fr = some (ρ', p) → RLe ρ ρ' ∧ ∀ {σ : Ren} {x1 x2 : Cx}, RLe ρ' σ → Nm σ x1 x2 → p → ∀ {nt : Nat} {a : Act}, RepF x2 nt fr a → RepF x1 nt l a
  | ρ, ρ', [], fr, p, h => by
    simp only [mF, Option.some.injEq, Prod.mk.injEq] at h
    obtain ⟨rfl, rfl⟩ := h
    exact ⟨RLe.refl _, fun _ _ _ _ _ hF => ⟨fun _ _ h => by simp [lk] at h, hF.siz, hF.dfr⟩⟩
  | ρ, ρ', (t, s) :: l, fr, p, h => by
    simp only [mF] at h
    split at h
    · rename_i s' hs'
      split at h
      · rename_i ρ1 p1 h1
        split at h
        · rename_i ρ2 p2 h2
          cases h
          obtain ⟨a1, a2⟩ := mS_sound h1
          obtain ⟨b1, b2⟩ := mF_sound h2
          refine ⟨a1.trans b1, fun hle hn hp nt a hF => ?_⟩
          obtain ⟨v, hv1, hv2⟩ := hF.sl t s' hs'
          exact cons_sound (b2 hle hn hp.2 hF) hv1 (a2 (b1.trans hle) hn hp.1 v hv2)
        · cases h
      · cases h
    · cases h

theorem mK_sound : ∀ {ρ ρ' : Ren} {stk : List Fm} {p : Prop}, mK ρ stk = some (ρ', p) → RLe ρ ρ' ∧ ∀ {σ : Ren} {x1 x2 : Cx}, RLe ρ' σ → Nm σ x1 x2 → p → ∀ f ∈ stk, ∀ {nt : Nat} {a : Act}, RepF x2 nt f.fr a → RepF x1 nt f.fr a
  | ρ, ρ', [], p, h => by
    simp only [mK, Option.some.injEq, Prod.mk.injEq] at h
    obtain ⟨rfl, rfl⟩ := h
    exact ⟨RLe.refl _, fun _ _ _ f hf => by cases hf⟩
  | ρ, ρ', g :: s, p, h => by
    simp only [mK] at h
    split at h
    · rename_i ρ1 p1 h1
      split at h
      · rename_i ρ2 p2 h2
        cases h
        obtain ⟨a1, a2⟩ := mF_sound h1
        obtain ⟨b1, b2⟩ := mK_sound h2
        refine ⟨a1.trans b1, fun hle hn hp f hf nt a hF => ?_⟩
        rcases List.mem_cons.1 hf with rfl | hf
        · exact a2 (b1.trans hle) hn hp.1 hF
        · exact b2 hle hn hp.2 f hf hF
      · cases h
    · cases h

theorem mO_sound {ρ ρ' : Ren} {o o' : Ob} {p : Prop} (h : mO ρ o o' = some (ρ', p)) : RLe ρ ρ' ∧ ∀ {σ : Ren} {x1 x2 : Cx}, RLe ρ' σ → Nm σ x1 x2 → p → ∀ b b', x1.η b = x2.η b' → RO x2 b' o' → RO x1 b o := by
  unfold mO at h
  split at h
  · split at h
    · rename_i e
      subst e
      obtain ⟨h1, h2⟩ := mL_sound h
      refine ⟨h1, fun hle hn hp b b' he ⟨k, vs, g1, g2, g3⟩ => ⟨k, vs, by rw [he]; exact g1, by rw [hn.w]; exact g2, h2 hle hn hp _ g3⟩⟩
    · cases h
  · split at h
    · rename_i e
      subst e
      split at h
      · rename_i e
        subst e
        cases h
        refine ⟨RLe.refl _, fun hle hn hp b b' he ⟨cs, g1, g2, g3⟩ => ?_⟩
        have hp : _ = _ := hp
        subst hp
        exact ⟨cs, by rw [he]; exact g1, by rw [he, hn.w]; exact g2, RdF.imp (fun _ _ h => rd_nm hn h) g3⟩
      · cases h
    · cases h
  · split at h
    · rename_i e
      subst e
      split at h
      · rename_i e
        subst e
        cases h
        refine ⟨RLe.refl _, fun hle hn hp b b' he ⟨k, cur, g1, g2, g3, g4, g5, g6⟩ => ?_⟩
        obtain ⟨hp, rfl⟩ := hp
        have hp : _ = _ := hp
        subst hp
        exact ⟨k, cur, by rw [he]; exact g1, by rw [hn.w]; exact g2, g3, g4, g5, RdF.imp (fun _ _ h => rd_nm hn h) g6⟩
      · cases h
    · cases h
  · split at h
    · rename_i e
      subst e
      cases h
      refine ⟨RLe.refl _, fun hle hn hp b b' he ⟨k, g1, g2⟩ => ?_⟩
      obtain ⟨rfl, hp, rfl, rfl⟩ := hp
      have hp : _ = _ := hp
      subst hp
      exact ⟨k, by rw [he]; exact g1, by rw [hn.w]; exact g2⟩
    · cases h
  · cases h
    refine ⟨RLe.refl _, fun hle hn hp b b' he ⟨k, g1, g2⟩ => ?_⟩
    obtain ⟨rfl, rfl⟩ := hp
    exact ⟨k, by rw [he]; exact g1, by rw [hn.w]; exact g2⟩
  · split at h
    · rename_i ρ1 hb
      cases h
      obtain ⟨h1, h2⟩ := mB_le hb
      refine ⟨h1, fun hle hn hp b b' he ⟨r, q, g1, g2, g3, g4⟩ => ?_⟩
      obtain ⟨rfl, rfl⟩ := hp
      obtain ⟨k1, k2⟩ := hn.some_ _ _ (hle _ _ h2)
      exact ⟨r, q, by rw [he]; exact g1, k1, by rw [k2]; exact g3, by rw [hn.w]; exact g4⟩
    · cases h
  · split at h
    · rename_i e
      subst e
      split at h
      · rename_i e
        obtain ⟨rfl, rfl⟩ := e
        cases h
        refine ⟨RLe.refl _, fun hle hn hp b b' he ⟨r, arr, g1, g2, g3, g4⟩ => ?_⟩
        have hp : _ = _ := hp
        subst hp
        exact ⟨r, arr, by rw [he]; exact g1, by rw [hn.w]; exact g2, g3, g4⟩
      · cases h
    · cases h
  · cases h

theorem mH_sound : ∀ {ρ ρ' : Ren} {l hp : List (Nat × Ob)} {p : Prop}, mH ρ l hp = some (ρ', p) → RLe ρ ρ' ∧ ∀ {σ : Ren} {x1 x2 : Cx}, RLe ρ' σ → Nm σ x1 x2 → p →
    ∀ b o, lk l b = some o → (∃ b' o', lk σ b = some (some b') ∧ lk hp b' = some o' ∧ (RO x2 b' o' → RO x1 b o)) ∨ (lk σ b = some none ∧ RO x1 b o)
  | ρ, ρ', [], hp, p, h => by
    simp only [mH, Option.some.injEq, Prod.mk.injEq] at h
    obtain ⟨rfl, rfl⟩ := h
    exact ⟨RLe.refl _, fun _ _ _ b o h => by simp [lk] at h⟩
  | ρ, ρ', (c, o) :: l, hp, p, h => by
    simp only [mH] at h
    split at h
    · rename_i b' hb'
      split at h
      · rename_i o' ho'
        split at h
        · rename_i ρ1 p1 h1
          split at h
          · rename_i ρ2 p2 h2
            cases h
            obtain ⟨a1, a2⟩ := mO_sound h1
            obtain ⟨b1, b2⟩ := mH_sound h2
            refine ⟨a1.trans b1, fun hle hn hp b o2 hlk => ?_⟩
            simp only [lk] at hlk
            split at hlk
            · rename_i e
              subst e
              cases hlk
              have hs := hle _ _ (b1 _ _ (a1 _ _ hb'))
              exact .inl ⟨b', o', hs, ho', a2 (b1.trans hle) hn hp.1 b b' (hn.some_ _ _ hs).2⟩
            · exact b2 hle hn hp.2 b o2 hlk
          · cases h
        · cases h
      · cases h
    · rename_i hb'
      split at h
      · rename_i T d xs
        split at h
        · rename_i ρ2 p2 h2
          cases h
          obtain ⟨b1, b2⟩ := mH_sound h2
          refine ⟨b1, fun hle hn hp b o2 hlk => ?_⟩
          simp only [lk] at hlk
          split at hlk
          · rename_i e
            subst e
            cases hlk
            have hs := hle _ _ (b1 _ _ hb')
            obtain ⟨g1, g2⟩ := hn.none_ _ hs
            refine .inr ⟨hs, [], by rw [g2]; rfl, ?_, ?_⟩
            · rw [g2, hp.1]
              exact World.ownsRow_nil _ 0 T d.sz
            · rw [hp.1]; rfl
          · exact b2 hle hn hp.2 b o2 hlk
        · cases h
      · cases h
    · cases h

theorem small_sound : ∀ {ρ : Ren} {n : Nat}, small n ρ = true → ∀ b x, lk ρ b = some x → b < n
  | [], _, _, _, _, h => by simp [lk] at h
  | (c, y) :: ρ, n, h, b, x, hb => by
    simp only [small, Bool.and_eq_true, decide_eq_true_eq] at h
    simp only [lk] at hb
    split at hb
    · rename_i e; subst e; exact h.1
    · exact small_sound h.2 b x hb

theorem lk_mem {α : Type} : ∀ {ρ : List (Nat × α)} {b : Nat} {x : α}, lk ρ b = some x → (b, x) ∈ ρ
  | [], _, _, h => by simp [lk] at h
  | (c, y) :: ρ, b, x, h => by
    simp only [lk] at h
    split at h
    · rename_i e; subst e; cases h; simp
    · exact List.mem_cons_of_mem _ (lk_mem h)

theorem dist_sound : ∀ {ρ : Ren}, dist ρ = true → ∀ b c x, lk ρ b = some (some x) → lk ρ c = some (some x) → b = c
  | [], _, _, _, _, h, _ => by simp [lk] at h
  | (d, none) :: ρ, h, b, c, x, hb, hc => by
    simp only [dist] at h
    simp only [lk] at hb hc
    split at hb
    · cases hb
    · split at hc
      · cases hc
      · exact dist_sound h b c x hb hc
  | (d, some y) :: ρ, h, b, c, x, hb, hc => by
    simp only [dist, Bool.and_eq_true, List.all_eq_true] at h
    have no : ∀ e, lk ρ e = some (some y) → False := fun e he => by
      have := h.1 (e, some y) (lk_mem he)
      simp at this
    simp only [lk] at hb hc
    split at hb
    · rename_i e1
      cases hb
      split at hc
      · rename_i e2; rw [e1, e2]
      · exact (no c hc).elim
    · split at hc
      · cases hc
        exact (no b hb).elim
      · exact dist_sound h.2 b c x hb hc

theorem sub_sound {st st' : St} {stk : List Fm} (h : sub st st' stk) {w0 : W0} {cur : FI} {S : List (Fm × Act)} (hS : S.map (·.1) = stk) {η : Nat → Option Nat × Value} {a : Act} {w : World} (hR : RepA w0 cur st' S η a w) :
    ∃ η', RepA w0 cur st S η' a w := by
  unfold sub at h
  split at h
  · rename_i ρ1 p1 h1
    split at h
    · rename_i ρ2 p2 h2
      split at h
      · rename_i σ p3 h3
        simp only [Bool.and_eq_true] at h
        obtain ⟨⟨hsm, hdi⟩, hp1, hp2, hp3⟩ := h
        obtain ⟨a1, a2⟩ := mF_sound h1
        obtain ⟨b1, b2⟩ := mK_sound h2
        obtain ⟨c1, c2⟩ := mH_sound h3
        let η' : Nat → Option Nat × Value := fun b => match lk σ b with
          | some (some b') => η b'
          | some none => (none, .slice none 0 0)
          | none => (none, undef)
        let x2 := cxS w0 st'.hp (lt st'.nx) η w
        let x1 : Cx := cxS w0 st.hp (lt st.nx) η' w
        have hnm0 : ∀ ok, (∀ k, x2.ok k → ok k) → Nm σ ⟨w, η', ok, lt st.nx⟩ x2 := fun ok hok =>
          ⟨rfl, hok, fun b b' hb => ⟨small_sound hsm b _ hb, by show (match lk σ b with | some (some b') => η b' | some none => (none, Value.slice none 0 0) | none => (none, undef)) = η b'; rw [hb]⟩,
            fun b hb => ⟨small_sound hsm b _ hb, by show (match lk σ b with | some (some b') => η b' | some none => (none, Value.slice none 0 0) | none => (none, undef)) = _; rw [hb]⟩⟩
        have hdom : ∀ b o, lk st.hp b = some o → (∃ b' o', lk σ b = some (some b') ∧ lk st'.hp b' = some o') ∨ lk σ b = some none := fun b o hb => by
          rcases c2 (RLe.refl _) (hnm0 (fun _ => True) (fun _ _ => trivial)) hp3 b o hb with ⟨b', o', g1, g2, _⟩ | ⟨g1, _⟩
          · exact .inl ⟨b', o', g1, g2⟩
          · exact .inr g1
        have hη : ∀ b k, lk st.hp b ≠ none → (η' b).1 = some k → ∃ b', lk σ b = some (some b') ∧ lk st'.hp b' ≠ none ∧ (η b').1 = some k := fun b k hb hk => by
          cases ho : lk st.hp b with
          | none => exact (hb ho).elim
          | some o =>
            have hk' : (match lk σ b with | some (some b') => η b' | some none => (none, Value.slice none 0 0) | none => (none, undef)).1 = some k := hk
            rcases hdom b o ho with ⟨b', o', g1, g2⟩ | g1
            · rw [g1] at hk'
              exact ⟨b', g1, by rw [g2]; simp, hk'⟩
            · rw [g1] at hk'; cases hk'
        have hok : ∀ k, x2.ok k → x1.ok k := fun k hk => ⟨hk.1, fun b hb he => by
          obtain ⟨b', _, g2, g3⟩ := hη b k hb he
          exact hk.2 b' g2 g3⟩
        have hnm : Nm σ x1 x2 := hnm0 _ hok
        refine ⟨η', ⟨⟨fun b o hb => ?_, fun b c k hb hc hbk hck => ?_, fun b k hb hk => ?_, fun b hb => ?_, hR.1.1.bel⟩, hR.1.2⟩, a2 (b1.trans c1) hnm hp1 hR.2.1, fun p hp => ⟨?_, (hR.2.2 p hp).2⟩⟩
        · rcases c2 (RLe.refl _) hnm hp3 b o hb with ⟨b', o', g1, g2, g3⟩ | ⟨_, g1⟩
          · exact g3 (hR.1.1.obs b' o' g2)
          · exact g1
        · obtain ⟨b', g1, g2, g3⟩ := hη b k hb hbk
          obtain ⟨c', e1, e2, e3⟩ := hη c k hc hck
          have := hR.1.1.sep b' c' k g2 e2 g3 e3
          subst this
          exact dist_sound hdi b c b' g1 e1
        · obtain ⟨b', g1, g2, g3⟩ := hη b k hb hk
          exact hR.1.1.new b' k g2 g3
        · cases ho : lk st.hp b with
          | none => exact (hb ho).elim
          | some o =>
            rcases hdom b o ho with ⟨b', o', g1, _⟩ | g1
            · exact small_sound hsm b _ g1
            · exact small_sound hsm b _ g1
        · have : p.1 ∈ stk := by rw [← hS]; exact List.mem_map_of_mem hp
          exact b2 c1 hnm hp2 p.1 this (hR.2.2 p hp).1
      · exact h.elim
    · exact h.elim
  · exact h.elim

/-- slots forgotten, blocks named anew -/
theorem weaken {E : En} {cur : FI} {t : List It} {st st' : St} {stk : List Fm} (h : sub st st' stk) (hm : Mean E cur t st stk) : Mean E cur t st' stk := by
  intro w0 η S a w hS hR
  obtain ⟨η', hR'⟩ := sub_sound h hS hR
  exact hm w0 η' S a w hS hR'

/-- A LOOP: what holds at each round's head, as a family of abstract states; a measure. -/
theorem loop_rule {E : En} {cur : FI} {c : Code} {r : List It} {st : St} {stk : List Fm} {α : Type} (I : α → Prop) (σ : α → St) (μ : α → Nat) (h0 : ∃ x, I x ∧ sub (σ x) st stk)
    (round : ∀ x, I x → Mean E cur (.code c :: .fin (fun st' => ∃ y, (I y ∧ μ y < μ x) ∧ sub (σ y) st' stk) :: r) (σ x) stk) : LoopOk E cur c r st stk := by
  refine ⟨?_⟩
  intro w0 η S a w hS hR
  obtain ⟨x0, hI0, hs0⟩ := h0
  obtain ⟨η0, hR0⟩ := sub_sound hs0 hS hR
  refine wp_loop_ghost (fun n a w => ∃ x η, I x ∧ μ x = n ∧ RepA w0 cur (σ x) S η a w) (μ x0) ⟨x0, η0, hI0, rfl, hR0⟩ ?_
  rintro n a w ⟨x, η, hI, rfl, hR⟩
  refine wp_mono (round x hI w0 η S a w hS hR) ?_
  intro e a' w' hq
  cases e with
  | normal =>
    obtain ⟨η1, st1, hR1, y, ⟨hy, hlt⟩, hs⟩ := hq
    obtain ⟨η2, hR2⟩ := sub_sound hs hS hR1
    exact ⟨μ y, hlt, y, η2, hy, rfl, hR2⟩
  | exit id => exact hq
  | goto l => exact hq
  | ret => exact hq
  | panic ch => exact hq
  | outgrown => exact hq


/-- A LOOP OF A FEW ROUNDS, gone through one by one. -/
def RoundsG (E : En) (cur : FI) (c : Code) (r : List It) (stk : List Fm) : Nat → St → Prop
  | 0 => fun _ => False
  | n + 1 => fun st => go E 100000 cur (.code c :: .fin (RoundsG E cur c r stk n) :: r) st stk
theorem unroll_rule {E : En} (hE : EnOk E) {cur : FI} {c : Code} {r : List It} {st : St} {stk : List Fm} (n : Nat) (h : RoundsG E cur c r stk n st) : LoopOk E cur c r st stk := by
  refine ⟨fun w0 η S a w hS hR => ?_⟩
  have key : ∀ n st η a w, RoundsG E cur c r stk n st → RepA w0 cur st S η a w → rnds E.P c (TW E.P w0 cur S (RR E.P w0 (Fin w0 E.post) cur S) r) n a w := by
    intro n
    induction n with
    | zero => intro st η a w h _; exact h.elim
    | succ n ih =>
      intro st η a w h hR
      unfold rnds
      refine wp_mono (go_sound hE _ _ _ _ _ h w0 η S a w hS hR) ?_
      intro e a' w' hq
      cases e with
      | normal =>
        obtain ⟨η1, st1, hR1, hq⟩ := hq
        exact ih st1 η1 a' w' hq hR1
      | exit id => exact hq
      | goto l => exact hq
      | ret => exact hq
      | panic ch => exact hq
      | outgrown => exact hq
  exact wp_loop_rounds n (key n st η a w h hR)

end OE

/- OE, part 9: a region that draws its order, whose operations are quiet or call by contract. Own work; generic over the program. -/
namespace OE
open Go Go.RowKit

/-- the region's rest, in the text's order, from a state -/
def QMean (E : En) (cur : FI) (all : Array Oper) (l : List Oper) (r : List It) (st : St) (stk : List Fm) : Prop :=
  ∀ w0 η S a w, S.map (·.1) = stk → RepA w0 cur st S η a w →
    wpQuiet E.P all (Below w.heap.size w) (fun a' => ∀ w', Below w.heap.size w w' → TW E.P w0 cur S (RR E.P w0 (Fin w0 E.post) cur S) r .normal a' w') l a

structure CallQ (E : En) (cur : FI) (f : Nat) (args : List SV) (all : Array Oper) (o : Oper) (l : List Oper) (r : List It) (st : St) (stk : List Fm) : Prop where
  out : (∃ args0, cl (ev st.fr) o.op = some (f, args0) ∧ args = args0.map nzS) → QMean E cur all (⟨o.dst, o.op, o.type, o.pos, o.after, none⟩ :: l) r st stk

/-- behind the region -/
structure AfterQ (E : En) (cur : FI) (r : List It) (st : St) (stk : List Fm) : Prop where
  out : Mean E cur r st stk

end OE
