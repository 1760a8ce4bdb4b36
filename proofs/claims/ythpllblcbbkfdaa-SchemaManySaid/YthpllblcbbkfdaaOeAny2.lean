/- OE, part 14: the executor for a region that draws its order. Own work; generic over the program. -/
import Derived.Test.YthpllblcbbkfdaaOeAny
set_option linter.unusedVariables false
namespace OE
open Go Go.RowKit

def kf (fr : List (Nat × SV)) : List Nat → List (Nat × SV)
  | [] => []
  | t :: l => match lk fr t with
    | some s => (t, s) :: kf fr l
    | none => kf fr l
theorem kf_sub {fr : List (Nat × SV)} : ∀ {l : List Nat} {t : Nat} {s : SV}, lk (kf fr l) t = some s → lk fr t = some s
  | [], t, s, h => by simp [kf, lk] at h
  | c :: l, t, s, h => by
    simp only [kf] at h
    split at h
    · rename_i u hu
      simp only [lk] at h
      split at h
      · rename_i e; subst e; cases h; exact hu
      · exact kf_sub h
    · exact kf_sub h
def kh (hp : List (Nat × Ob)) : List Nat → List (Nat × Ob)
  | [] => []
  | t :: l => match lk hp t with
    | some s => (t, s) :: kh hp l
    | none => kh hp l
theorem kh_sub {hp : List (Nat × Ob)} : ∀ {l : List Nat} {t : Nat} {s : Ob}, lk (kh hp l) t = some s → lk hp t = some s
  | [], t, s, h => by simp [kh, lk] at h
  | c :: l, t, s, h => by
    simp only [kh] at h
    split at h
    · rename_i u hu
      simp only [lk] at h
      split at h
      · rename_i e; subst e; cases h; exact hu
      · exact kh_sub h
    · exact kh_sub h

def nmsC : C → List Nat
  | .ptr b _ => [b]
  | .prw b _ _ _ => [b]
  | .row b => [b]
  | .mp b => [b]
  | .csl b _ => [b]
  | .sub b _ _ _ _ => [b]
  | .fn _ l => l.map (·.1)
  | .bm _ b _ => [b]
  | _ => []
def nmsL : List C → List Nat
  | [] => []
  | c :: l => nmsC c ++ nmsL l
def nmsS : SV → List Nat
  | .c x => nmsC x
  | .agg l => nmsL l
  | _ => []
def nmsF : List (Nat × SV) → List Nat
  | [] => []
  | (_, s) :: l => nmsS s ++ nmsF l
def opr : List Operand → List Nat
  | [] => []
  | .tmp t :: l => t :: opr l
  | _ :: l => opr l

def isG (l : List Oper) (j : Nat) : Bool := match l with
  | [] => false
  | o :: l => match o.guard with
    | some (i, _) => if i = j then true else isG l j
    | none => isG l j

def okN (nt : Nat) : List Oper → Bool
  | [] => true
  | o :: l => match o.dst with
    | none => okN nt l
    | some d => match Nat.ble (d + 1) nt with
      | true => okN nt l
      | false => false

/-- the operations that the j-th one guards can be gone through once -/
def sgb (all : List Oper) (j : Nat) : List Oper → Bool
  | [] => true
  | o :: l => match o.guard with
    | some (i, _) => match Nat.beq i j with
      | true => match okS' (segA j (o :: l)) with
        | true => match segB j (o :: l) with
          | p :: _ => match p.op with
            | .pick (.tmp c) _ _ => match nth all j with
              | some t => Nat.beq c t
              | none => false
            | _ => false
          | [] => false
        | false => false
      | false => sgb all j l
    | none => sgb all j l
def spG (all : List Oper) (j : Nat) : Bool := match isG all j with
  | true => match sgb all j all with
    | true => false
    | false => true
  | false => false

/-- what an operation yields is written down; a Bool that guards others is told apart at once -/
def putR (all : Array Oper) (j nt : Nat) (o : Oper) (fin : List (Nat × SV)) (hin : List (Nat × Ob)) (ch : List (Nat × Option Ob)) (fr : List (Nat × SV)) (hp : List (Nat × Ob)) (K : Rec → List (Nat × SV) → List (Nat × Ob) → Prop) : SV → Prop
  | .c (.bool (.sym b)) => match spG all.toList j with
    | true => spl b (fcF (fun fr' => fcH (fun hp' => K ⟨fin, hin, .c (.bool .tt), ch⟩ fr' hp') (apC hp ch)) (putF nt fr o.dst (.c (.bool .tt)))) (fcF (fun fr' => fcH (fun hp' => K ⟨fin, hin, .c (.bool .ff), ch⟩ fr' hp') (apC hp ch)) (putF nt fr o.dst (.c (.bool .ff))))
    | false => fcF (fun fr' => fcH (fun hp' => K ⟨fin, hin, .c (.bool (.sym b)), ch⟩ fr' hp') (apC hp ch)) (putF nt fr o.dst (.c (.bool (.sym b))))
  | v => fcF (fun fr' => fcH (fun hp' => K ⟨fin, hin, v, ch⟩ fr' hp') (apC hp ch)) (putF nt fr o.dst v)

theorem putR_out {all : Array Oper} {j nt : Nat} {o : Oper} {fin : List (Nat × SV)} {hin : List (Nat × Ob)} {ch : List (Nat × Option Ob)} {fr : List (Nat × SV)} {hp : List (Nat × Ob)} {K : Rec → List (Nat × SV) → List (Nat × Ob) → Prop} {v : SV}
    (h : putR all j nt o fin hin ch fr hp K v) : ∃ v', (∀ x u, RS x v u → RS x v' u) ∧ K ⟨fin, hin, v', ch⟩ (putF nt fr o.dst v') (apC hp ch) := by
  unfold putR at h
  split at h
  · rename_i b
    split at h
    · cases b with
      | true => have := h.1 rfl; rw [fcF_eq, fcH_eq] at this; exact ⟨.c (.bool .tt), fun x u hu => hu, this⟩
      | false => have := h.2 rfl; rw [fcF_eq, fcH_eq] at this; exact ⟨.c (.bool .ff), fun x u hu => hu, this⟩
    · rw [fcF_eq, fcH_eq] at h; exact ⟨_, fun x u hu => hu, h⟩
  · rw [fcF_eq, fcH_eq] at h; exact ⟨_, fun x u hu => hu, h⟩

/-- it is performed, wherever the slots are as told -/
def Wt (all : Array Oper) (o : Oper) (fin : List (Nat × SV)) (b : Bool) : Prop := ∀ (x : Cx) (nt : Nat) (a : Act), RepF x nt fin a → Region.wanted o (yielded all a.tmps) = b

/-- what is not ordered does not touch; but for one pair: what the later one writes, the earlier one may have read, to no other end -/
def Chk (E : En) (cur : FI) (all : Array Oper) (recs : List Rec) : Prop := chkFrom cur.nt none 0 [] all.toList recs = true ∨ ∃ x, chkFrom cur.nt x 0 [] all.toList recs = true ∧ XOk E cur all recs x

structure CallR (E : En) (cur : FI) (f : Nat) (args : List SV) (all : Array Oper) (o : Oper) (l : List Oper) (r : List It) (stk : List Fm) (n0 j : Nat) (recs : List Rec) (fin : List (Nat × SV)) (hin : List (Nat × Ob)) (fr : List (Nat × SV)) (hp : List (Nat × Ob)) : Prop where
  out : (∃ args0, cl (ev fin) o.op = some (f, args0) ∧ args = args0.map nzS) → Wt all o fin true → (∀ t s, lk fin t = some s → lk fr t = some s) → (∀ b ob, lk hin b = some ob → lk hp b = some ob) →
    RM E cur all (Chk E cur all) r stk n0 j (o :: l) recs fr hp

def perfR (E : En) (K : Rec → List (Nat × SV) → List (Nat × Ob) → Prop) (cur : FI) (all : Array Oper) (o : Oper) (l : List Oper) (r : List It) (stk : List Fm) (n0 j : Nat) (recs : List Rec) (fr : List (Nat × SV)) (hp : List (Nat × Ob)) (fin : List (Nat × SV)) (hin : List (Nat × Ob)) : Prop :=
  match qm E.ti hin (ev fin) o.op with
  | some ⟨_, p, v⟩ => pq p (fcS (fun v => putR all j cur.nt o fin hin [] fr hp K v) v)
  | none => match em E.ti hin (n0 + j) (ev fin) o.op with
    | some ⟨_, p, v, ch, _⟩ => pq p (fcS (fun v => putR all j cur.nt o fin hin ch fr hp K v) v)
    | none => match cl (ev fin) o.op with
      | some (f, args) => fcA (fun args => CallR E cur f args all o l r stk n0 j recs fin hin fr hp) (args.map nzS)
      | none => False

def inR (fr : List (Nat × SV)) (hp : List (Nat × Ob)) (ts : List Nat) (K : List (Nat × SV) → List (Nat × Ob) → Prop) : Prop :=
  fcN (fun fin => fcH (fun hin => K fin hin) (kh hp (nmsF fin))) (kf fr ts)
/-- what reads no block -/
def hpO (op : Op) (hp : List (Nat × Ob)) : List (Nat × Ob) := match op with
  | .move _ => []
  | .assign _ => []
  | .slice _ _ _ _ none => []
  | .fieldAddr _ _ _ => []
  | _ => hp
theorem hpO_sub {op : Op} {hp : List (Nat × Ob)} {b : Nat} {o : Ob} (h : lk (hpO op hp) b = some o) : lk hp b = some o := by
  unfold hpO at h
  split at h <;> first | exact h | (simp [lk] at h)
theorem inR_eq (fr : List (Nat × SV)) (hp : List (Nat × Ob)) (ts : List Nat) (K : List (Nat × SV) → List (Nat × Ob) → Prop) : inR fr hp ts K = K (kf fr ts) (kh hp (nmsF (kf fr ts))) := by
  unfold inR; rw [fcN_eq, fcH_eq]

/-- a call that is made only if C, in such a region -/
structure CallRG (E : En) (C : Prop) (f : Nat) (args : List SV) (K : SV → Prop) : Prop where
  out : ∃ s, K s ∧ args.all isDs = true ∧ (C → FnD E.P f args (fun r => r = s))

def perfRG (E : En) (nt : Nat) (C : Prop) (o : Oper) (fr : List (Nat × SV)) (fin : List (Nat × SV)) (hin : List (Nat × Ob)) (K : Rec → List (Nat × SV) → Prop) : Prop :=
  match qm E.ti hin (ev fin) o.op with
  | some ⟨_, p, v⟩ => pG C p (fcS (fun v => fcF (fun fr' => K ⟨fin, hin, v, []⟩ fr') (putF nt fr o.dst v)) v)
  | none => match cl (ev fin) o.op with
    | some (f, args) => fcA (fun args => fcA (fun args => CallRG E C f args (fun s => fcS (fun v => fcF (fun fr' => K ⟨fin, hin, v, []⟩ fr') (putF nt fr o.dst v)) s)) (args.map nzS)) args
    | none => False

def optT : Option Tmp → List Nat
  | none => []
  | some t => [t]
/-- the pick behind guarded operations -/
def pickR (nt : Nat) (w b : Bool) (fr fr' : List (Nat × SV)) (p : Oper) (ts : List Nat) (x y : Operand) (K : Rec → List (Nat × SV) → Prop) : Prop :=
  match mrgW w b fr fr' x y with
  | some v => fcS (fun v => fcN (fun fin => fcF (fun fr => K ⟨fin, [], v, []⟩ fr) (putF nt fr p.dst v)) (kf fr' (ts ++ opr p.op.operands.toList))) v
  | none => False

/-- guarded operations, each of which is wanted if C -/
def sgR (E : En) (nt : Nat) (all : List Oper) (hp : List (Nat × Ob)) : Nat → Nat × Bool → Prop → List Oper → List Rec → List (Nat × SV) → (List Rec → List (Nat × SV) → Prop) → Prop
  | 0, _, _, _, _, _, _ => False
  | _ + 1, _, _, [], recs, fr, K => K recs fr
  | n + 1, g, C, o :: l, recs, fr, K => match o.guard with
    | none => False
    | some (i, w) => match nth all i with
      | none => False
      | some t => match Nat.beq i g.1 with
        | true => match eqW w g.2 with
          | true => inR fr hp (t :: opr o.op.operands.toList) (fun fin hin => perfRG E nt C o fr fin hin (fun rc fr' => sgR E nt all hp n g C l (recs ++ [rc]) fr' K))
          | false => False
        | false => match lk fr t with
          | some (.c (.bool (.sym b))) => match segP fr all t i w (o :: l) with
            | some (p, x, y, l') => match okN nt (segA i (o :: l)) with
             | false => False
             | true => match p.guard with
              | none => False
              | some (i2, w2) => match Nat.beq i2 g.1 with
                | true => match eqW w2 g.2 with
                  | true => sgR E nt all hp n (i, w) (C ∧ b = w) (segA i (o :: l)) recs fr (fun recs fr' => pickR nt w b fr fr' p (optT (nth all i2)) x y (fun rc fr => sgR E nt all hp n g C l' (recs ++ [rc]) fr K))
                  | false => False
                | false => False
            | none => False
          | _ => False

def goR (E : En) (cur : FI) (all : Array Oper) (r : List It) (stk : List Fm) (n0 : Nat) : Nat → Nat → List Oper → List Rec → List (Nat × SV) → List (Nat × Ob) → Prop
  | 0, _, _, _, _, _ => False
  | _ + 1, j, [], recs, fr, hp => Chk E cur all recs ∧ AfterQ E cur r ⟨fr, hp, n0 + j⟩ stk
  | n + 1, j, o :: l, recs, fr, hp => match o.guard with
    | none => inR fr (hpO o.op hp) (opr o.op.operands.toList) (fun fin hin => perfR E (fun rc => goR E cur all r stk n0 n (j + 1) l (recs ++ [rc])) cur all o l r stk n0 j recs fr hp fin hin)
    | some (i, want) => match nth all.toList i with
      | some t => match lk fr t with
        | some (.c (.bool .tt)) => match want with
          | true => inR fr hp (t :: opr o.op.operands.toList) (fun fin hin => perfR E (fun rc => goR E cur all r stk n0 n (j + 1) l (recs ++ [rc])) cur all o l r stk n0 j recs fr hp fin hin)
          | false => fcF (fun fr' => goR E cur all r stk n0 n (j + 1) l (recs ++ [⟨[(t, .c (.bool .tt))], [], .tup [], []⟩]) fr' hp) (putF cur.nt fr o.dst (.tup []))
        | some (.c (.bool .ff)) => match want with
          | false => inR fr hp (t :: opr o.op.operands.toList) (fun fin hin => perfR E (fun rc => goR E cur all r stk n0 n (j + 1) l (recs ++ [rc])) cur all o l r stk n0 j recs fr hp fin hin)
          | true => fcF (fun fr' => goR E cur all r stk n0 n (j + 1) l (recs ++ [⟨[(t, .c (.bool .ff))], [], .tup [], []⟩]) fr' hp) (putF cur.nt fr o.dst (.tup []))
        | some (.tup m) => fcF (fun fr' => goR E cur all r stk n0 n (j + 1) l (recs ++ [⟨[(t, .tup m)], [], .tup [], []⟩]) fr' hp) (putF cur.nt fr o.dst (.tup []))
        | some (.c (.bool (.sym b))) => match segP fr all.toList t i want (o :: l) with
          | some (p, x, y, l') => match okN cur.nt (segA i (o :: l)) with
           | false => False
           | true => match p.guard with
            | none => sgR E cur.nt all.toList hp 1000 (i, want) (b = want) (segA i (o :: l)) recs fr (fun recs fr' => pickR cur.nt want b fr fr' p [] x y (fun rc fr => goR E cur all r stk n0 n (j + (segA i (o :: l)).length + 1) l' (recs ++ [rc]) fr hp))
            | some _ => False
          | none => False
        | _ => False
      | none => False

section
variable {E : En} {cur : FI} {all : Array Oper} {o : Oper} {nn : Nat} {fin : List (Nat × SV)} {hin : List (Nat × Ob)}

theorem vld_skip (hw : Wt all o fin false) : Vld E cur all o nn ⟨fin, hin, .tup [], []⟩ := by
  intro w0 hp nm η a w fr hH hF hnn hs hb K Q hK
  rw [if_neg (by rw [hw _ _ _ (hF.part hs)]; simp)]
  obtain ⟨g1, g2⟩ := RepH.wider (nm' := nmE nm nn (nn + 1)) (fun b hb => .inl hb) hH
  exact hK η w undef g1 g2 rs_undef

theorem vld_quiet (hE : EnOk E) (hw : Wt all o fin true) {q : Q} (hq : qm E.ti hin (ev fin) o.op = some q) (hp : OP q.pre) {v' : SV} (hv : ∀ x u, RS x q.v u → RS x v' u) : Vld E cur all o nn ⟨fin, hin, v', []⟩ := by
  intro w0 hp' nm η a w fr hH hF hnn hs hb K Q hK
  have hF' := hF.part hs
  rw [if_pos (hw _ _ _ hF')]
  left
  obtain ⟨h1, h2⟩ := qm_sound (P := E.P) hE.tab hH hb (ev_sound hF') hq
  obtain ⟨v, hv1, hy⟩ := h2 hp
  have hrun := hy w (Below.refl _ _)
  unfold Oper.wp
  rw [hrun, Oper.upon_value]
  obtain ⟨g1, g2⟩ := RepH.wider (nm' := nmE nm nn (nn + 1)) (fun b hb => .inl hb) hH
  exact hK η w v g1 g2 (RS.mono g2 (hv _ _ hv1))

theorem vld_effect (hE : EnOk E) (hw : Wt all o fin true) {e : OE.E} (he : em E.ti hin nn (ev fin) o.op = some e) (hp : OP e.pre) {v' : SV} (hv : ∀ x u, RS x e.v u → RS x v' u) : Vld E cur all o nn ⟨fin, hin, v', e.ch⟩ := by
  intro w0 hp' nm η a w fr hH hF hnn hs hb K Q hK
  have hF' := hF.part hs
  rw [if_pos (hw _ _ _ hF')]
  left
  obtain ⟨h1, h2⟩ := em_sound (P := E.P) hE.tab hnn hH hb (ev_sound hF') he
  obtain ⟨n, v, w', η', hrun, hn, hH', hle, hv1⟩ := h2 hp
  have hx := em_nx he
  obtain ⟨g1, g2⟩ := RepH.wider (nm' := nmE nm nn (nn + 1)) (fun b hb => by
    rcases hb with hb | hb
    · exact .inl hb
    · exact .inr ⟨hb.1, by omega⟩) hH'
  have hfin := hK η' w' v g1 (hle.trans g2) (RS.mono g2 (hv _ _ hv1))
  unfold Oper.wp
  rw [hrun]
  rcases hn with rfl | ⟨rfl, rfl⟩
  · rw [Oper.upon_value]; exact hfin
  · rw [Oper.upon_skip]; exact hfin

theorem vld_call {f : Nat} {args0 : List SV} {s : SV} (hw : Wt all o fin true) (hc : cl (ev fin) o.op = some (f, args0)) (hF : FnD E.P f (args0.map nzS) (fun r => r = s)) (hd : (args0.map nzS).all isDs = true) {v' : SV} (hv' : ∀ x u, RS x s u → RS x v' u) :
    Vld E cur all o nn ⟨fin, hin, v', []⟩ := by
  intro w0 hp nm η a w fr hH hFr hnn hs hb K Q hK
  have hFr' := hFr.part hs
  rw [if_pos (hw _ _ _ hFr')]
  left
  obtain ⟨⟨fn, hf1, hf2, hf3⟩, hF⟩ := hF
  obtain ⟨vs, hvs, hrun⟩ := run_call (E := E) (ev_sound hFr') hc hf1 hf2 hf3
  have hvs := nzs_sound hvs
  unfold Oper.wp
  rw [hrun, Oper.upon_enter]
  have hargs : RL (RS (DX w (okS w0 hp η w))) (args0.map nzS) vs.toList := rls_data (x := cxS w0 hp nm η w) (y := DX w (okS w0 hp η w)) (fun _ h => h) (fun _ _ => rfl) hd hvs
  refine (hF w (okS w0 hp η w) vs (fun k hk => hk.1.1) hargs).mono ?_
  rintro e w' ⟨s', v, rfl, rfl, hv, hb'⟩
  have hle := cx_below (w0 := w0) (hp := hp) (nx := nm) (η := η) hb'
  have hres : RS (cxS w0 hp nm η w') s' v := by
    refine RS.mono (x := DX w' fun k => (okS w0 hp η w k ∨ w.heap.size ≤ k) ∧ k < w'.heap.size) (y := cxS w0 hp nm η w') ⟨fun _ h => h.elim, fun _ h => h.elim, fun k hk => ?_, fun _ _ => rfl⟩ hv
    have hk : (okS w0 hp η w k ∨ w.heap.size ≤ k) ∧ k < w'.heap.size := hk
    refine ⟨⟨hk.2, fun hlt => ?_⟩, fun b hb he => ?_⟩
    · rcases hk.1 with h | h
      · exact h.1.2 hlt
      · have := hH.bel.size; omega
    · rcases hk.1 with h | h
      · exact h.2 b hb he
      · have := (hH.new b k hb he).2; omega
  obtain ⟨g1, g2⟩ := RepH.wider (nm' := nmE nm nn (nn + 1)) (fun b hb => .inl hb) (hH.below hb')
  exact hK η w' v g1 (hle.trans g2) (RS.mono g2 (hv' _ _ hres))
end


/-! ### fewer reads, more slots -/

structure LeR1 (a b : Rec) : Prop where
  f : ∀ t, t ∈ keys a.fin → t ∈ keys b.fin
  h : ∀ t, t ∈ keys a.hin → t ∈ keys b.hin
  c : ∀ t, t ∈ keys a.ch → t ∈ keys b.ch
  s : a = b ∨ (a.hin = [] ∧ a.ch = [])
theorem LeR1.refl (a : Rec) : LeR1 a a := ⟨fun _ h => h, fun _ h => h, fun _ h => h, .inl rfl⟩
def LeR (l m : List Rec) : Prop := RL LeR1 l m
theorem LeR.refl : ∀ l : List Rec, LeR l l
  | [] => trivial
  | a :: l => ⟨LeR1.refl a, LeR.refl l⟩
theorem LeR.app {a b c d : List Rec} (h : LeR a b) (k : LeR c d) : LeR (a ++ c) (b ++ d) := RL.app h k

theorem disj_of {l m : List Nat} (h : ∀ t, t ∈ l → t ∈ m → False) : disj l m = true := by
  induction l with
  | nil => rfl
  | cons a l ih =>
    simp only [disj, Bool.and_eq_true, Bool.not_eq_true', List.contains_eq_mem, decide_eq_false_iff_not]
    exact ⟨fun hm => h a (by simp) hm, ih fun t ht hm => h t (by simp [ht]) hm⟩
theorem disj_mono {l l' m m' : List Nat} (hl : ∀ t, t ∈ l' → t ∈ l) (hm : ∀ t, t ∈ m' → t ∈ m) (h : disj l m = true) : disj l' m' = true :=
  disj_of fun t h1 h2 => disj_spec h t (hl t h1) (hm t h2)
theorem apart_mono {nt : Nat} {oi oj : Oper} {ri ri' rj rj' : Rec} (hi : LeR1 ri' ri) (hj : LeR1 rj' rj) (h : apart1 nt oi ri oj rj = true) : apart1 nt oi ri' oj rj' = true := by
  simp only [apart1, Bool.and_eq_true] at h ⊢
  obtain ⟨h1, h2, h3, h4, h5, h6⟩ := h
  exact ⟨disj_mono (fun _ h => h) hj.f h1, h2, disj_mono (fun _ h => h) hi.f h3, disj_mono hi.c hj.h h4, disj_mono hi.c hj.c h5, disj_mono hj.c hi.h h6⟩
theorem apartS_mono {nt : Nat} {oi oj : Oper} {ri ri' rj rj' : Rec} (hi : LeR1 ri' ri) (hj : LeR1 rj' rj) (h : apartS nt oi ri oj rj = true) : apartS nt oi ri' oj rj' = true := by
  simp only [apartS, Bool.and_eq_true] at h ⊢
  obtain ⟨h1, h2, h3, h4, h5⟩ := h
  exact ⟨disj_mono (fun _ h => h) hj.f h1, h2, disj_mono (fun _ h => h) hi.f h3, disj_mono hi.c hj.h h4, disj_mono hi.c hj.c h5⟩
theorem apart_full {nt : Nat} {oi oj : Oper} {ri rj : Rec} (h : apartS nt oi ri oj rj = true) (h2 : ri.hin = [] ∨ rj.ch = []) : apart1 nt oi ri oj rj = true := by
  simp only [apart1, apartS, Bool.and_eq_true] at h ⊢
  obtain ⟨h1, h2', h3, h4, h5⟩ := h
  refine ⟨h1, h2', h3, h4, h5, disj_of fun t ht1 ht2 => ?_⟩
  rcases h2 with e | e
  · rw [e] at ht2; cases ht2
  · rw [e] at ht1; cases ht1

def PreLe : List (Nat × Oper × Rec) → List (Nat × Oper × Rec) → Prop := RL fun a b => a.1 = b.1 ∧ a.2.1 = b.2.1 ∧ LeR1 a.2.2 b.2.2
/-- one pair may be left out where one of the two does not read or write -/
def XLe (x x' : Option (Nat × Nat)) (k : Nat) (rs : List Rec) (pre : List (Nat × Oper × Rec)) : Prop :=
  x' = x ∨ (x' = none ∧ ∀ i j, x = some (i, j) → (∀ p ∈ pre, p.1 = i → p.2.2.hin = []) ∧ (∀ m r, k + m = i → rs[m]? = some r → r.hin = []) ∨ (∀ m r, k + m = j → rs[m]? = some r → r.ch = []))
theorem chk_mono {nt : Nat} {x x' : Option (Nat × Nat)} : ∀ {l : List Oper} {rs rs' : List Rec} {k : Nat} {pre pre' : List (Nat × Oper × Rec)}, LeR rs' rs → PreLe pre' pre → XLe x x' k rs' pre' → chkFrom nt x k pre l rs = true → chkFrom nt x' k pre' l rs' = true
  | [], [], [], _, _, _, _, _, _, _ => rfl
  | o :: l, r :: rs, r' :: rs', k, pre, pre', ⟨h1, h2⟩, hp, hx, h => by
    simp only [chkFrom, Bool.and_eq_true] at h ⊢
    refine ⟨⟨h.1.1, ?_⟩, chk_mono (pre := (k, o, r) :: pre) h2 ⟨⟨rfl, rfl, h1⟩, hp⟩ ?_ h.2⟩
    · have hall := h.1.2
      have hx0 : x' = x ∨ (x' = none ∧ ∀ i, x = some (i, k) → (∀ p ∈ pre', p.1 = i → p.2.2.hin = []) ∨ r'.ch = []) := by
        rcases hx with hx | ⟨hx, hx2⟩
        · exact .inl hx
        · refine .inr ⟨hx, fun i hi => ?_⟩
          rcases hx2 i k hi with h | h
          · exact .inl h.1
          · exact .inr (h 0 r' (by omega) rfl)
      clear hx h h2
      induction pre' generalizing pre with
      | nil => rfl
      | cons a m ih =>
        cases pre with
        | nil => exact hp.elim
        | cons b q =>
          obtain ⟨⟨e1, e2, e3⟩, hl⟩ := hp
          simp only [List.all_cons, Bool.and_eq_true] at hall ⊢
          refine ⟨?_, ih q hl hall.2 ?_⟩
          · have hg := hall.1
            rw [← e1, ← e2] at hg
            simp only [Bool.or_eq_true, Bool.and_eq_true] at hg ⊢
            rcases hg with g | g | ⟨g1, g2⟩
            · exact .inl g
            · exact .inr (.inl (apart_mono e3 h1 g))
            · rcases hx0 with hx0 | ⟨_, hx0⟩
              · exact .inr (.inr ⟨by rw [hx0]; exact g1, apartS_mono e3 h1 g2⟩)
              · refine .inr (.inl (apart_full (apartS_mono e3 h1 g2) ?_))
                rcases hx0 _ (isX_spec g1) with h | h
                · exact .inl (h a (by simp) rfl)
                · exact .inr h
          · rcases hx0 with hx0 | ⟨hx0, hx1⟩
            · exact .inl hx0
            · exact .inr ⟨hx0, fun i hi => (hx1 i hi).imp (fun h p hp => h p (by simp [hp])) id⟩
    · rcases hx with hx | ⟨hx, hx2⟩
      · exact .inl hx
      · refine .inr ⟨hx, fun i j hij => ?_⟩
        rcases hx2 i j hij with ⟨g1, g2⟩ | g
        · refine .inl ⟨fun p hp hpi => ?_, fun m q hm hq => g2 (m + 1) q (by omega) (by simpa using hq)⟩
          rcases List.mem_cons.1 hp with rfl | hp
          · exact g2 0 r' (by simpa using hpi) rfl
          · exact g1 p hp hpi
        · exact .inr fun m q hm hq => g (m + 1) q (by omega) (by simpa using hq)
  | [], _ :: _, _, _, _, _, _, _, _, h => by simp [chkFrom] at h
  | _ :: _, [], _, _, _, _, _, _, _, h => by simp [chkFrom] at h
  | [], [], _ :: _, _, _, _, h, _, _, _ => h.elim
  | _ :: _, _ :: _, [], _, _, _, h, _, _, _ => h.elim

theorem Chk.mono {E : En} {cur : FI} {all : Array Oper} {recs recs' : List Rec} (h : LeR recs' recs) (hc : Chk E cur all recs) : Chk E cur all recs' := by
  rcases hc with hc | ⟨x, hc, hx⟩
  · exact .inl (chk_mono (pre := []) (pre' := []) h trivial (.inl rfl) hc)
  · cases x with
    | none => exact .inl (chk_mono (pre := []) (pre' := []) h trivial (.inl rfl) hc)
    | some p =>
      obtain ⟨i, j⟩ := p
      obtain ⟨hij, oi, ri, rj, c, ob, g1, g2, g3, g4, g5⟩ := hx
      have hlen := RL.len h
      have at_ : ∀ (m : Nat) (q : Rec), recs[m]? = some q → ∃ q', recs'[m]? = some q' ∧ LeR1 q' q := fun m q hq => by
        have hm : m < recs'.length := by rw [hlen]; exact (List.getElem?_eq_some_iff.1 hq).1
        obtain ⟨q2, e1, e2⟩ := RL.get h (i := m) (a := recs'[m]) (by simp [hm])
        rw [hq] at e1
        cases e1
        exact ⟨recs'[m], by simp [hm], e2⟩
      obtain ⟨ri', a1, a2⟩ := at_ i ri g2
      obtain ⟨rj', b1, b2⟩ := at_ j rj g3
      rcases a2.s with rfl | ⟨hh, _⟩
      · rcases b2.s with rfl | ⟨_, hh⟩
        · exact .inr ⟨some (i, j), chk_mono (pre := []) (pre' := []) h trivial (.inl rfl) hc, hij, oi, _, _, c, ob, g1, a1, b1, g4, g5⟩
        · refine .inl (chk_mono (pre := []) (pre' := []) h trivial (.inr ⟨rfl, fun i' j' e => .inr fun m q hm hq => ?_⟩) hc)
          simp only [Option.some.injEq, Prod.mk.injEq] at e
          obtain ⟨rfl, rfl⟩ := e
          rw [show m = j from by omega, b1] at hq
          cases hq; exact hh
      · refine .inl (chk_mono (pre := []) (pre' := []) h trivial (.inr ⟨rfl, fun i' j' e => .inl ⟨fun p hp => (by cases hp), fun m q hm hq => ?_⟩⟩) hc)
        simp only [Option.some.injEq, Prod.mk.injEq] at e
        obtain ⟨rfl, rfl⟩ := e
        rw [show m = i from by omega, a1] at hq
        cases hq; exact hh

def SubF (fr fr' : List (Nat × SV)) : Prop := ∀ t s, lk fr t = some s → lk fr' t = some s
theorem SubF.put {fr fr' : List (Nat × SV)} (h : SubF fr fr') (nt : Nat) (dst : Option Tmp) (v : SV) : SubF (putF nt fr dst v) (putF nt fr' dst v) := by
  intro t s ht
  rw [lk_putF] at ht ⊢
  unfold slotW at ht ⊢
  cases dst with
  | none => exact h t s ht
  | some d =>
    dsimp only at ht ⊢
    split
    · rename_i hd
      rw [if_pos hd] at ht
      simp only [asg] at ht ⊢
      split
      · rename_i e; rw [if_pos e] at ht; exact ht
      · rename_i e; rw [if_neg e] at ht; exact h t s ht
    · rename_i hd
      rw [if_neg hd] at ht
      exact h t s ht

theorem rm_mono {E : En} {cur : FI} {all : Array Oper} {r : List It} {stk : List Fm} {n0 : Nat} : ∀ {l : List Oper} {j : Nat} {recs recs' : List Rec} {fr fr' : List (Nat × SV)} {hp : List (Nat × Ob)}, LeR recs' recs → SubF fr fr' →
    RM E cur all (Chk E cur all) r stk n0 j l recs fr hp → RM E cur all (Chk E cur all) r stk n0 j l recs' fr' hp
  | [], j, recs, recs', fr, fr', hp, hr, hf, ⟨h1, h2⟩ => by
    refine ⟨Chk.mono hr h1, fun w0 η S a w hS hR => ?_⟩
    exact h2 w0 η S a w hS ⟨hR.1, hR.2.1.part hf, hR.2.2⟩
  | o :: l, j, recs, recs', fr, fr', hp, hr, hf, ⟨rc, h1, h2, h3, h4⟩ =>
    ⟨rc, h1, fun t s ht => hf t s (h2 t s ht), h3, rm_mono (LeR.app hr (LeR.refl [rc])) (hf.put _ _ _) h4⟩

theorem lk_put_ne {nt : Nat} {fr : List (Nat × SV)} {dst : Option Tmp} {v : SV} {s : Nat} (h : dst ≠ some s) : lk (putF nt fr dst v) s = lk fr s := by
  unfold putF
  cases dst with
  | none => rfl
  | some d =>
    dsimp only
    split
    · simp only [lk]; rw [if_neg (fun e => h (by rw [e]))]
    · rfl

/-- guarded operations that are left out -/
theorem rm_skip {E : En} {cur : FI} {all : Array Oper} {r : List It} {stk : List Fm} {n0 : Nat} {hp : List (Nat × Ob)} {fr0 : List (Nat × SV)} {t : Nat} {want b : Bool} (hb : b ≠ want) {rest : List Oper} :
    ∀ {l : List Oper} {ds : List Nat} {j : Nat} {recs extra : List Rec} {fr : List (Nat × SV)}, skB fr0 all.toList t want ds l = true → okN cur.nt l = true → lk fr t = some (.c (.bool (.sym b))) → (∀ d ∈ ds, lk fr d = some (.tup [])) → (∀ d ∈ ds, d ≠ t) →
      RL (fun (o : Oper) (rc : Rec) => ∃ i w s, o.guard = some (i, w) ∧ nth all.toList i = some s ∧ s ∈ keys rc.fin) l extra →
      (∀ skips fr', LeR skips extra → (∀ s, (∀ o ∈ l, o.dst ≠ some s) → lk fr' s = lk fr s) → RM E cur all (Chk E cur all) r stk n0 (j + l.length) rest (recs ++ skips) fr' hp) →
      RM E cur all (Chk E cur all) r stk n0 j (l ++ rest) recs fr hp
  | [], ds, j, recs, [], fr, _, _, _, _, _, _, h => by simpa using h [] fr trivial (fun _ _ => rfl)
  | [], _, _, _, _ :: _, _, _, _, _, _, _, h, _ => h.elim
  | _ :: _, _, _, _, [], _, _, _, _, _, _, h, _ => h.elim
  | o :: l, ds, j, recs, e :: extra, fr, hk, hN, hv, hds, hdt, ⟨⟨i, w, s, hg, hs, hse⟩, hl⟩, h => by
    unfold skB at hk
    rw [hg] at hk
    dsimp only at hk
    rw [hs] at hk
    dsimp only at hk
    have hs' : (all[i]?).bind (·.dst) = some s := by rw [← Array.getElem?_toList, ← nth_eq]; exact hs
    split at hk
    · cases hk
    · rename_i hok
      have hcl : (∃ ds', skB fr0 all.toList t want ds' l = true ∧ okN cur.nt l = true ∧ (∀ d ∈ ds', lk (putF cur.nt fr o.dst (.tup [])) d = some (.tup [])) ∧ (∀ d ∈ ds', d ≠ t)) ∧ o.dst ≠ some t := by
        split at hk
        · rename_i hd
          rw [hd]
          unfold okN at hN
          rw [hd] at hN
          exact ⟨⟨ds, hk, hN, hds, hdt⟩, by simp⟩
        · rename_i d hd
          rw [hd]
          split at hk
          · cases hk
          · rename_i hne
            have hne : d ≠ t := fun e => by subst e; simp at hne
            split at hk
            · cases hk
            · unfold okN at hN
              rw [hd] at hN
              dsimp only at hN
              split at hN
              · rename_i hle
                have hdn : d < cur.nt := Nat.le_of_ble_eq_true hle
                refine ⟨⟨d :: ds, hk, hN, fun c hc => ?_, fun c hc => ?_⟩, fun e => hne (by cases e; rfl)⟩
                · by_cases e : c = d
                  · subst e
                    simp [putF, hdn, lk]
                  · rw [lk_put_ne (fun e' => e (by cases e'; rfl))]
                    rcases List.mem_cons.1 hc with h | h
                    · exact (e h).elim
                    · exact hds c h
                · rcases List.mem_cons.1 hc with rfl | h
                  · exact hne
                  · exact hdt c h
              · cases hN
      obtain ⟨⟨ds', k1, kN, k2, k3⟩, hot⟩ := hcl
      have hold : ∃ f0 : List (Nat × SV), (∀ c u, lk f0 c = some u → lk fr c = some u) ∧ (∀ c ∈ keys f0, c = s) ∧ Wt all o f0 false := by
        have one : ∀ u, lk fr s = some u → (∀ c u', lk [(s, u)] c = some u' → lk fr c = some u') ∧ ∀ c ∈ keys [(s, u)], c = s := by
          intro u hu
          refine ⟨fun c v hc => ?_, fun c hc => by simpa [keys] using hc⟩
          simp only [lk] at hc
          split at hc
          · rename_i e; subst e; cases hc; exact hu
          · cases hc
        split at hok
        · rename_i e
          have e := Nat.eq_of_beq_eq_true e
          subst e
          have := (eqW_iff _ _).1 hok
          subst this
          refine ⟨[(s, .c (.bool (.sym b)))], (one _ hv).1, (one _ hv).2, fun x nt a hF => ?_⟩
          obtain ⟨v, hv1, hv2⟩ := hF.sl s (.c (.bool (.sym b))) (by simp [lk])
          have hv2 : v = .bool b := hv2
          subst hv2
          simp [Region.wanted, hg, yielded_of hs' hv1, hb]
        · have hu := hds s (memN_mem hok)
          refine ⟨[(s, .tup [])], (one _ hu).1, (one _ hu).2, fun x nt a hF => ?_⟩
          obtain ⟨v, hv1, vs, rfl, _⟩ := hF.sl s (.tup []) (by simp [lk])
          simp [Region.wanted, hg, yielded_tup hs' hv1]
      obtain ⟨f0, f1, f2, hw⟩ := hold
      refine ⟨⟨f0, [], .tup [], []⟩, vld_skip hw, f1, fun b ob hb => by simp [lk] at hb, ?_⟩
      refine rm_skip hb k1 kN (by rw [lk_put_ne hot]; exact hv) k2 k3 hl fun skips fr' g1 g2 => ?_
      have := h (⟨f0, [], .tup [], []⟩ :: skips) fr' ⟨⟨fun t ht => by rw [f2 t ht]; exact hse, fun t ht => by simp [keys] at ht, fun t ht => by simp [keys] at ht, .inr ⟨rfl, rfl⟩⟩, g1⟩
        (fun s' hs' => by rw [g2 s' (fun o' ho' => hs' o' (by simp [ho'])), lk_put_ne (hs' o (by simp))])
      simpa [Nat.add_assoc, Nat.add_comm 1, apC] using this


theorem kf_keys {fr : List (Nat × SV)} : ∀ {l : List Nat} {c : Nat}, c ∈ keys (kf fr l) ↔ c ∈ l ∧ lk fr c ≠ none
  | [], c => by simp [kf, keys]
  | t :: l, c => by
    have ih := kf_keys (fr := fr) (l := l) (c := c)
    simp only [kf]
    cases h : lk fr t with
    | none =>
      dsimp only
      rw [ih]
      constructor
      · rintro ⟨h1, h2⟩; exact ⟨by simp [h1], h2⟩
      · rintro ⟨h1, h2⟩
        rcases List.mem_cons.1 h1 with rfl | h1
        · exact (h2 h).elim
        · exact ⟨h1, h2⟩
    | some u =>
      dsimp only
      have : keys ((t, u) :: kf fr l) = t :: keys (kf fr l) := rfl
      rw [this, List.mem_cons, ih]
      constructor
      · rintro (rfl | ⟨h1, h2⟩)
        · exact ⟨by simp, by rw [h]; simp⟩
        · exact ⟨by simp [h1], h2⟩
      · rintro ⟨h1, h2⟩
        rcases List.mem_cons.1 h1 with rfl | h1
        · exact .inl rfl
        · exact .inr ⟨h1, h2⟩
theorem kf_at {fr : List (Nat × SV)} {l : List Nat} {t : Nat} {u : SV} (h : lk fr t = some u) (ht : t ∈ l) : lk (kf fr l) t = some u := by
  have : t ∈ keys (kf fr l) := kf_keys.2 ⟨ht, by rw [h]; simp⟩
  cases hk : lk (kf fr l) t with
  | none =>
    exfalso
    have key : ∀ m : List (Nat × SV), t ∈ keys m → lk m t ≠ none := by
      intro m
      induction m with
      | nil => simp [keys]
      | cons p m ih =>
        obtain ⟨c, v⟩ := p
        simp only [keys, List.map_cons, List.mem_cons, lk]
        intro hm
        split
        · simp
        · rename_i hne
          exact ih (by rcases hm with hm | hm; exact (hne hm).elim; exact hm)
    exact key _ this hk
  | some v => rw [← kf_sub hk]; exact h.symm ▸ rfl

theorem opr_mem {t : Nat} : ∀ {l : List Operand}, .tmp t ∈ l → t ∈ opr l
  | .tmp s :: l, h => by
    simp only [opr, List.mem_cons] at h ⊢
    rcases h with h | h
    · cases h; exact .inl rfl
    · exact .inr (opr_mem h)
  | .const _ :: l, h => by
    exact opr_mem (l := l) (by simpa using h)
  | .func _ :: l, h => by
    exact opr_mem (l := l) (by simpa using h)
  | .global _ :: l, h => by
    exact opr_mem (l := l) (by simpa using h)

/-- an operand's value in a part of the frame that holds it -/
theorem ev_part {fr : List (Nat × SV)} {ts : List Nat} {o : Operand} (h : ∀ t, o = .tmp t → t ∈ ts) (hn : ev fr o ≠ .un ∨ ∀ t, o ≠ .tmp t) : ev (kf fr ts) o = ev fr o := by
  cases o with
  | tmp t =>
    simp only [ev]
    cases hl : lk fr t with
    | none => exfalso; rcases hn with hn | hn
              · simp [ev, hl] at hn
              · exact hn t rfl
    | some u => rw [kf_at hl (h t rfl)]
  | const v => rfl
  | func f => rfl
  | global g => rfl

theorem vld_pick {E : En} {cur : FI} {all : Array Oper} {p : Oper} {x y : Operand} {t nn : Nat} {b : Bool} {fin : List (Nat × SV)} {v : SV} (hp : p.op = .pick (.tmp t) x y) (hw : Wt all p fin true) (ht : lk fin t = some (.c (.bool (.sym b))))
    (hv : ∀ z u, RS z (ev fin (if b = true then x else y)) u → RS z v u) : Vld E cur all p nn ⟨fin, [], v, []⟩ := by
  intro w0 hp' nm η a w fr hH hF hnn hs hb K Q hK
  have hF' := hF.part hs
  rw [if_pos (hw _ _ _ hF')]
  left
  obtain ⟨u, g1, g2⟩ := hF'.sl _ _ ht
  have g2 : u = .bool b := g2
  subst g2
  refine pick_wp hp g1 ?_
  obtain ⟨k1, k2⟩ := RepH.wider (nm' := nmE nm nn (nn + 1)) (fun b hb => .inl hb) hH
  refine hK η w _ k1 k2 (RS.mono k2 (hv _ _ ?_))
  have := ev_sound hF' (if b = true then x else y)
  cases b <;> simpa using this

theorem mrg_not_un {b : Bool} {s t v : SV} (h : mrg b s t = some v) : s ≠ .un ∧ t ≠ .un := by
  unfold mrg at h
  split at h
  · simp
  · cases h

section
variable {E : En} (hE : EnOk E) {cur : FI} {all : Array Oper} {hp : List (Nat × Ob)} {r : List It} {stk : List Fm} {n0 : Nat}

/-- what is left out: how the records look -/
abbrev SkR (all : List Oper) : List Oper → List Rec → Prop := RL fun o rc => ∃ i w s, o.guard = some (i, w) ∧ nth all i = some s ∧ s ∈ keys rc.fin

theorem rl_app2 {α β : Type} {R : α → β → Prop} {a b : List α} {c d : List β} (h : RL R a c) (k : RL R b d) : RL R (a ++ b) (c ++ d) := RL.app h k

theorem put_some {nt : Nat} {fr : List (Nat × SV)} {dst : Option Tmp} {v : SV} {s : Nat} (h : lk fr s ≠ none) : lk (putF nt fr dst v) s ≠ none := by
  by_cases e : dst = some s
  · subst e
    simp only [putF]
    split
    · simp [lk]
    · exact h
  · rw [lk_put_ne e]; exact h

theorem perfRG_skip {C : Prop} (hC : ¬ C) {nt : Nat} {o : Oper} {fr fin : List (Nat × SV)} {hin : List (Nat × Ob)} {K : Rec → List (Nat × SV) → Prop} (h : perfRG E nt C o fr fin hin K) : ∃ v, K ⟨fin, hin, v, []⟩ (putF nt fr o.dst v) := by
  unfold perfRG at h
  split at h
  · rw [pG_eq, fcS_eq, fcF_eq] at h
    exact ⟨_, h.2⟩
  · split at h
    · rw [fcA_eq, fcA_eq] at h
      obtain ⟨s, h, _⟩ := h.out
      rw [fcS_eq, fcF_eq] at h
      exact ⟨_, h⟩
    · exact h.elim

theorem sgR_skip {nt : Nat} : ∀ (n : Nat) {g : Nat × Bool} {C : Prop} {l : List Oper} {recs : List Rec} {fr : List (Nat × SV)} {K : List Rec → List (Nat × SV) → Prop}, ¬ C → sgR E nt all.toList hp n g C l recs fr K →
    (∃ t, nth all.toList g.1 = some t ∧ lk fr t ≠ none) → ∃ extra fr', K (recs ++ extra) fr' ∧ SkR all.toList l extra ∧ ∀ s, lk fr s ≠ none → lk fr' s ≠ none
  | 0, _, _, _, _, _, _, _, h, _ => by unfold sgR at h; exact h.elim
  | n + 1, g, C, [], recs, fr, K, _, h, _ => by unfold sgR at h; exact ⟨[], fr, by simpa using h, trivial, fun _ h => h⟩
  | n + 1, g, C, o :: l, recs, fr, K, hC, h, ⟨tg, htg, hg⟩ => by
    unfold sgR at h
    split at h
    · exact h.elim
    · rename_i i w hgd
      split at h
      · exact h.elim
      · rename_i t ht
        split at h
        · rename_i hi
          have hi := Nat.eq_of_beq_eq_true hi
          subst hi
          split at h
          · rw [inR_eq] at h
            obtain ⟨v, hv⟩ := perfRG_skip hC h
            obtain ⟨ex, fr', h1, h2, h3⟩ := sgR_skip n hC hv ⟨tg, htg, put_some hg⟩
            refine ⟨_ :: ex, fr', by rw [List.append_assoc] at h1; exact h1, ⟨⟨_, w, t, hgd, ht, ?_⟩, h2⟩, fun s hs => h3 s (put_some hs)⟩
            rw [ht] at htg
            cases htg
            exact kf_keys.2 ⟨by simp, hg⟩
          · exact h.elim
        · split at h
          · rename_i b hlk
            split at h
            · rename_i p x y l' hseg
              split at h
              · exact h.elim
              · rename_i hN
                split at h
                · exact h.elim
                · rename_i i2 w2 hg2
                  split at h
                  · rename_i hi2
                    have hi2 := Nat.eq_of_beq_eq_true hi2
                    subst hi2
                    split at h
                    · obtain ⟨hl, hpop, hsk⟩ := segP_spec hseg
                      obtain ⟨ex, fr', h1, h2, h3⟩ := sgR_skip n (fun c => hC c.1) h ⟨t, ht, by rw [hlk]; simp⟩
                      unfold pickR at h1
                      split at h1
                      · rename_i v hv
                        rw [fcS_eq, fcN_eq, fcF_eq] at h1
                        obtain ⟨ex2, fr2, k1, k2, k3⟩ := sgR_skip n hC h1 ⟨tg, htg, put_some hg⟩
                        refine ⟨ex ++ _ :: ex2, fr2, by simpa using k1, ?_, fun s hs => k3 s (put_some hs)⟩
                        rw [hl]
                        refine rl_app2 h2 ⟨⟨_, w2, tg, hg2, htg, ?_⟩, k2⟩
                        rw [htg]
                        exact kf_keys.2 ⟨by simp [optT], h3 tg hg⟩
                      · exact h1.elim
                    · exact h.elim
                  · exact h.elim
            · exact h.elim
          · exact h.elim

theorem seg_sub {fr fr' : List (Nat × SV)} {l : List Oper} (hd : ∀ o ∈ l, ∀ s, o.dst = some s → lk fr s = none) (h : ∀ s, (∀ o ∈ l, o.dst ≠ some s) → lk fr' s = lk fr s) : SubF fr fr' := by
  intro t s ht
  rw [h t (fun o ho e => by rw [hd o ho t e] at ht; cases ht)]
  exact ht

include hE
theorem perfRG_run {C : Prop} (hC : C) {o : Oper} {fr fin : List (Nat × SV)} {hin : List (Nat × Ob)} {K : Rec → List (Nat × SV) → Prop} (h : perfRG E cur.nt C o fr fin hin K) (hw : Wt all o fin true) (nn : Nat) :
    ∃ v, K ⟨fin, hin, v, []⟩ (putF cur.nt fr o.dst v) ∧ Vld E cur all o nn ⟨fin, hin, v, []⟩ := by
  unfold perfRG at h
  split at h
  · rename_i hq
    rw [pG_eq, fcS_eq, fcF_eq] at h
    exact ⟨_, h.2, vld_quiet hE hw hq (h.1 hC) (fun _ _ h => h)⟩
  · split at h
    · rename_i f args hcl
      rw [fcA_eq, fcA_eq] at h
      obtain ⟨s, h, hd, hF⟩ := h.out
      rw [fcS_eq, fcF_eq] at h
      exact ⟨_, h, vld_call hw hcl (hF hC) hd (fun _ _ h => h)⟩
    · exact h.elim

omit hE in
/-- guarded operations, and the pick behind them -/
theorem seg_join {n : Nat} {i : Nat} {w b : Bool} {t : Nat} {p : Oper} {x y : Operand} {sg rest : List Oper} {recs : List Rec} {fr : List (Nat × SV)} {j : Nat} {C' : Prop} {ts : List Nat} {KK : List Rec → List (Nat × SV) → Prop}
    (hrun : C' → ∀ {K : List Rec → List (Nat × SV) → Prop} {rest : List Oper}, sgR E cur.nt all.toList hp n (i, w) C' sg recs fr K → (∀ recs' fr', K recs' fr' → (∀ s, (∀ o ∈ sg, o.dst ≠ some s) → lk fr' s = lk fr s) → RM E cur all (Chk E cur all) r stk n0 (j + sg.length) rest recs' fr' hp) →
      RM E cur all (Chk E cur all) r stk n0 j (sg ++ rest) recs fr hp)
    (hbw : b = w → C') (hnb : ¬ b = w → ¬ C') (ht : nth all.toList i = some t) (hlk : lk fr t = some (.c (.bool (.sym b)))) (hpop : p.op = .pick (.tmp t) x y) (hsk : skB fr all.toList t w [] sg = true) (hN : okN cur.nt sg = true)
    (hpw : ∀ f : List (Nat × SV), (∀ s ∈ ts, lk fr s ≠ none → lk f s = lk fr s) → Wt all p f true) (hts : ∀ s ∈ ts, lk fr s ≠ none)
    (h : sgR E cur.nt all.toList hp n (i, w) C' sg recs fr (fun recs fr' => pickR cur.nt w b fr fr' p ts x y (fun rc fr => KK (recs ++ [rc]) fr)))
    (hKK : ∀ recs' v, KK recs' (putF cur.nt fr p.dst v) → RM E cur all (Chk E cur all) r stk n0 (j + sg.length + 1) rest recs' (putF cur.nt fr p.dst v) hp) :
    RM E cur all (Chk E cur all) r stk n0 j (sg ++ p :: rest) recs fr hp := by
  have hdst := fun o ho s => skB_dst hsk o ho s
  have hops : p.op.operands.toList = [.tmp t, x, y] := by rw [hpop]; rfl
  -- the pick, where one operand is known
  have fin : ∀ (fc : List (Nat × SV)) (recs0 recs1 : List Rec) (f1 fr1 : List (Nat × SV)) (v : SV), mrgW w b fr fc x y = some v → KK (recs0 ++ [⟨kf fc (ts ++ opr p.op.operands.toList), [], v, []⟩]) (putF cur.nt fr p.dst v) → SubF fr f1 → SubF f1 fr1 → SubF fr fr1 → LeR recs1 recs0 →
      (∀ s, lk f1 s ≠ none → lk fc s ≠ none) → (∀ z u, RS z (ev f1 (if b = true then x else y)) u → RS z v u) → ev f1 (if b = true then x else y) ≠ .un → RM E cur all (Chk E cur all) r stk n0 (j + sg.length) (p :: rest) recs1 fr1 hp := by
    intro fc recs0 recs1 f1 fr1 v hv hk hs1 hs2 hs3 hle hks hval hne
    have hsel : ∀ s, (if b = true then x else y) = .tmp s → s ∈ ts ++ t :: opr [(if b = true then x else y)] := fun s hs => by
      simp only [List.mem_append, List.mem_cons]
      exact .inr (.inr (opr_mem (by rw [hs]; simp)))
    have hev : ev (kf f1 (ts ++ t :: opr [(if b = true then x else y)])) (if b = true then x else y) = ev f1 (if b = true then x else y) := ev_part hsel (.inl hne)
    refine ⟨⟨kf f1 (ts ++ t :: opr [(if b = true then x else y)]), [], v, []⟩, vld_pick hpop ?_ (kf_at (hs1 t _ hlk) (by simp)) (fun z u hu => hval z u (by rw [hev] at hu; exact hu)), fun c u hc => hs2 c u (kf_sub hc), fun _ _ hb => by simp [lk] at hb, ?_⟩
    · refine hpw _ fun s hs hn => ?_
      cases hf : lk fr s with
      | none => exact (hn hf).elim
      | some u => exact kf_at (hs1 s u hf) (by simp [hs])
    · have hle1 : LeR [⟨kf f1 (ts ++ t :: opr [(if b = true then x else y)]), [], v, []⟩] [⟨kf fc (ts ++ opr p.op.operands.toList), [], v, []⟩] := ⟨⟨fun c hc => ?_, fun _ h => h, fun _ h => h, .inr ⟨rfl, rfl⟩⟩, trivial⟩
      · exact rm_mono (LeR.app hle hle1) (hs3.put _ _ _) (hKK _ _ hk)
      obtain ⟨c1, c2⟩ := kf_keys.1 hc
      refine kf_keys.2 ⟨?_, hks c c2⟩
      rw [hops]
      have osub : ∀ {a b : List Operand}, (∀ o ∈ a, o ∈ b) → ∀ c ∈ opr a, c ∈ opr b := by
        intro a
        induction a with
        | nil => intro b _ c hc; simp [opr] at hc
        | cons o a ih =>
          intro b hab c hc
          cases o with
          | tmp s =>
            simp only [opr, List.mem_cons] at hc
            rcases hc with rfl | hc
            · exact opr_mem (hab _ (by simp))
            · exact ih (fun o ho => hab o (by simp [ho])) c hc
          | const _ => exact ih (fun o ho => hab o (by simp [ho])) c hc
          | func _ => exact ih (fun o ho => hab o (by simp [ho])) c hc
          | global _ => exact ih (fun o ho => hab o (by simp [ho])) c hc
      simp only [List.mem_append, List.mem_cons] at c1 ⊢
      rcases c1 with h | rfl | h
      · exact .inl h
      · exact .inr (opr_mem (by simp))
      · refine .inr (osub (a := [if b = true then x else y]) (fun o ho => ?_) c h)
        cases b <;> simp_all
  by_cases hbv : b = w
  · refine hrun (hbw hbv) h fun recs' fr' hK hag => ?_
    unfold pickR at hK
    split at hK
    · rename_i v hv
      rw [fcS_eq, fcN_eq, fcF_eq] at hK
      have hsub := seg_sub hdst hag
      have hmv : (∀ z u, RS z (ev fr' (if b = true then x else y)) u → RS z v u) ∧ ev fr' (if b = true then x else y) ≠ .un := by
        unfold mrgW at hv
        subst hbv
        cases b with
        | true => exact ⟨fun z u hu => mrg_sound hv (fun _ => by simpa using hu) (fun h => by cases h), by simpa using (mrg_not_un hv).1⟩
        | false => exact ⟨fun z u hu => mrg_sound hv (fun h => by cases h) (fun _ => by simpa using hu), by simpa using (mrg_not_un hv).2⟩
      exact fin fr' recs' recs' fr' fr' v hv hK hsub (fun _ _ h => h) hsub (LeR.refl _) (fun _ h => h) hmv.1 hmv.2
    · exact hK.elim
  · obtain ⟨extra, fc, hK, hSk, hks⟩ := sgR_skip n (hnb hbv) h ⟨t, ht, by rw [hlk]; simp⟩
    unfold pickR at hK
    split at hK
    · rename_i v hv
      rw [fcS_eq, fcN_eq, fcF_eq] at hK
      have hmv : (∀ z u, RS z (ev fr (if b = true then x else y)) u → RS z v u) ∧ ev fr (if b = true then x else y) ≠ .un := by
        unfold mrgW at hv
        cases w with
        | true =>
          have hb : b = false := by cases b <;> simp_all
          subst hb
          exact ⟨fun z u hu => mrg_sound hv (fun h => by cases h) (fun _ => by simpa using hu), by simpa using (mrg_not_un hv).2⟩
        | false =>
          have hb : b = true := by cases b <;> simp_all
          subst hb
          exact ⟨fun z u hu => mrg_sound hv (fun _ => by simpa using hu) (fun h => by cases h), by simpa using (mrg_not_un hv).1⟩
      refine rm_skip hbv hsk hN hlk (fun _ h => by cases h) (fun _ h => by cases h) hSk fun skips fr1 hle hag => ?_
      have hsub := seg_sub hdst hag
      exact fin fc (recs ++ extra) (recs ++ skips) fr fr1 v hv hK (fun _ _ h => h) hsub hsub (LeR.app (LeR.refl _) hle) hks hmv.1 hmv.2
    · exact hK.elim

omit hE in
theorem wt_of {o : Oper} {i t : Nat} {w b : Bool} (hg : o.guard = some (i, w)) (ht : nth all.toList i = some t) {f : List (Nat × SV)} (hf : lk f t = some (.c (.bool (.sym b)))) (hb : b = w) : Wt all o f true := by
  intro x nt a hF
  have ht : (all[i]?).bind (·.dst) = some t := by rw [← Array.getElem?_toList, ← nth_eq]; exact ht
  obtain ⟨v, hv1, hv2⟩ := hF.sl _ _ hf
  have hv2 : v = .bool b := hv2
  subst hv2
  simp [Region.wanted, hg, yielded_of ht hv1, hb]

theorem sgR_run : ∀ (n : Nat) {g : Nat × Bool} {C : Prop} {l : List Oper} {recs : List Rec} {fr : List (Nat × SV)} {K : List Rec → List (Nat × SV) → Prop} {j : Nat} {rest : List Oper}, C → sgR E cur.nt all.toList hp n g C l recs fr K →
    (∃ t b, nth all.toList g.1 = some t ∧ lk fr t = some (.c (.bool (.sym b))) ∧ b = g.2 ∧ ∀ o ∈ l, o.dst ≠ some t) →
    (∀ recs' fr', K recs' fr' → (∀ s, (∀ o ∈ l, o.dst ≠ some s) → lk fr' s = lk fr s) → RM E cur all (Chk E cur all) r stk n0 (j + l.length) rest recs' fr' hp) → RM E cur all (Chk E cur all) r stk n0 j (l ++ rest) recs fr hp
  | 0, _, _, _, _, _, _, _, _, _, h, _, _ => by unfold sgR at h; exact h.elim
  | n + 1, g, C, [], recs, fr, K, j, rest, _, h, _, hK => by
    unfold sgR at h
    exact hK recs fr h (fun _ _ => rfl)
  | n + 1, g, C, o :: l, recs, fr, K, j, rest, hC, h, ⟨tg, bg, htg, hbg, hbg2, hdg⟩, hK => by
    unfold sgR at h
    split at h
    · exact h.elim
    · rename_i i w hgd
      split at h
      · exact h.elim
      · rename_i t ht
        split at h
        · rename_i hi
          have hi := Nat.eq_of_beq_eq_true hi
          subst hi
          rw [ht] at htg
          cases htg
          split at h
          · rename_i hw
            have hw := (eqW_iff _ _).1 hw
            rw [inR_eq] at h
            obtain ⟨v, hv, hvld⟩ := perfRG_run hE hC h (wt_of hgd ht (kf_at hbg (by simp)) (hbg2.trans hw.symm)) (n0 + j)
            refine ⟨_, hvld, fun _ _ => kf_sub, fun _ _ => kh_sub, ?_⟩
            refine sgR_run n hC hv ⟨_, bg, ht, by rw [lk_put_ne (hdg o (by simp))]; exact hbg, hbg2, fun o' ho' => hdg o' (by simp [ho'])⟩ fun recs' fr' k1 k2 => ?_
            have := hK recs' fr' k1 (fun s hs => by rw [k2 s (fun o' ho' => hs o' (by simp [ho'])), lk_put_ne (hs o (by simp))])
            simpa [Nat.add_assoc, Nat.add_comm 1] using this
          · exact h.elim
        · split at h
          · rename_i b hlk
            split at h
            · rename_i p x y l' hseg
              split at h
              · exact h.elim
              · rename_i hN
                split at h
                · exact h.elim
                · rename_i i2 w2 hg2
                  split at h
                  · rename_i hi2
                    have hi2 := Nat.eq_of_beq_eq_true hi2
                    subst hi2
                    split at h
                    · rename_i hw2
                      have hw2 := (eqW_iff _ _).1 hw2
                      obtain ⟨hl, hpop, hsk⟩ := segP_spec hseg
                      have hin : ∀ s, (∀ o' ∈ o :: l, o'.dst ≠ some s) → (∀ o' ∈ segA i (o :: l), o'.dst ≠ some s) ∧ p.dst ≠ some s ∧ ∀ o' ∈ l', o'.dst ≠ some s := fun s hs => by
                        rw [hl] at hs
                        exact ⟨fun o' ho' => hs o' (by simp [ho']), hs p (by simp), fun o' ho' => hs o' (by simp [ho'])⟩
                      have hlen : (o :: l).length = (segA i (o :: l)).length + 1 + l'.length := by
                        conv => lhs; rw [hl]
                        simp; omega
                      have hsplit : o :: l ++ rest = segA i (o :: l) ++ p :: (l' ++ rest) := (congrArg (· ++ rest) hl).trans (by simp)
                      rw [hsplit]
                      have hdt : ∀ o' ∈ segA i (o :: l), o'.dst ≠ some t := fun o' ho' e => by rw [skB_dst hsk o' ho' t e] at hlk; cases hlk
                      refine seg_join (C' := C ∧ b = w) (ts := optT (nth all.toList g.1)) (KK := fun recs fr => sgR E cur.nt all.toList hp n g C l' recs fr K) ?_ (fun h => ⟨hC, h⟩) (fun h c => h c.2) ht hlk hpop hsk hN ?_ ?_ h ?_
                      · intro hC' K2 rest2 h2 hK2
                        exact sgR_run n hC' h2 ⟨t, b, ht, hlk, hC'.2, hdt⟩ hK2
                      · intro f hf
                        exact wt_of hg2 htg (by rw [hf tg (by simp [htg, optT]) (by rw [hbg]; simp)]; exact hbg) (hbg2.trans hw2.symm)
                      · intro s hs
                        rw [htg] at hs
                        simp only [optT, List.mem_singleton] at hs
                        subst hs
                        rw [hbg]; simp
                      · intro recs' v h3
                        refine sgR_run n hC h3 ⟨tg, bg, htg, by rw [lk_put_ne (hdg p (by rw [hl]; simp))]; exact hbg, hbg2, fun o' ho' => hdg o' (by rw [hl]; simp [ho'])⟩ fun recs2 fr2 k1 k2 => ?_
                        have := hK recs2 fr2 k1 (fun s hs => by
                          obtain ⟨q1, q2, q3⟩ := hin s hs
                          rw [k2 s q3, lk_put_ne q2])
                        rw [hlen] at this
                        simpa [Nat.add_assoc] using this
                    · exact h.elim
                  · exact h.elim
            · exact h.elim
          · exact h.elim
end

theorem perfR_sound {E : En} (hE : EnOk E) {cur : FI} {all : Array Oper} {o : Oper} {l : List Oper} {r : List It} {stk : List Fm} {n0 j : Nat} {recs : List Rec} {fr fin : List (Nat × SV)} {hp hin : List (Nat × Ob)}
    {K : Rec → List (Nat × SV) → List (Nat × Ob) → Prop} (hK : ∀ rc fr' hp', K rc fr' hp' → RM E cur all (Chk E cur all) r stk n0 (j + 1) l (recs ++ [rc]) fr' hp')
    (hw : Wt all o fin true) (hs : ∀ t s, lk fin t = some s → lk fr t = some s) (hb : ∀ b ob, lk hin b = some ob → lk hp b = some ob) (h : perfR E K cur all o l r stk n0 j recs fr hp fin hin) :
    RM E cur all (Chk E cur all) r stk n0 j (o :: l) recs fr hp := by
  unfold perfR at h
  split at h
  · rename_i qh qp qv' hq
    rw [pq_eq, fcS_eq] at h
    obtain ⟨v', h1, h2⟩ := putR_out h.2
    exact ⟨_, vld_quiet hE hw hq h.1 h1, hs, hb, hK _ _ _ h2⟩
  · split at h
    · rename_i eh ep ev' ch nx' he
      rw [pq_eq, fcS_eq] at h
      obtain ⟨v', h1, h2⟩ := putR_out h.2
      exact ⟨_, vld_effect hE hw he h.1 h1, hs, hb, hK _ _ _ h2⟩
    · split at h
      · rename_i f args hcl
        rw [fcA_eq] at h
        exact h.out ⟨_, hcl, rfl⟩ hw hs hb
      · exact h.elim

theorem goR_sound {E : En} (hE : EnOk E) {cur : FI} {all : Array Oper} {r : List It} {stk : List Fm} {n0 : Nat} : ∀ (n : Nat) {l : List Oper} {j : Nat} {recs : List Rec} {fr : List (Nat × SV)} {hp : List (Nat × Ob)}, goR E cur all r stk n0 n j l recs fr hp →
    RM E cur all (Chk E cur all) r stk n0 j l recs fr hp
  | 0, _, _, _, _, _, h => by unfold goR at h; exact h.elim
  | n + 1, [], j, recs, fr, hp, h => by unfold goR at h; exact ⟨h.1, h.2.out⟩
  | n + 1, o :: l, j, recs, fr, hp, h => by
    have hK : ∀ rc fr' hp', goR E cur all r stk n0 n (j + 1) l (recs ++ [rc]) fr' hp' → RM E cur all (Chk E cur all) r stk n0 (j + 1) l (recs ++ [rc]) fr' hp' := fun rc fr' hp' h => goR_sound hE n h
    unfold goR at h
    split at h
    · rename_i hg
      rw [inR_eq] at h
      exact perfR_sound hE hK (fun x nt a _ => by simp [Region.wanted, hg]) (fun _ _ => kf_sub) (fun _ _ h => hpO_sub (kh_sub h)) h
    · rename_i i want hg
      split at h
      · rename_i t ht
        have ht : (all[i]?).bind (·.dst) = some t := by rw [← Array.getElem?_toList, ← nth_eq]; exact ht
        have fact : ∀ (c : BE) (fin : List (Nat × SV)), lk fin t = some (.c (.bool c)) → Wt all o fin (some c.v == some want) := by
          intro c fin hlk x nt a hF
          obtain ⟨v, hv1, hv2⟩ := hF.sl _ _ hlk
          have hv2 := rs_bool hv2
          subst hv2
          simp [Region.wanted, hg, yielded_of ht hv1]
        have head : ∀ s l', lk fr t = some s → lk (kf fr (t :: l')) t = some s := by
          intro s l' h
          simp [kf, h, lk]
        have skip : ∀ s, lk fr t = some s → Wt all o [(t, s)] false → fcF (fun fr' => goR E cur all r stk n0 n (j + 1) l (recs ++ [⟨[(t, s)], [], .tup [], []⟩]) fr' hp) (putF cur.nt fr o.dst (.tup [])) → RM E cur all (Chk E cur all) r stk n0 j (o :: l) recs fr hp := by
          intro s hs hw hgo
          rw [fcF_eq] at hgo
          refine ⟨⟨[(t, s)], [], .tup [], []⟩, vld_skip hw, fun c u hc => ?_, fun b ob hb => by simp [lk] at hb, hK _ _ _ hgo⟩
          simp only [lk] at hc
          split at hc
          · rename_i e; subst e; cases hc; exact hs
          · cases hc
        split at h
        · rename_i hlk
          split at h
          · rw [inR_eq] at h
            exact perfR_sound hE hK (fact .tt _ (head _ _ hlk)) (fun _ _ => kf_sub) (fun _ _ => kh_sub) h
          · exact skip _ hlk (fact .tt _ (by simp [lk])) h
        · rename_i hlk
          split at h
          · rw [inR_eq] at h
            exact perfR_sound hE hK (fact .ff _ (head _ _ hlk)) (fun _ _ => kf_sub) (fun _ _ => kh_sub) h
          · exact skip _ hlk (fact .ff _ (by simp [lk])) h
        · rename_i m hlk
          refine skip _ hlk (fun x nt a hF => ?_) h
          obtain ⟨v, hv1, vs, rfl, _⟩ := hF.sl t (.tup m) (by simp [lk])
          simp [Region.wanted, hg, yielded_tup ht hv1]
        · rename_i b hlk
          have ht' : nth all.toList i = some t := by rw [nth_eq, Array.getElem?_toList]; exact ht
          split at h
          · rename_i p x y l' hseg
            split at h
            · exact h.elim
            · rename_i hN
              split at h
              · rename_i hpg
                obtain ⟨hl, hpop, hsk⟩ := segP_spec hseg
                have hdt : ∀ o' ∈ segA i (o :: l), o'.dst ≠ some t := fun o' ho' e => by rw [skB_dst hsk o' ho' t e] at hlk; cases hlk
                rw [hl]
                refine seg_join (C' := b = want) (ts := []) (KK := fun recs fr => goR E cur all r stk n0 n (j + (segA i (o :: l)).length + 1) l' recs fr hp) ?_ (fun h => h) (fun h c => h c) ht' hlk hpop hsk hN (fun f _ x nt a _ => by simp [Region.wanted, hpg]) (fun s hs => by cases hs) h ?_
                · intro hC' K2 rest2 h2 hK2
                  exact sgR_run hE 1000 hC' h2 ⟨t, b, ht', hlk, hC', hdt⟩ hK2
                · intro recs' v h3
                  exact goR_sound hE n h3
              · exact h.elim
          · exact h.elim
        · exact h.elim
      · exact h.elim

/-- A REGION THAT DRAWS ITS ORDER. -/
theorem any_rule {E : En} (hE : EnOk E) {cur : FI} {id : Nat} {all : Array Oper} {r : List It} {fr : List (Nat × SV)} {hp : List (Nat × Ob)} {nx : Nat} {stk : List Fm} (hm : E.P.follows .mixedOrders = true)
    (h : goR E cur all r stk nx 1000 0 all.toList [] fr hp) : DrawOk E cur id all r ⟨fr, hp, nx⟩ stk := by
  refine ⟨?_⟩
  intro w0 η S a w hS hR
  have hb : Below w.heap.size w { w with drawn := w.drawn + 1 } := ⟨rfl, rfl, rfl, Nat.le_refl _, fun _ _ => rfl⟩
  have hR' := hR.heap (hR.1.1.below hb) (cx_below hb)
  obtain ⟨rs, g1, g2, g3, fr', hp', g4, g5, g6⟩ := rm_out (goR_sound hE 1000 h)
  rw [List.nil_append] at g2
  obtain ⟨x, g2, gx⟩ : ∃ x, chkFrom cur.nt x 0 [] all.toList rs = true ∧ XOk E cur all rs x := by
    rcases g2 with g2 | g2
    · exact ⟨none, g2, trivial⟩
    · exact g2
  obtain ⟨k1, k2⟩ := RepH.wider (nm' := nmL nx (Array.replicate all.size false)) (fun b hb => .inl hb) hR'.1.1
  refine wp_region_any hm (any_run hS hR.1.2 (by simpa using g1) g2 gx g3 g4 g5 g6 _ _ _ _ ⟨by simp, fun j o _ hj => ?_, hp, fr, η, fun b => ?_, fun t => ?_, k1, RepF.mono k2 hR'.2.1, fun p hp => ⟨RepF.mono k2 (hR'.2.2 p hp).1, (hR'.2.2 p hp).2⟩⟩ ?_)
  · have : (Array.replicate all.size false).getD j false = false := by
      simp only [Array.getD_eq_getD_getElem?, Array.getElem?_replicate]
      split <;> rfl
    rw [this] at hj; cases hj
  · rw [runA_none (fun i ws _ _ => by simp only [Array.getD_eq_getD_getElem?, Array.getElem?_replicate]; split <;> rfl)]
  · rw [runA_none (fun i ws _ _ => by simp only [Array.getD_eq_getD_getElem?, Array.getElem?_replicate]; split <;> rfl)]
  · unfold unl
    exact Nat.le_trans (List.length_filter_le _ _) (by simp)

/-- a call in such a region -/
theorem callr_rule {E : En} {cur : FI} {f : Nat} {args : List SV} {all : Array Oper} {o : Oper} {l : List Oper} {r : List It} {stk : List Fm} {n0 j : Nat} {recs : List Rec} {fin fr : List (Nat × SV)} {hin hp : List (Nat × Ob)} {s : SV} (hE : EnOk E)
    (hF : FnD E.P f args (fun r => r = s)) (hd : args.all isDs = true) (hk : putR all j cur.nt o fin hin [] fr hp (fun rc => goR E cur all r stk n0 1000 (j + 1) l (recs ++ [rc])) s) : CallR E cur f args all o l r stk n0 j recs fin hin fr hp := by
  refine ⟨?_⟩
  rintro ⟨args0, hc, rfl⟩ hw hs hb
  obtain ⟨v', h1, h2⟩ := putR_out hk
  exact ⟨_, vld_call hw hc hF hd h1, hs, hb, goR_sound hE 1000 h2⟩

/-- a call in such a region, to which own rows are lent -/
theorem vld_lend {E : En} {cur : FI} {all : Array Oper} {o : Oper} {nn : Nat} {fin : List (Nat × SV)} {hin : List (Nat × Ob)} {f : Nat} {args0 : List SV} {s : SV} (hw : Wt all o fin true) (hc : cl (ev fin) o.op = some (f, args0)) (hF : FnD E.P f ((args0.map nzS).map (ldS hin)) (fun r => r = s)) (hd : ((args0.map nzS).map (ldS hin)).all isDs = true) (hsc : scS s = true) {v' : SV} (hv' : ∀ x u, RS x s u → RS x v' u) :
    Vld E cur all o nn ⟨fin, hin, v', []⟩ := by
  intro w0 hp nm η a w fr hH hFr hnn hs hb K Q hK
  have hFr' := hFr.part hs
  rw [if_pos (hw _ _ _ hFr')]
  left
  obtain ⟨⟨fn, hf1, hf2, hf3⟩, hF⟩ := hF
  obtain ⟨vs, hvs, hrun⟩ := run_call (E := E) (ev_sound hFr') hc hf1 hf2 hf3
  have hvs := nzs_sound hvs
  unfold Oper.wp
  rw [hrun, Oper.upon_enter]
  refine (hF w (fun k => k < w.heap.size) vs (fun k hk => hk) (lds_sound hH hb hd hvs)).mono ?_
  rintro e w' ⟨s', v, rfl, rfl, hv, hb'⟩
  have hle := cx_below (w0 := w0) (hp := hp) (nx := nm) (η := η) hb'
  have hres : RS (cxS w0 hp nm η w') s' v := sc_rs hsc hv
  obtain ⟨g1, g2⟩ := RepH.wider (nm' := nmE nm nn (nn + 1)) (fun b hb => .inl hb) (hH.below hb')
  exact hK η w' v g1 (hle.trans g2) (RS.mono g2 (hv' _ _ hres))
theorem lendr_rule {E : En} {cur : FI} {f : Nat} {args : List SV} {all : Array Oper} {o : Oper} {l : List Oper} {r : List It} {stk : List Fm} {n0 j : Nat} {recs : List Rec} {fin fr : List (Nat × SV)} {hin hp : List (Nat × Ob)} {s : SV} (hE : EnOk E)
    (hF : FnD E.P f (args.map (ldS hin)) (fun r => r = s)) (hd : (args.map (ldS hin)).all isDs = true) (hsc : scS s = true) (hk : putR all j cur.nt o fin hin [] fr hp (fun rc => goR E cur all r stk n0 1000 (j + 1) l (recs ++ [rc])) s) : CallR E cur f args all o l r stk n0 j recs fin hin fr hp := by
  refine ⟨?_⟩
  rintro ⟨args0, hc, rfl⟩ hw hs hb
  obtain ⟨v', h1, h2⟩ := putR_out hk
  exact ⟨_, vld_lend hw hc hF hd hsc h1, hs, hb, goR_sound hE 1000 h2⟩

/-- one pair may stand in either order -/
theorem x_rule {E : En} (hE : EnOk E) {cur : FI} {all : Array Oper} {recs : List Rec} (i j : Nat) {oi : Oper} {fin : List (Nat × SV)} {hin : List (Nat × Ob)} {v : SV} {rj : Rec} {c : Nat} {ob : Ob} {q : Q} (hij : Nat.blt i j = true)
    (hc : chkFrom cur.nt (some (i, j)) 0 [] all.toList recs = true) (ho : all.toList[i]? = some oi) (hi : recs[i]? = some ⟨fin, hin, v, []⟩) (hj : recs[j]? = some rj) (hch : rj.ch = [(c, some ob)]) (hg : oi.guard = none)
    (hq : qm E.ti (altH hin c ob) (ev fin) oi.op = some q) (hp : OP q.pre) (hv : q.v = v) : Chk E cur all recs :=
  .inr ⟨some (i, j), hc, by simpa [Nat.blt_eq] using hij, oi, _, rj, c, ob, ho, hi, hj, hch, fun nn => vld_quiet hE (fun x nt a _ => by simp [Region.wanted, hg]) hq hp (fun x u h => by rw [← hv]; exact h)⟩

theorem callrg_rule {E : En} {C : Prop} {f : Nat} {args : List SV} {s : SV} {K : SV → Prop} (hF : C → FnD E.P f args (fun r => r = s)) (hd : args.all isDs = true) (hk : K s) : CallRG E C f args K := ⟨s, hk, hd, hF⟩

end OE
