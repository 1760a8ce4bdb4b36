/- OE, part 14: the executor for a region that draws its order. Own work; generic over the program. -/
import Derived.Test.YtapkdhfdemgjmaaOeAny
set_option linter.unusedVariables false
namespace OE
open Go Go.RowKit

def kf (fr : List (Nat × SV)) : List Nat → List (Nat × SV)
  | [] => []
  | t :: l => match lk fr t with
    | some s => (t, s) :: kf fr l
    | none => kf fr l
theorem kf_sub {fr : List (Nat × SV)} : ∀ {l : List Nat} {t : Nat} {s : SV}, lk (kf fr l) t = some s → lk fr t = some s
  | [], t, s, h => by simp [kf, lk] at h
  | c :: l, t, s, h => by
    simp only [kf] at h
    split at h
    · rename_i u hu
      simp only [lk] at h
      split at h
      · rename_i e; subst e; cases h; exact hu
      · exact kf_sub h
    · exact kf_sub h
def kh (hp : List (Nat × Ob)) : List Nat → List (Nat × Ob)
  | [] => []
  | t :: l => match lk hp t with
    | some s => (t, s) :: kh hp l
    | none => kh hp l
theorem kh_sub {hp : List (Nat × Ob)} : ∀ {l : List Nat} {t : Nat} {s : Ob}, lk (kh hp l) t = some s → lk hp t = some s
  | [], t, s, h => by simp [kh, lk] at h
  | c :: l, t, s, h => by
    simp only [kh] at h
    split at h
    · rename_i u hu
      simp only [lk] at h
      split at h
      · rename_i e; subst e; cases h; exact hu
      · exact kh_sub h
    · exact kh_sub h

def nmsC : C → List Nat
  | .ptr b _ => [b]
  | .prw b _ _ _ => [b]
  | .row b => [b]
  | .fn _ l => l.map (·.1)
  | _ => []
def nmsL : List C → List Nat
  | [] => []
  | c :: l => nmsC c ++ nmsL l
def nmsS : SV → List Nat
  | .c x => nmsC x
  | .agg l => nmsL l
  | _ => []
def nmsF : List (Nat × SV) → List Nat
  | [] => []
  | (_, s) :: l => nmsS s ++ nmsF l
def opr : List Operand → List Nat
  | [] => []
  | .tmp t :: l => t :: opr l
  | _ :: l => opr l

def isG (l : List Oper) (j : Nat) : Bool := match l with
  | [] => false
  | o :: l => match o.guard with
    | some (i, _) => if i = j then true else isG l j
    | none => isG l j

/-- what an operation yields is written down; a Bool that guards others is told apart at once -/
def putR (all : Array Oper) (j nt : Nat) (o : Oper) (fin : List (Nat × SV)) (hin : List (Nat × Ob)) (ch : List (Nat × Option Ob)) (fr : List (Nat × SV)) (hp : List (Nat × Ob)) (K : Rec → List (Nat × SV) → List (Nat × Ob) → Prop) : SV → Prop
  | .c (.bool (.sym b)) => match isG all.toList j with
    | true => spl b (fcF (fun fr' => fcH (fun hp' => K ⟨fin, hin, .c (.bool .tt), ch⟩ fr' hp') (apC hp ch)) (putF nt fr o.dst (.c (.bool .tt)))) (fcF (fun fr' => fcH (fun hp' => K ⟨fin, hin, .c (.bool .ff), ch⟩ fr' hp') (apC hp ch)) (putF nt fr o.dst (.c (.bool .ff))))
    | false => fcF (fun fr' => fcH (fun hp' => K ⟨fin, hin, .c (.bool (.sym b)), ch⟩ fr' hp') (apC hp ch)) (putF nt fr o.dst (.c (.bool (.sym b))))
  | v => fcF (fun fr' => fcH (fun hp' => K ⟨fin, hin, v, ch⟩ fr' hp') (apC hp ch)) (putF nt fr o.dst v)

theorem putR_out {all : Array Oper} {j nt : Nat} {o : Oper} {fin : List (Nat × SV)} {hin : List (Nat × Ob)} {ch : List (Nat × Option Ob)} {fr : List (Nat × SV)} {hp : List (Nat × Ob)} {K : Rec → List (Nat × SV) → List (Nat × Ob) → Prop} {v : SV}
    (h : putR all j nt o fin hin ch fr hp K v) : ∃ v', (∀ x u, RS x v u → RS x v' u) ∧ K ⟨fin, hin, v', ch⟩ (putF nt fr o.dst v') (apC hp ch) := by
  unfold putR at h
  split at h
  · rename_i b
    split at h
    · cases b with
      | true => have := h.1 rfl; rw [fcF_eq, fcH_eq] at this; exact ⟨.c (.bool .tt), fun x u hu => hu, this⟩
      | false => have := h.2 rfl; rw [fcF_eq, fcH_eq] at this; exact ⟨.c (.bool .ff), fun x u hu => hu, this⟩
    · rw [fcF_eq, fcH_eq] at h; exact ⟨_, fun x u hu => hu, h⟩
  · rw [fcF_eq, fcH_eq] at h; exact ⟨_, fun x u hu => hu, h⟩

/-- it is performed, wherever the slots are as told -/
def Wt (all : Array Oper) (o : Oper) (fin : List (Nat × SV)) (b : Bool) : Prop := ∀ (x : Cx) (nt : Nat) (a : Act), RepF x nt fin a → Region.wanted o (yielded all a.tmps) = b

abbrev Chk (cur : FI) (all : Array Oper) (recs : List Rec) : Prop := chkFrom cur.nt 0 [] all.toList recs = true

structure CallR (E : En) (cur : FI) (f : Nat) (args : List SV) (all : Array Oper) (o : Oper) (l : List Oper) (r : List It) (stk : List Fm) (n0 j : Nat) (recs : List Rec) (fin : List (Nat × SV)) (hin : List (Nat × Ob)) (fr : List (Nat × SV)) (hp : List (Nat × Ob)) : Prop where
  out : (∃ args0, cl (ev fin) o.op = some (f, args0) ∧ args = args0.map nzS) → Wt all o fin true → (∀ t s, lk fin t = some s → lk fr t = some s) → (∀ b ob, lk hin b = some ob → lk hp b = some ob) →
    RM E cur all (Chk cur all) r stk n0 j (o :: l) recs fr hp

def perfR (E : En) (K : Rec → List (Nat × SV) → List (Nat × Ob) → Prop) (cur : FI) (all : Array Oper) (o : Oper) (l : List Oper) (r : List It) (stk : List Fm) (n0 j : Nat) (recs : List Rec) (fr : List (Nat × SV)) (hp : List (Nat × Ob)) (fin : List (Nat × SV)) (hin : List (Nat × Ob)) : Prop :=
  match qv E.ti hin (ev fin) o.op with
  | some ⟨_, p, v⟩ => pq p (fcS (fun v => putR all j cur.nt o fin hin [] fr hp K v) v)
  | none => match ef E.ti hin (n0 + j) (ev fin) o.op with
    | some ⟨_, p, v, ch, _⟩ => pq p (fcS (fun v => putR all j cur.nt o fin hin ch fr hp K v) v)
    | none => match cl (ev fin) o.op with
      | some (f, args) => fcA (fun args => CallR E cur f args all o l r stk n0 j recs fin hin fr hp) (args.map nzS)
      | none => False

def inR (fr : List (Nat × SV)) (hp : List (Nat × Ob)) (ts : List Nat) (K : List (Nat × SV) → List (Nat × Ob) → Prop) : Prop :=
  fcN (fun fin => fcH (fun hin => K fin hin) (kh hp (nmsF fin))) (kf fr ts)
theorem inR_eq (fr : List (Nat × SV)) (hp : List (Nat × Ob)) (ts : List Nat) (K : List (Nat × SV) → List (Nat × Ob) → Prop) : inR fr hp ts K = K (kf fr ts) (kh hp (nmsF (kf fr ts))) := by
  unfold inR; rw [fcN_eq, fcH_eq]

def goR (E : En) (cur : FI) (all : Array Oper) (r : List It) (stk : List Fm) (n0 : Nat) : Nat → List Oper → List Rec → List (Nat × SV) → List (Nat × Ob) → Prop
  | j, [], recs, fr, hp => chkFrom cur.nt 0 [] all.toList recs = true ∧ AfterQ E cur r ⟨fr, hp, n0 + j⟩ stk
  | j, o :: l, recs, fr, hp => match o.guard with
    | none => inR fr hp (opr o.op.operands.toList) (fun fin hin => perfR E (fun rc => goR E cur all r stk n0 (j + 1) l (recs ++ [rc])) cur all o l r stk n0 j recs fr hp fin hin)
    | some (i, want) => match nth all.toList i with
      | some t => match lk fr t with
        | some (.c (.bool .tt)) => match want with
          | true => inR fr hp (t :: opr o.op.operands.toList) (fun fin hin => perfR E (fun rc => goR E cur all r stk n0 (j + 1) l (recs ++ [rc])) cur all o l r stk n0 j recs fr hp fin hin)
          | false => fcF (fun fr' => goR E cur all r stk n0 (j + 1) l (recs ++ [⟨[(t, .c (.bool .tt))], [], .tup [], []⟩]) fr' hp) (putF cur.nt fr o.dst (.tup []))
        | some (.c (.bool .ff)) => match want with
          | false => inR fr hp (t :: opr o.op.operands.toList) (fun fin hin => perfR E (fun rc => goR E cur all r stk n0 (j + 1) l (recs ++ [rc])) cur all o l r stk n0 j recs fr hp fin hin)
          | true => fcF (fun fr' => goR E cur all r stk n0 (j + 1) l (recs ++ [⟨[(t, .c (.bool .ff))], [], .tup [], []⟩]) fr' hp) (putF cur.nt fr o.dst (.tup []))
        | some (.tup m) => fcF (fun fr' => goR E cur all r stk n0 (j + 1) l (recs ++ [⟨[(t, .tup m)], [], .tup [], []⟩]) fr' hp) (putF cur.nt fr o.dst (.tup []))
        | _ => False
      | none => False

section
variable {E : En} {cur : FI} {all : Array Oper} {o : Oper} {nn : Nat} {fin : List (Nat × SV)} {hin : List (Nat × Ob)}

theorem vld_skip (hw : Wt all o fin false) : Vld E cur all o nn ⟨fin, hin, .tup [], []⟩ := by
  intro w0 hp nm η a w fr hH hF hnn hs hb K Q hK
  rw [if_neg (by rw [hw _ _ _ (hF.part hs)]; simp)]
  obtain ⟨g1, g2⟩ := RepH.wider (nm' := nmE nm nn (nn + 1)) (fun b hb => .inl hb) hH
  exact hK η w undef g1 g2 rs_undef

theorem vld_quiet (hE : EnOk E) (hw : Wt all o fin true) {q : Q} (hq : qv E.ti hin (ev fin) o.op = some q) (hp : OP q.pre) {v' : SV} (hv : ∀ x u, RS x q.v u → RS x v' u) : Vld E cur all o nn ⟨fin, hin, v', []⟩ := by
  intro w0 hp' nm η a w fr hH hF hnn hs hb K Q hK
  have hF' := hF.part hs
  rw [if_pos (hw _ _ _ hF')]
  left
  obtain ⟨h1, h2⟩ := qv_sound (P := E.P) hE.tab hH hb (ev_sound hF') hq
  obtain ⟨v, hv1, hy⟩ := h2 hp
  have hrun := hy w (Below.refl _ _)
  unfold Oper.wp
  rw [hrun, Oper.upon_value]
  obtain ⟨g1, g2⟩ := RepH.wider (nm' := nmE nm nn (nn + 1)) (fun b hb => .inl hb) hH
  exact hK η w v g1 g2 (RS.mono g2 (hv _ _ hv1))

theorem vld_effect (hE : EnOk E) (hw : Wt all o fin true) {e : OE.E} (he : ef E.ti hin nn (ev fin) o.op = some e) (hp : OP e.pre) {v' : SV} (hv : ∀ x u, RS x e.v u → RS x v' u) : Vld E cur all o nn ⟨fin, hin, v', e.ch⟩ := by
  intro w0 hp' nm η a w fr hH hF hnn hs hb K Q hK
  have hF' := hF.part hs
  rw [if_pos (hw _ _ _ hF')]
  left
  obtain ⟨h1, h2⟩ := ef_sound (P := E.P) hE.tab hnn hH hb (ev_sound hF') he
  obtain ⟨n, v, w', η', hrun, hn, hH', hle, hv1⟩ := h2 hp
  have hx := ef_nx he
  obtain ⟨g1, g2⟩ := RepH.wider (nm' := nmE nm nn (nn + 1)) (fun b hb => by
    rcases hb with hb | hb
    · exact .inl hb
    · exact .inr ⟨hb.1, by omega⟩) hH'
  have hfin := hK η' w' v g1 (hle.trans g2) (RS.mono g2 (hv _ _ hv1))
  unfold Oper.wp
  rw [hrun]
  rcases hn with rfl | ⟨rfl, rfl⟩
  · rw [Oper.upon_value]; exact hfin
  · rw [Oper.upon_skip]; exact hfin

theorem vld_call {f : Nat} {args0 : List SV} {s : SV} (hw : Wt all o fin true) (hc : cl (ev fin) o.op = some (f, args0)) (hF : FnD E.P f (args0.map nzS) (fun r => r = s)) (hd : (args0.map nzS).all isDs = true) {v' : SV} (hv' : ∀ x u, RS x s u → RS x v' u) :
    Vld E cur all o nn ⟨fin, hin, v', []⟩ := by
  intro w0 hp nm η a w fr hH hFr hnn hs hb K Q hK
  have hFr' := hFr.part hs
  rw [if_pos (hw _ _ _ hFr')]
  left
  obtain ⟨⟨fn, hf1, hf2, hf3⟩, hF⟩ := hF
  obtain ⟨vs, hvs, hrun⟩ := run_call (E := E) (ev_sound hFr') hc hf1 hf2 hf3
  have hvs := nzs_sound hvs
  unfold Oper.wp
  rw [hrun, Oper.upon_enter]
  have hargs : RL (RS (DX w (okS w0 hp η w))) (args0.map nzS) vs.toList := rls_data (x := cxS w0 hp nm η w) (y := DX w (okS w0 hp η w)) (fun _ h => h) (fun _ _ => rfl) hd hvs
  refine (hF w (okS w0 hp η w) vs (fun k hk => hk.1.1) hargs).mono ?_
  rintro e w' ⟨s', v, rfl, rfl, hv, hb'⟩
  have hle := cx_below (w0 := w0) (hp := hp) (nx := nm) (η := η) hb'
  have hres : RS (cxS w0 hp nm η w') s' v := by
    refine RS.mono (x := DX w' fun k => (okS w0 hp η w k ∨ w.heap.size ≤ k) ∧ k < w'.heap.size) (y := cxS w0 hp nm η w') ⟨fun _ h => h.elim, fun _ h => h.elim, fun k hk => ?_, fun _ _ => rfl⟩ hv
    have hk : (okS w0 hp η w k ∨ w.heap.size ≤ k) ∧ k < w'.heap.size := hk
    refine ⟨⟨hk.2, fun hlt => ?_⟩, fun b hb he => ?_⟩
    · rcases hk.1 with h | h
      · exact h.1.2 hlt
      · have := hH.bel.size; omega
    · rcases hk.1 with h | h
      · exact h.2 b hb he
      · have := (hH.new b k hb he).2; omega
  obtain ⟨g1, g2⟩ := RepH.wider (nm' := nmE nm nn (nn + 1)) (fun b hb => .inl hb) (hH.below hb')
  exact hK η w' v g1 (hle.trans g2) (RS.mono g2 (hv' _ _ hres))
end

theorem perfR_sound {E : En} (hE : EnOk E) {cur : FI} {all : Array Oper} {o : Oper} {l : List Oper} {r : List It} {stk : List Fm} {n0 j : Nat} {recs : List Rec} {fr fin : List (Nat × SV)} {hp hin : List (Nat × Ob)}
    {K : Rec → List (Nat × SV) → List (Nat × Ob) → Prop} (hK : ∀ rc fr' hp', K rc fr' hp' → RM E cur all (Chk cur all) r stk n0 (j + 1) l (recs ++ [rc]) fr' hp')
    (hw : Wt all o fin true) (hs : ∀ t s, lk fin t = some s → lk fr t = some s) (hb : ∀ b ob, lk hin b = some ob → lk hp b = some ob) (h : perfR E K cur all o l r stk n0 j recs fr hp fin hin) :
    RM E cur all (Chk cur all) r stk n0 j (o :: l) recs fr hp := by
  unfold perfR at h
  split at h
  · rename_i qh qp qv' hq
    rw [pq_eq, fcS_eq] at h
    obtain ⟨v', h1, h2⟩ := putR_out h.2
    exact ⟨_, vld_quiet hE hw hq h.1 h1, hs, hb, hK _ _ _ h2⟩
  · split at h
    · rename_i eh ep ev' ch nx' he
      rw [pq_eq, fcS_eq] at h
      obtain ⟨v', h1, h2⟩ := putR_out h.2
      exact ⟨_, vld_effect hE hw he h.1 h1, hs, hb, hK _ _ _ h2⟩
    · split at h
      · rename_i f args hcl
        rw [fcA_eq] at h
        exact h.out ⟨_, hcl, rfl⟩ hw hs hb
      · exact h.elim

theorem goR_sound {E : En} (hE : EnOk E) {cur : FI} {all : Array Oper} {r : List It} {stk : List Fm} {n0 : Nat} : ∀ {l : List Oper} {j : Nat} {recs : List Rec} {fr : List (Nat × SV)} {hp : List (Nat × Ob)}, goR E cur all r stk n0 j l recs fr hp →
    RM E cur all (Chk cur all) r stk n0 j l recs fr hp
  | [], j, recs, fr, hp, h => ⟨h.1, h.2.out⟩
  | o :: l, j, recs, fr, hp, h => by
    have hK : ∀ rc fr' hp', goR E cur all r stk n0 (j + 1) l (recs ++ [rc]) fr' hp' → RM E cur all (Chk cur all) r stk n0 (j + 1) l (recs ++ [rc]) fr' hp' := fun rc fr' hp' h => goR_sound hE h
    unfold goR at h
    split at h
    · rename_i hg
      rw [inR_eq] at h
      exact perfR_sound hE hK (fun x nt a _ => by simp [Region.wanted, hg]) (fun _ _ => kf_sub) (fun _ _ => kh_sub) h
    · rename_i i want hg
      split at h
      · rename_i t ht
        have ht : (all[i]?).bind (·.dst) = some t := by rw [← Array.getElem?_toList, ← nth_eq]; exact ht
        have fact : ∀ (c : BE) (fin : List (Nat × SV)), lk fin t = some (.c (.bool c)) → Wt all o fin (some c.v == some want) := by
          intro c fin hlk x nt a hF
          obtain ⟨v, hv1, hv2⟩ := hF.sl _ _ hlk
          have hv2 := rs_bool hv2
          subst hv2
          simp [Region.wanted, hg, yielded_of ht hv1]
        have head : ∀ s l', lk fr t = some s → lk (kf fr (t :: l')) t = some s := by
          intro s l' h
          simp [kf, h, lk]
        have skip : ∀ s, lk fr t = some s → Wt all o [(t, s)] false → fcF (fun fr' => goR E cur all r stk n0 (j + 1) l (recs ++ [⟨[(t, s)], [], .tup [], []⟩]) fr' hp) (putF cur.nt fr o.dst (.tup [])) → RM E cur all (Chk cur all) r stk n0 j (o :: l) recs fr hp := by
          intro s hs hw hgo
          rw [fcF_eq] at hgo
          refine ⟨⟨[(t, s)], [], .tup [], []⟩, vld_skip hw, fun c u hc => ?_, fun b ob hb => by simp [lk] at hb, hK _ _ _ hgo⟩
          simp only [lk] at hc
          split at hc
          · rename_i e; subst e; cases hc; exact hs
          · cases hc
        split at h
        · rename_i hlk
          split at h
          · rw [inR_eq] at h
            exact perfR_sound hE hK (fact .tt _ (head _ _ hlk)) (fun _ _ => kf_sub) (fun _ _ => kh_sub) h
          · exact skip _ hlk (fact .tt _ (by simp [lk])) h
        · rename_i hlk
          split at h
          · rw [inR_eq] at h
            exact perfR_sound hE hK (fact .ff _ (head _ _ hlk)) (fun _ _ => kf_sub) (fun _ _ => kh_sub) h
          · exact skip _ hlk (fact .ff _ (by simp [lk])) h
        · rename_i m hlk
          refine skip _ hlk (fun x nt a hF => ?_) h
          obtain ⟨v, hv1, vs, rfl, _⟩ := hF.sl t (.tup m) (by simp [lk])
          simp [Region.wanted, hg, yielded_tup ht hv1]
        · exact h.elim
      · exact h.elim

/-- A REGION THAT DRAWS ITS ORDER. -/
theorem any_rule {E : En} (hE : EnOk E) {cur : FI} {id : Nat} {all : Array Oper} {r : List It} {fr : List (Nat × SV)} {hp : List (Nat × Ob)} {nx : Nat} {stk : List Fm} (hm : E.P.follows .mixedOrders = true)
    (h : goR E cur all r stk nx 0 all.toList [] fr hp) : DrawOk E cur id all r ⟨fr, hp, nx⟩ stk := by
  refine ⟨?_⟩
  intro w0 η S a w hS hR
  have hb : Below w.heap.size w { w with drawn := w.drawn + 1 } := ⟨rfl, rfl, rfl, Nat.le_refl _, fun _ _ => rfl⟩
  have hR' := hR.heap (hR.1.1.below hb) (cx_below hb)
  obtain ⟨rs, g1, g2, g3, fr', hp', g4, g5, g6⟩ := rm_out (goR_sound hE h)
  rw [List.nil_append] at g2
  obtain ⟨k1, k2⟩ := RepH.wider (nm' := nmL nx (Array.replicate all.size false)) (fun b hb => .inl hb) hR'.1.1
  refine wp_region_any hm (any_run hS hR.1.2 (by simpa using g1) g2 g3 g4 g5 g6 _ _ _ _ ⟨by simp, fun j o _ hj => ?_, hp, fr, η, fun b => ?_, fun t => ?_, k1, RepF.mono k2 hR'.2.1, fun p hp => ⟨RepF.mono k2 (hR'.2.2 p hp).1, (hR'.2.2 p hp).2⟩⟩ ?_)
  · have : (Array.replicate all.size false).getD j false = false := by
      simp only [Array.getD_eq_getD_getElem?, Array.getElem?_replicate]
      split <;> rfl
    rw [this] at hj; cases hj
  · rw [runA_none (fun i ws _ _ => by simp only [Array.getD_eq_getD_getElem?, Array.getElem?_replicate]; split <;> rfl)]
  · rw [runA_none (fun i ws _ _ => by simp only [Array.getD_eq_getD_getElem?, Array.getElem?_replicate]; split <;> rfl)]
  · unfold unl
    exact Nat.le_trans (List.length_filter_le _ _) (by simp)

/-- a call in such a region -/
theorem callr_rule {E : En} {cur : FI} {f : Nat} {args : List SV} {all : Array Oper} {o : Oper} {l : List Oper} {r : List It} {stk : List Fm} {n0 j : Nat} {recs : List Rec} {fin fr : List (Nat × SV)} {hin hp : List (Nat × Ob)} {s : SV} (hE : EnOk E)
    (hF : FnD E.P f args (fun r => r = s)) (hd : args.all isDs = true) (hk : putR all j cur.nt o fin hin [] fr hp (fun rc => goR E cur all r stk n0 (j + 1) l (recs ++ [rc])) s) : CallR E cur f args all o l r stk n0 j recs fin hin fr hp := by
  refine ⟨?_⟩
  rintro ⟨args0, hc, rfl⟩ hw hs hb
  obtain ⟨v', h1, h2⟩ := putR_out hk
  exact ⟨_, vld_call hw hc hF hd h1, hs, hb, goR_sound hE h2⟩

end OE
