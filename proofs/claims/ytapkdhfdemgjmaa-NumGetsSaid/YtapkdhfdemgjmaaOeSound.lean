/- OE, part 6: the run over abstract states is right. Own work; generic over the program. -/
import Derived.Test.YtapkdhfdemgjmaaOeRun
namespace OE
open Go Go.RowKit

structure EnOk (E : En) : Prop where
  tab : TabOk E.P E.ti
  inl : ∀ f fi c, E.inl f = some (fi, c) → E.P.funcs[f]? = some fi.fn ∧ fi.fn.body = some c ∧ (fi.fn.name == "runtime.NumGoroutine") = false ∧ fi.fn.ntmps = fi.nt ∧ fi.fn.results.toList = fi.res

theorem ev_sound {x : Cx} {nt : Nat} {fr : List (Nat × SV)} {a : Act} (h : RepF x nt fr a) : ∀ o, RS x (ev fr o) (a.eval o)
  | .tmp t => by
    simp only [ev, Act.eval]
    cases hl : lk fr t with
    | none => exact trivial
    | some sv =>
      obtain ⟨v, h1, h2⟩ := h.sl t sv hl
      have : a.tmps.getD t undef = v := by simp [Array.getD_eq_getD_getElem?, h1]
      rw [this]
      exact h2
  | .const v => rs_cv v
  | .func f => ⟨#[], rfl, trivial⟩
  | .global _ => trivial

theorem putF_sound {x : Cx} {nt : Nat} {fr : List (Nat × SV)} {a : Act} (h : RepF x nt fr a) {dst : Option Tmp} {sv : SV} {v : Value} (hv : RS x sv v) : RepF x nt (putF nt fr dst sv) (a.put dst v) := by
  cases dst with
  | none => exact h
  | some d =>
    simp only [putF, Act.put]
    split
    · rename_i hd
      refine ⟨fun t s ht => ?_, by simp [h.siz], h.dfr⟩
      simp only [lk] at ht
      split at ht
      · rename_i e
        subst e
        cases ht
        exact ⟨v, by rw [Array.getElem?_setIfInBounds_self_of_lt (by rw [h.siz]; exact hd)], hv⟩
      · rename_i e
        obtain ⟨u, h1, h2⟩ := h.sl t s ht
        exact ⟨u, by rw [Array.getElem?_setIfInBounds_ne (Ne.symm e)]; exact h1, h2⟩
    · rename_i hd
      refine ⟨fun t s ht => ?_, by simp [h.siz], h.dfr⟩
      obtain ⟨u, h1, h2⟩ := h.sl t s ht
      have : t < a.tmps.size := (Array.getElem?_eq_some_iff.1 h1).1
      rw [h.siz] at this
      exact ⟨u, by rw [Array.getElem?_setIfInBounds_ne (fun e => hd (by rw [e]; exact this))]; exact h1, h2⟩

theorem cons_sound {x : Cx} {nt : Nat} {fr : List (Nat × SV)} {a : Act} (h : RepF x nt fr a) {t : Nat} {sv : SV} {v : Value} (ht : a.tmps[t]? = some v) (hv : RS x sv v) : RepF x nt ((t, sv) :: fr) a :=
  ⟨fun s u hs => by
    simp only [lk] at hs
    split at hs
    · rename_i e; subst e; cases hs; exact ⟨v, ht, hv⟩
    · exact h.sl s u hs, h.siz, h.dfr⟩

theorem partOf_sound {x : Cx} {s : SV} {p : Bool × List C} {v : Value} (h : partOf s = some p) (hv : RS x s v) : RP x p v := by
  unfold partOf at h
  split at h
  · cases h; exact ⟨_, rfl, hv⟩
  · cases h; exact hv
  · cases h

theorem resC_sound {P : Program} {ti : Nat → Option TI} (ht : TabOk P ti) {w0 : W0} {hp : List (Nat × Ob)} {nx : Nat → Prop} {η : Nat → Option Nat × Value} {w : World} (hH : RepH w0 hp nx η w) {t : TypeId} {s : SV} {q : Q} {u : Value}
    (h : resC ti hp t s = some q) (hx : RS (cxS w0 hp nx η w) s u) : ∃ v, RS (cxS w0 hp nx η w) q.v v ∧ (do loadVar t (← asAddr u) : Go.Sem Value).run P w = .ok v w := by
  unfold resC at h
  split at h
  · rename_i b off
    obtain ⟨hb, k, hk, e⟩ := hx
    split at h
    · rename_i i T l hi hlk
      obtain ⟨k', vs, h1, h2, h3⟩ := hH.obs b _ hlk
      have hkk : k' = k := by have : some k' = some k := h1.symm.trans hk; simpa using this
      subst hkk
      obtain ⟨g1, g2, v, g3, g4⟩ := run_loadVar (P := P) ht hi h h2 (p := 0) h3 (fun j v hj => by simpa using hj)
      rw [Nat.zero_add] at g4
      refine ⟨v, g3, ?_⟩
      simp [e, asAddr, g4 w rfl]
    · cases h
  · cases h

def resOne (tmps : Array Value) : ResultVar → Go.Sem Value
  | .tmp t => pure (tmps.getD t undef)
  | .cell a t => do loadVar t (← asAddr (tmps.getD a undef))

theorem results_eq (fn : Func) (tmps : Array Value) : results fn tmps = (fn.results.mapM (resOne tmps) >>= fun vs => pure (if h : vs.size = 1 then vs[0] else .tuple vs)) := by
  unfold results
  congr 1

theorem resV_sound {P : Program} {ti : Nat → Option TI} (ht : TabOk P ti) {w0 : W0} {hp : List (Nat × Ob)} {nx : Nat → Prop} {η : Nat → Option Nat × Value} {w : World} (hH : RepH w0 hp nx η w) {nt : Nat} {fr : List (Nat × SV)} {a : Act}
    (hF : RepF (cxS w0 hp nx η w) nt fr a) : ∀ {l : List ResultVar} {m : List (Bool × List C)}, resV ti hp fr l = some m →
    ∃ vs, (l.mapM (resOne a.tmps)).run P w = .ok vs w ∧ RL (RP (cxS w0 hp nx η w)) m vs
  | [], m, h => by
    simp only [resV, Option.some.injEq] at h
    subst h
    exact ⟨[], rfl, trivial⟩
  | .tmp t :: r, m, h => by
    simp only [resV] at h
    split at h
    · rename_i p l hp' hl
      simp only [Option.some.injEq] at h
      subst h
      obtain ⟨vs, h1, h2⟩ := resV_sound ht hH hF hl
      have hv := ev_sound hF (.tmp t)
      simp only [ev, Act.eval] at hv
      refine ⟨a.tmps.getD t undef :: vs, ?_, partOf_sound hp' hv, h2⟩
      simp only [List.mapM_cons, Go.Sem.run_bind, Go.Sem.run_pure, Result.andThen_ok, h1, resOne]
    · cases h
  | .cell t T :: r, m, h => by
    simp only [resV] at h
    split at h
    · rename_i q l hq hl
      split at h
      · rename_i p hp'
        simp only [Option.some.injEq] at h
        subst h
        obtain ⟨vs, h1, h2⟩ := resV_sound ht hH hF hl
        have hv := ev_sound hF (.tmp t)
        simp only [ev, Act.eval] at hv
        obtain ⟨v, g1, g2⟩ := resC_sound (P := P) ht hH hq hv
        refine ⟨v :: vs, ?_, partOf_sound hp' g1, h2⟩
        simp only [List.mapM_cons]
        rw [Go.Sem.run_bind]
        simp only [resOne]
        rw [g2]
        simp only [Result.andThen_ok, Go.Sem.run_bind, h1, Go.Sem.run_pure]
      · cases h
    · cases h

theorem resS_sound {P : Program} {ti : Nat → Option TI} (ht : TabOk P ti) {w0 : W0} {hp : List (Nat × Ob)} {nx : Nat → Prop} {η : Nat → Option Nat × Value} {w : World} (hH : RepH w0 hp nx η w) {nt : Nat} {fr : List (Nat × SV)} {a : Act}
    (hF : RepF (cxS w0 hp nx η w) nt fr a) {fn : Func} {l : List ResultVar} (hl : fn.results.toList = l) {m : List (Bool × List C)} (h : resV ti hp fr l = some m) :
    ∃ v, (results fn a.tmps).run P w = .ok v w ∧ RS (cxS w0 hp nx η w) (resS m) v := by
  subst hl
  obtain ⟨vs, h1, h2⟩ := resV_sound (P := P) ht hH hF h
  have hr : (results fn a.tmps).run P w = .ok (if h : vs.toArray.size = 1 then vs.toArray[0] else .tuple vs.toArray) w := by
    rw [results_eq, Array.mapM_eq_mapM_toList, Go.Sem.run_bind, Go.Sem.run_map, h1]
    rfl
  refine ⟨_, hr, ?_⟩
  cases m with
  | nil =>
    cases vs with
    | nil => exact ⟨#[], rfl, trivial⟩
    | cons _ _ => exact h2.elim
  | cons p m =>
    obtain ⟨v, vs', rfl, hp, hm⟩ := rl_cons h2
    cases m with
    | cons p' m' =>
      obtain ⟨v', vs'', rfl, hp', hm'⟩ := rl_cons hm
      have e1 : resS (p :: p' :: m') = .tup (p :: p' :: m') := by
        unfold resS; split <;> simp_all
      rw [e1, dif_neg (by simp)]
      exact ⟨_, rfl, by simpa using h2⟩
    | nil =>
      have : vs' = [] := by cases vs' with | nil => rfl | cons _ _ => exact hm.elim
      subst this
      rw [dif_pos (by simp)]
      obtain ⟨b, l⟩ := p
      cases b with
      | true =>
        simp only [RP, if_true] at hp
        exact hp
      | false =>
        simp only [RP, Bool.false_eq_true, if_false] at hp
        obtain ⟨y, rfl, hy⟩ := hp
        exact hy

/-! ### the run -/

theorem RepA.fr {w0 : W0} {cur : FI} {st : St} {S : List (Fm × Act)} {η : Nat → Option Nat × Value} {a : Act} {w : World} (h : RepA w0 cur st S η a w) {fr : List (Nat × SV)} {a' : Act}
    (hF : RepF (cxS w0 st.hp (lt st.nx) η w) cur.nt fr a') : RepA w0 cur ⟨fr, st.hp, st.nx⟩ S η a' w := ⟨h.1, hF, h.2.2⟩

/-- the heap has gone on: the frames stand -/
theorem RepA.heap {w0 : W0} {cur : FI} {st : St} {S : List (Fm × Act)} {η η' : Nat → Option Nat × Value} {a : Act} {w w' : World} (h : RepA w0 cur st S η a w) {hp : List (Nat × Ob)} {nx : Nat} (hH : RepH w0 hp (lt nx) η' w')
    (hle : (cxS w0 st.hp (lt st.nx) η w).le (cxS w0 hp (lt nx) η' w')) : RepA w0 cur ⟨st.fr, hp, nx⟩ S η' a w' :=
  ⟨⟨hH, h.1.2⟩, RepF.mono hle h.2.1, fun p hp => ⟨RepF.mono hle (h.2.2 p hp).1, (h.2.2 p hp).2⟩⟩

theorem rs_undef {x : Cx} : RS x (.tup []) undef := ⟨#[], rfl, trivial⟩
theorem yielded_tup {all : Array Oper} {a : Act} {j t : Nat} {vs : Array Value} (h1 : (all[j]?).bind (·.dst) = some t) (h2 : a.tmps[t]? = some (.tuple vs)) : yielded all a.tmps j = none := by
  simp [yielded, h1, h2]
theorem yielded_of {all : Array Oper} {a : Act} {j t : Nat} {b : Bool} (h1 : (all[j]?).bind (·.dst) = some t) (h2 : a.tmps[t]? = some (.bool b)) : yielded all a.tmps j = some b := by
  simp [yielded, h1, h2]

theorem tw_exit {P : Program} {w0 : W0} {cur : FI} {S : List (Fm × Act)} {R : Act → World → Prop} {id : Nat} : ∀ {r r' : List It}, exitTo id r = some r' → ∀ a w, TW P w0 cur S R r' .normal a w → TW P w0 cur S R r (.exit id) a w
  | [], _, h, _, _, _ => by simp [exitTo] at h
  | .blk id' :: r, r', h, a, w, hh => by
    simp only [exitTo] at h
    simp only [TW]
    by_cases e : id' = id
    · subst e
      simp only [if_true, Option.some.injEq] at h
      subst h
      simpa using hh
    · rw [if_neg e] at h
      rw [if_neg (Ne.symm e)]
      exact tw_exit h a w hh
  | .code _ :: r, r', h, a, w, hh => tw_exit (r := r) h a w hh
  | .ops _ _ :: r, r', h, a, w, hh => tw_exit (r := r) h a w hh
  | .scp :: r, r', h, a, w, hh => tw_exit (r := r) h a w hh
  | .fin _ :: r, r', h, a, w, hh => tw_exit (r := r) h a w hh

theorem tw_ret {P : Program} {w0 : W0} {cur : FI} {S : List (Fm × Act)} {R : Act → World → Prop} {a : Act} {w : World} (h : R a w) : ∀ {r : List It}, TW P w0 cur S R r .ret a w
  | [] => h
  | .code _ :: r => tw_ret h (r := r)
  | .ops _ _ :: r => tw_ret h (r := r)
  | .blk _ :: r => tw_ret h (r := r)
  | .scp :: r => tw_ret h (r := r)
  | .fin _ :: r => tw_ret h (r := r)

theorem caps_rs {x : Cx} : ∀ {caps : List (Nat × Nat)} {m : List Value}, RL (fun (p : Nat × Nat) u => x.nm p.1 ∧ ∃ k, (x.η p.1).1 = some k ∧ u = .pointer (some ⟨k, p.2, none⟩)) caps m →
    RL (RS x) (caps.map fun p => .c (.ptr p.1 p.2)) m
  | [], [], _ => trivial
  | _ :: _, _ :: _, ⟨h1, h2⟩ => ⟨h1, caps_rs h2⟩
  | [], _ :: _, h => h.elim
  | _ :: _, [], h => h.elim

theorem tw_outgrown {P : Program} {w0 : W0} {cur : FI} {S : List (Fm × Act)} {R : Act → World → Prop} {a : Act} {w : World} : ∀ {r : List It}, TW P w0 cur S R r .outgrown a w → False
  | [], h => h
  | .code _ :: r, h => tw_outgrown (r := r) h
  | .ops _ _ :: r, h => tw_outgrown (r := r) h
  | .blk _ :: r, h => tw_outgrown (r := r) h
  | .scp :: r, h => tw_outgrown (r := r) h
  | .fin _ :: r, h => tw_outgrown (r := r) h

theorem upon_dst {P : Program} {o o' : Oper} (h : o.dst = o'.dst) (a : Act) (next : Act → World → Prop) (Q : Exit → Act → World → Prop) (r : Result Next) : o.upon P a next Q r = o'.upon P a next Q r := by
  cases r with
  | halt x w => cases x <;> rfl
  | ok n w => cases n <;> simp [Oper.upon, h]

/-- a call's operation comes to the call -/
theorem run_call {E : En} {x : Cx} {g : Operand → SV} {ρ : Operand → Value} (hg : ∀ o, RS x (g o) (ρ o)) {o : Oper} {f : Nat} {args : List SV} (h : cl g o.op = some (f, args)) {fn : Func} (hf : E.P.funcs[f]? = some fn)
    (hb : fn.body.isSome) (hn : (fn.name == "runtime.NumGoroutine") = false) : ∃ vs : Array Value, RL (RS x) args vs.toList ∧ ∀ w, (execOp ρ o).run E.P w = .ok (.enter f vs) w := by
  unfold cl at h
  split at h
  · rename_i c ho
    split at h
    · rename_i X hc
      split at h
      · rename_i f' caps hX
        simp only [Option.some.injEq, Prod.mk.injEq] at h
        obtain ⟨rfl, rfl⟩ := h
        have hx := hg X
        rw [hX] at hx
        obtain ⟨cs, e, hcs⟩ := hx
        refine ⟨c.args.map ρ ++ cs, ?_, fun w => ?_⟩
        · rw [Array.toList_append]
          refine RL.app ?_ ?_
          · have := rl_map hg c.args.toList
            simpa using this
          · exact caps_rs hcs
        · have hb' : fn.body.isNone = false := by cases hbb : fn.body with | none => simp [hbb] at hb | some _ => rfl
          simp only [execOp, ho, resolve, hc, e, Deferred.ofValue, invoke, callFunc, Sem.run_bind, Sem.run_pure, Result.andThen_ok, run_program, hf, hn, hb', Bool.false_eq_true, if_false, Array.empty_append]
      · cases h
    · cases h
  · cases h

theorem num_lk : ∀ {l : List SV} {n t : Nat} {s : SV}, lk (num l n) t = some s → n ≤ t ∧ l[t - n]? = some s
  | [], _, _, _, h => by simp [num, lk] at h
  | a :: l, n, t, s, h => by
    simp only [num, lk] at h
    split at h
    · rename_i e
      subst e
      cases h
      simp
    · obtain ⟨h1, h2⟩ := num_lk h
      refine ⟨by omega, ?_⟩
      have : t - n = (t - (n + 1)) + 1 := by omega
      rw [this]
      simpa using h2

theorem enter_rep {x : Cx} {args : List SV} {vs : Array Value} (h : RL (RS x) args vs.toList) {nt : Nat} (hn : args.length ≤ nt) : RepF x nt (num args 0) { tmps := vs ++ Array.replicate (nt - vs.size) undef, defers := [] } := by
  have hl := RL.len h
  simp only [Array.length_toList] at hl
  refine ⟨fun t s ht => ?_, by simp; omega, rfl⟩
  obtain ⟨_, h2⟩ := num_lk ht
  simp only [Nat.sub_zero] at h2
  obtain ⟨v, h3, h4⟩ := RL.get h h2
  have hlt : t < vs.size := by
    have := (List.getElem?_eq_some_iff.1 h3).1
    simpa using this
  exact ⟨v, by rw [Array.getElem?_append_left hlt]; simpa using h3, h4⟩

section
variable {E : En} (hE : EnOk E) {k : FI → List It → St → List Fm → Prop} (hk : ∀ cur t st stk, k cur t st stk → Mean E cur t st stk)
include hE hk

theorem ret_sound {cur : FI} {fr : List (Nat × SV)} {hp : List (Nat × Ob)} {nx : Nat} {stk : List Fm} (h : retG E k cur fr hp nx stk) {w0 : W0} {η : Nat → Option Nat × Value} {S : List (Fm × Act)} {a : Act} {w : World} (hS : S.map (·.1) = stk)
    (hR : RepA w0 cur ⟨fr, hp, nx⟩ S η a w) : RR E.P w0 (Fin w0 E.post) cur S a w := by
  unfold retG at h
  split at h
  · rename_i l hl
    rw [fcS_eq] at h
    obtain ⟨v, h1, h2⟩ := resS_sound (P := E.P) hE.tab hR.1.1 hR.2.1 hR.1.2 hl
    split at h
    · cases S with
      | cons _ _ => simp at hS
      | nil => exact ⟨hR.2.1.dfr, v, h1, η, _, ⟨fr, hp, nx⟩, hR.1.1, h2, h⟩
    · rename_i f s
      rw [fcF_eq] at h
      cases S with
      | nil => simp at hS
      | cons p S =>
        obtain ⟨f', a0⟩ := p
        simp only [List.map_cons, List.cons.injEq] at hS
        obtain ⟨rfl, hS⟩ := hS
        refine ⟨hR.2.1.dfr, v, h1, ?_⟩
        have hp := hR.2.2 (f', a0) (by simp)
        exact hk _ _ _ _ h w0 η S _ w hS ⟨⟨hR.1.1, hp.2⟩, putF_sound hp.1 h2, fun q hq => hR.2.2 q (by simp [hq])⟩
  · exact h.elim

theorem perf_sound {cur : FI} {all : Array Oper} {o o' : Oper} (hoo : o'.op = o.op ∧ o'.dst = o.dst ∧ o'.type = o.type) {l : List Oper} {r : List It} {fr : List (Nat × SV)} {hp : List (Nat × Ob)} {nx : Nat} {stk : List Fm} (h : perf E k cur all o l r fr hp nx stk) {w0 : W0}
    {η : Nat → Option Nat × Value} {S : List (Fm × Act)} {a : Act} {w : World} (hS : S.map (·.1) = stk) (hR : RepA w0 cur ⟨fr, hp, nx⟩ S η a w) :
    o'.wp E.P a w (wpList E.P all (TW E.P w0 cur S (RR E.P w0 (Fin w0 E.post) cur S) r) l) (TW E.P w0 cur S (RR E.P w0 (Fin w0 E.post) cur S) r) := by
  obtain ⟨e1, e2, e3⟩ := hoo
  have hexec : execOp a.eval o' = execOp a.eval o := by
    cases o; cases o'
    simp only at e1 e2 e3
    subst e1 e2 e3
    rfl
  unfold perf at h
  split at h
  · rename_i qh qp qv' hq
    obtain ⟨h1, h2⟩ := qv_sound (P := E.P) hE.tab hR.1.1 (fun _ _ h => h) (ev_sound hR.2.1) hq
    rw [hq_eq, pq_eq, fcS_eq, fcF_eq] at h
    obtain ⟨hpp, hgo⟩ := h h1
    obtain ⟨v, hv, hy⟩ := h2 hpp
    have hrun := hy w (Below.refl _ _)
    unfold Oper.wp
    rw [hexec, hrun, Oper.upon_value, e2]
    exact hk _ _ _ _ hgo w0 η S _ w hS (hR.fr (putF_sound hR.2.1 hv))
  · split at h
    · rename_i eh ep ev' ch nx' he
      obtain ⟨h1, h2⟩ := ef_sound (P := E.P) hE.tab (show ¬ lt nx nx from Nat.lt_irrefl _) hR.1.1 (fun _ _ h => h) (ev_sound hR.2.1) he
      rw [hq_eq, pq_eq, fcS_eq, fcH_eq, fcF_eq] at h
      obtain ⟨hpp, hgo⟩ := h h1
      obtain ⟨n, v, w', η', hrun, hn, hH, hle, hv⟩ := h2 hpp
      rw [nmE_lt (ef_nx he).1] at hH hle hv
      have hR' := hR.heap hH hle
      have hfin := hk _ _ _ _ hgo w0 η' S (a.put o.dst v) w' hS (hR'.fr (putF_sound hR'.2.1 hv))
      unfold Oper.wp
      rw [hexec, hrun]
      rcases hn with rfl | ⟨rfl, rfl⟩
      · rw [Oper.upon_value, e2]; exact hfin
      · rw [Oper.upon_skip, e2]; exact hfin
    · split at h
      · rename_i f args hcl
        rw [fcA_eq] at h
        split at h
        · rename_i fi c hin
          obtain ⟨g1, g2, g3, g4, g5⟩ := hE.inl _ _ _ hin
          obtain ⟨vs, hvs, hrun⟩ := run_call (E := E) (ev_sound hR.2.1) hcl g1 (by rw [g2]; rfl) g3
          unfold Oper.wp
          rw [hexec, hrun, Oper.upon_enter]
          obtain ⟨hlen, hgo⟩ := h
          rw [fcN_eq] at hgo
          refine calls_of_wp g1 g2 ?_
          have hF := enter_rep (x := cxS w0 hp (lt nx) η w) hvs hlen
          rw [← g4] at hF
          have hm := hk _ _ _ _ hgo w0 η ((⟨cur, fr, .ops all l :: r, o.dst⟩, a) :: S) _ w (by simp [hS])
            ⟨⟨hR.1.1, g5⟩, by rw [← g4]; exact hF, fun p hp => by
              rcases List.mem_cons.1 hp with rfl | hp
              · exact ⟨hR.2.1, hR.1.2⟩
              · exact hR.2.2 p hp⟩
          refine wp_mono hm ?_
          intro ex a'' w'' hq
          have hret : RR E.P w0 (Fin w0 E.post) fi ((⟨cur, fr, .ops all l :: r, o.dst⟩, a) :: S) a'' w'' →
              a''.defers = [] ∧ ∃ v, (results fi.fn a''.tmps).run E.P w'' = .ok v w'' ∧ wpList E.P all (TW E.P w0 cur S (RR E.P w0 (Fin w0 E.post) cur S) r) l (a.put o'.dst v) w'' := fun hq => by
            obtain ⟨q1, v, q2, q3⟩ := hq
            exact ⟨q1, v, q2, by rw [e2]; exact q3⟩
          cases ex with
          | normal => exact hret hq
          | ret => exact hret hq
          | exit id => exact hq.elim
          | goto l => exact hq.elim
          | panic ch => exact hq.elim
          | outgrown => exact hq.elim
        · rw [fcA_eq] at h
          have hm := h.out ⟨_, hcl, rfl⟩ w0 η S a w hS hR
          simp only [TW, wpList, Region.wanted, if_true] at hm
          rcases hm with hm | ⟨_, a', w', hq⟩
          · unfold Oper.wp at hm ⊢
            rw [hexec, upon_dst e2]
            exact hm
          · exact (tw_outgrown hq).elim
      · exact h.elim

theorem stp_sound {cur : FI} {t : List It} {st : St} {stk : List Fm} (h : stp E k cur t st stk) : Mean E cur t st stk := by
  intro w0 η S a w hS hR
  unfold stp at h
  split at h
  · exact ret_sound hE hk h hS hR
  · exact wp_skip (hk _ _ _ _ h w0 η S a w hS hR)
  · exact wp_region_list (hk _ _ _ _ h w0 η S a w hS hR)
  · exact h.out w0 η S a w hS hR
  · rename_i x y r
    refine wp_seq (wp_mono (hk _ _ _ _ h w0 η S a w hS hR) ?_)
    intro e a w hq
    cases e <;> exact hq
  · rename_i c x y r fr hp nx
    split at h
    · rename_i hc
      have hx := ev_sound hR.2.1 c
      rw [hc] at hx
      exact wp_cond_true (rs_bool hx) (hk _ _ _ _ h w0 η S a w hS hR)
    · rename_i hc
      have hx := ev_sound hR.2.1 c
      rw [hc] at hx
      exact wp_cond_false (rs_bool hx) (hk _ _ _ _ h w0 η S a w hS hR)
    · rename_i b hc
      have hx := ev_sound hR.2.1 c
      rw [hc] at hx
      have hx := rs_bool hx
      exact wp_cond_split hx (fun hb => hk _ _ _ _ (h.1 hb) w0 η S a w hS hR) (fun hb => hk _ _ _ _ (h.2 hb) w0 η S a w hS hR)
    · exact h.elim
  · rename_i id c r
    refine wp_block (wp_mono (hk _ _ _ _ h w0 η S a w hS hR) ?_)
    intro e a w hq
    cases e <;> exact hq
  · exact h.out w0 η S a w hS hR
  · rename_i id r
    split at h
    · rename_i r' hr
      exact wp_exit (tw_exit hr a w (hk _ _ _ _ h w0 η S a w hS hR))
    · exact h.elim
  · rename_i c r
    refine wp_scope_straight (wp_mono (hk _ _ _ _ h w0 η S a w hS hR) ?_)
    intro e a w hq
    cases e <;> exact hq
  · exact wp_label (hk _ _ _ _ h w0 η S a w hS hR)
  · exact wp_ret (tw_ret (ret_sound hE hk h hS hR))
  · exact h.elim
  · exact hk _ _ _ _ h w0 η S a w hS hR
  · rename_i all o l r fr hp nx
    simp only [TW, wpList]
    split at h
    · rename_i hg
      have hw : Region.wanted o (yielded all a.tmps) = true := by simp [Region.wanted, hg]
      rw [if_pos hw]
      exact .inl (perf_sound hE hk ⟨rfl, rfl, rfl⟩ h hS hR)
    · rename_i j want hg
      split at h
      · rename_i t ht
        have ht : (all[j]?).bind (·.dst) = some t := by rw [← Array.getElem?_toList, ← nth_eq]; exact ht
        have fact : ∀ b, lk fr t = some (.c (.bool b)) → a.tmps[t]? = some (.bool b.v) ∧ Region.wanted o (yielded all a.tmps) = (some b.v == some want) := by
          intro b hlk
          obtain ⟨v, hv1, hv2⟩ := hR.2.1.sl _ _ hlk
          have hv2 := rs_bool hv2
          subst hv2
          exact ⟨hv1, by simp [Region.wanted, hg, yielded_of ht hv1]⟩
        have skip : ∀ fr', RepF (cxS w0 hp (lt nx) η w) cur.nt fr' a → (Region.wanted o (yielded all a.tmps) = false) → fcF (fun fr' => k cur (.ops all l :: r) ⟨fr', hp, nx⟩ stk) (putF cur.nt fr' o.dst (.tup [])) →
            (if Region.wanted o (yielded all a.tmps) = true then o.wp E.P a w (wpList E.P all (TW E.P w0 cur S (RR E.P w0 (Fin w0 E.post) cur S) r) l) (TW E.P w0 cur S (RR E.P w0 (Fin w0 E.post) cur S) r) ∨
              (o.asks E.P a w ∧ LetsOut (TW E.P w0 cur S (RR E.P w0 (Fin w0 E.post) cur S) r)) else wpList E.P all (TW E.P w0 cur S (RR E.P w0 (Fin w0 E.post) cur S) r) l (a.put o.dst undef) w) := by
          intro fr' hF hne hgo
          rw [fcF_eq] at hgo
          rw [if_neg (by rw [hne]; simp)]
          exact hk _ _ _ _ hgo w0 η S _ w hS (RepA.fr hR (putF_sound hF rs_undef))
        have perform : ∀ fr', RepF (cxS w0 hp (lt nx) η w) cur.nt fr' a → (Region.wanted o (yielded all a.tmps) = true) → perf E k cur all o l r fr' hp nx stk →
            (if Region.wanted o (yielded all a.tmps) = true then o.wp E.P a w (wpList E.P all (TW E.P w0 cur S (RR E.P w0 (Fin w0 E.post) cur S) r) l) (TW E.P w0 cur S (RR E.P w0 (Fin w0 E.post) cur S) r) ∨
              (o.asks E.P a w ∧ LetsOut (TW E.P w0 cur S (RR E.P w0 (Fin w0 E.post) cur S) r)) else wpList E.P all (TW E.P w0 cur S (RR E.P w0 (Fin w0 E.post) cur S) r) l (a.put o.dst undef) w) := by
          intro fr' hF he hgo
          rw [if_pos he]
          exact .inl (perf_sound hE hk ⟨rfl, rfl, rfl⟩ hgo hS (RepA.fr hR hF))
        split at h
        · rename_i hlk
          obtain ⟨f1, f2⟩ := fact _ hlk
          split at h
          · exact perform fr hR.2.1 (by rw [f2]; rfl) h
          · exact skip fr hR.2.1 (by rw [f2]; rfl) h
        · rename_i hlk
          obtain ⟨f1, f2⟩ := fact _ hlk
          split at h
          · exact perform fr hR.2.1 (by rw [f2]; rfl) h
          · exact skip fr hR.2.1 (by rw [f2]; rfl) h
        · rename_i b hlk
          obtain ⟨f1, f2⟩ := fact _ hlk
          have hF : ∀ c : BE, b = c.v → RepF (cxS w0 hp (lt nx) η w) cur.nt ((t, .c (.bool c)) :: fr) a := fun c hc => cons_sound hR.2.1 f1 (by subst hc; exact rfl)
          split at h
          · cases b with
            | true => exact perform _ (hF .tt rfl) (by rw [f2]; rfl) (h.1 rfl)
            | false => exact skip _ (hF .ff rfl) (by rw [f2]; rfl) (h.2 rfl)
          · cases b with
            | true => exact skip _ (hF .tt rfl) (by rw [f2]; rfl) (h.1 rfl)
            | false => exact perform _ (hF .ff rfl) (by rw [f2]; rfl) (h.2 rfl)
        · rename_i l' hlk
          have hne : Region.wanted o (yielded all a.tmps) = false := by
            obtain ⟨v, hv1, vs, rfl, _⟩ := hR.2.1.sl _ _ hlk
            simp [Region.wanted, hg, yielded_tup ht hv1]
          exact skip fr hR.2.1 hne h
        · exact h.elim
      · exact h.elim
  · exact hk _ _ _ _ h w0 η S a w hS hR
  · exact hk _ _ _ _ h w0 η S a w hS hR
  · exact ⟨η, st, hR, h⟩
end

theorem go_sound {E : En} (hE : EnOk E) : ∀ n cur t st stk, go E n cur t st stk → Mean E cur t st stk
  | 0, _, _, _, _, h => h.elim
  | n + 1, _, _, _, _, h => stp_sound hE (go_sound hE n) h

end OE
