/- OE, part 6: the run over abstract states is right. Own work; generic over the program. -/
import Derived.Test.YthpllblcbbkfdaaOeRun
set_option linter.unusedVariables false
namespace OE
open Go Go.RowKit

structure EnOk (E : En) : Prop where
  tab : TabOk E.P E.ti
  inl : ∀ f fi c, E.inl f = some (fi, c) → E.P.funcs[f]? = some fi.fn ∧ fi.fn.body = some c ∧ (fi.fn.name == "runtime.NumGoroutine") = false ∧ fi.fn.ntmps = fi.nt ∧ fi.fn.results.toList = fi.res

theorem ev_sound {x : Cx} {nt : Nat} {fr : List (Nat × SV)} {a : Act} (h : RepF x nt fr a) : ∀ o, RS x (ev fr o) (a.eval o)
  | .tmp t => by
    simp only [ev, Act.eval]
    cases hl : lk fr t with
    | none => exact trivial
    | some sv =>
      obtain ⟨v, h1, h2⟩ := h.sl t sv hl
      have : a.tmps.getD t undef = v := by simp [Array.getD_eq_getD_getElem?, h1]
      rw [this]
      exact h2
  | .const v => rs_cv v
  | .func f => ⟨#[], rfl, trivial⟩
  | .global _ => trivial

theorem putF_sound {x : Cx} {nt : Nat} {fr : List (Nat × SV)} {a : Act} (h : RepF x nt fr a) {dst : Option Tmp} {sv : SV} {v : Value} (hv : RS x sv v) : RepF x nt (putF nt fr dst sv) (a.put dst v) := by
  cases dst with
  | none => exact h
  | some d =>
    simp only [putF, Act.put]
    split
    · rename_i hd
      refine ⟨fun t s ht => ?_, by simp [h.siz], h.dfr⟩
      simp only [lk] at ht
      split at ht
      · rename_i e
        subst e
        cases ht
        exact ⟨v, by rw [Array.getElem?_setIfInBounds_self_of_lt (by rw [h.siz]; exact hd)], hv⟩
      · rename_i e
        obtain ⟨u, h1, h2⟩ := h.sl t s ht
        exact ⟨u, by rw [Array.getElem?_setIfInBounds_ne (Ne.symm e)]; exact h1, h2⟩
    · rename_i hd
      refine ⟨fun t s ht => ?_, by simp [h.siz], h.dfr⟩
      obtain ⟨u, h1, h2⟩ := h.sl t s ht
      have : t < a.tmps.size := (Array.getElem?_eq_some_iff.1 h1).1
      rw [h.siz] at this
      exact ⟨u, by rw [Array.getElem?_setIfInBounds_ne (fun e => hd (by rw [e]; exact this))]; exact h1, h2⟩

theorem cons_sound {x : Cx} {nt : Nat} {fr : List (Nat × SV)} {a : Act} (h : RepF x nt fr a) {t : Nat} {sv : SV} {v : Value} (ht : a.tmps[t]? = some v) (hv : RS x sv v) : RepF x nt ((t, sv) :: fr) a :=
  ⟨fun s u hs => by
    simp only [lk] at hs
    split at hs
    · rename_i e; subst e; cases hs; exact ⟨v, ht, hv⟩
    · exact h.sl s u hs, h.siz, h.dfr⟩

theorem partOf_sound {x : Cx} {s : SV} {p : Bool × List C} {v : Value} (h : partOf s = some p) (hv : RS x s v) : RP x p v := by
  unfold partOf at h
  split at h
  · cases h; exact ⟨_, rfl, hv⟩
  · cases h; exact hv
  · cases h

theorem resC_sound {P : Program} {ti : Nat → Option TI} (ht : TabOk P ti) {w0 : W0} {hp : List (Nat × Ob)} {nx : Nat → Prop} {η : Nat → Option Nat × Value} {w : World} (hH : RepH w0 hp nx η w) {t : TypeId} {s : SV} {q : Q} {u : Value}
    (h : resC ti hp t s = some q) (hx : RS (cxS w0 hp nx η w) s u) : ∃ v, RS (cxS w0 hp nx η w) q.v v ∧ (do loadVar t (← asAddr u) : Go.Sem Value).run P w = .ok v w := by
  unfold resC at h
  split at h
  · rename_i b off
    obtain ⟨hb, k, hk, e⟩ := hx
    split at h
    · rename_i i T l hi hlk
      obtain ⟨k', vs, h1, h2, h3⟩ := hH.obs b _ hlk
      have hkk : k' = k := by have : some k' = some k := h1.symm.trans hk; simpa using this
      subst hkk
      obtain ⟨g1, g2, v, g3, g4⟩ := run_loadVar (P := P) ht hi h h2 (p := 0) h3 (fun j v hj => by simpa using hj)
      rw [Nat.zero_add] at g4
      refine ⟨v, g3, ?_⟩
      simp [e, asAddr, g4 w rfl]
    · cases h
  · cases h

def resOne (tmps : Array Value) : ResultVar → Go.Sem Value
  | .tmp t => pure (tmps.getD t undef)
  | .cell a t => do loadVar t (← asAddr (tmps.getD a undef))

theorem results_eq (fn : Func) (tmps : Array Value) : results fn tmps = (fn.results.mapM (resOne tmps) >>= fun vs => pure (if h : vs.size = 1 then vs[0] else .tuple vs)) := by
  unfold results
  congr 1

theorem resV_sound {P : Program} {ti : Nat → Option TI} (ht : TabOk P ti) {w0 : W0} {hp : List (Nat × Ob)} {nx : Nat → Prop} {η : Nat → Option Nat × Value} {w : World} (hH : RepH w0 hp nx η w) {nt : Nat} {fr : List (Nat × SV)} {a : Act}
    (hF : RepF (cxS w0 hp nx η w) nt fr a) : ∀ {l : List ResultVar} {m : List (Bool × List C)}, resV ti hp fr l = some m →
    ∃ vs, (l.mapM (resOne a.tmps)).run P w = .ok vs w ∧ RL (RP (cxS w0 hp nx η w)) m vs
  | [], m, h => by
    simp only [resV, Option.some.injEq] at h
    subst h
    exact ⟨[], rfl, trivial⟩
  | .tmp t :: r, m, h => by
    simp only [resV] at h
    split at h
    · rename_i p l hp' hl
      simp only [Option.some.injEq] at h
      subst h
      obtain ⟨vs, h1, h2⟩ := resV_sound ht hH hF hl
      have hv := ev_sound hF (.tmp t)
      simp only [ev, Act.eval] at hv
      refine ⟨a.tmps.getD t undef :: vs, ?_, partOf_sound hp' hv, h2⟩
      simp only [List.mapM_cons, Go.Sem.run_bind, Go.Sem.run_pure, Result.andThen_ok, h1, resOne]
    · cases h
  | .cell t T :: r, m, h => by
    simp only [resV] at h
    split at h
    · rename_i q l hq hl
      split at h
      · rename_i p hp'
        simp only [Option.some.injEq] at h
        subst h
        obtain ⟨vs, h1, h2⟩ := resV_sound ht hH hF hl
        have hv := ev_sound hF (.tmp t)
        simp only [ev, Act.eval] at hv
        obtain ⟨v, g1, g2⟩ := resC_sound (P := P) ht hH hq hv
        refine ⟨v :: vs, ?_, partOf_sound hp' g1, h2⟩
        simp only [List.mapM_cons]
        rw [Go.Sem.run_bind]
        simp only [resOne]
        rw [g2]
        simp only [Result.andThen_ok, Go.Sem.run_bind, h1, Go.Sem.run_pure]
      · cases h
    · cases h

theorem resS_sound {P : Program} {ti : Nat → Option TI} (ht : TabOk P ti) {w0 : W0} {hp : List (Nat × Ob)} {nx : Nat → Prop} {η : Nat → Option Nat × Value} {w : World} (hH : RepH w0 hp nx η w) {nt : Nat} {fr : List (Nat × SV)} {a : Act}
    (hF : RepF (cxS w0 hp nx η w) nt fr a) {fn : Func} {l : List ResultVar} (hl : fn.results.toList = l) {m : List (Bool × List C)} (h : resV ti hp fr l = some m) :
    ∃ v, (results fn a.tmps).run P w = .ok v w ∧ RS (cxS w0 hp nx η w) (resS m) v := by
  subst hl
  obtain ⟨vs, h1, h2⟩ := resV_sound (P := P) ht hH hF h
  have hr : (results fn a.tmps).run P w = .ok (if h : vs.toArray.size = 1 then vs.toArray[0] else .tuple vs.toArray) w := by
    rw [results_eq, Array.mapM_eq_mapM_toList, Go.Sem.run_bind, Go.Sem.run_map, h1]
    rfl
  refine ⟨_, hr, ?_⟩
  cases m with
  | nil =>
    cases vs with
    | nil => exact ⟨#[], rfl, trivial⟩
    | cons _ _ => exact h2.elim
  | cons p m =>
    obtain ⟨v, vs', rfl, hp, hm⟩ := rl_cons h2
    cases m with
    | cons p' m' =>
      obtain ⟨v', vs'', rfl, hp', hm'⟩ := rl_cons hm
      have e1 : resS (p :: p' :: m') = .tup (p :: p' :: m') := by
        unfold resS; split <;> simp_all
      rw [e1, dif_neg (by simp)]
      exact ⟨_, rfl, by simpa using h2⟩
    | nil =>
      have : vs' = [] := by cases vs' with | nil => rfl | cons _ _ => exact hm.elim
      subst this
      rw [dif_pos (by simp)]
      obtain ⟨b, l⟩ := p
      cases b with
      | true =>
        simp only [RP, if_true] at hp
        exact hp
      | false =>
        simp only [RP, Bool.false_eq_true, if_false] at hp
        obtain ⟨y, rfl, hy⟩ := hp
        exact hy

/-! ### the run -/

theorem RepA.fr {w0 : W0} {cur : FI} {st : St} {S : List (Fm × Act)} {η : Nat → Option Nat × Value} {a : Act} {w : World} (h : RepA w0 cur st S η a w) {fr : List (Nat × SV)} {a' : Act}
    (hF : RepF (cxS w0 st.hp (lt st.nx) η w) cur.nt fr a') : RepA w0 cur ⟨fr, st.hp, st.nx⟩ S η a' w := ⟨h.1, hF, h.2.2⟩

/-- the heap has gone on: the frames stand -/
theorem RepA.heap {w0 : W0} {cur : FI} {st : St} {S : List (Fm × Act)} {η η' : Nat → Option Nat × Value} {a : Act} {w w' : World} (h : RepA w0 cur st S η a w) {hp : List (Nat × Ob)} {nx : Nat} (hH : RepH w0 hp (lt nx) η' w')
    (hle : (cxS w0 st.hp (lt st.nx) η w).le (cxS w0 hp (lt nx) η' w')) : RepA w0 cur ⟨st.fr, hp, nx⟩ S η' a w' :=
  ⟨⟨hH, h.1.2⟩, RepF.mono hle h.2.1, fun p hp => ⟨RepF.mono hle (h.2.2 p hp).1, (h.2.2 p hp).2⟩⟩

theorem rs_undef {x : Cx} : RS x (.tup []) undef := ⟨#[], rfl, trivial⟩
theorem yielded_tup {all : Array Oper} {a : Act} {j t : Nat} {vs : Array Value} (h1 : (all[j]?).bind (·.dst) = some t) (h2 : a.tmps[t]? = some (.tuple vs)) : yielded all a.tmps j = none := by
  simp [yielded, h1, h2]
theorem yielded_of {all : Array Oper} {a : Act} {j t : Nat} {b : Bool} (h1 : (all[j]?).bind (·.dst) = some t) (h2 : a.tmps[t]? = some (.bool b)) : yielded all a.tmps j = some b := by
  simp [yielded, h1, h2]

theorem tw_exit {P : Program} {w0 : W0} {cur : FI} {S : List (Fm × Act)} {R : Act → World → Prop} {id : Nat} : ∀ {r r' : List It}, exitTo id r = some r' → ∀ a w, TW P w0 cur S R r' .normal a w → TW P w0 cur S R r (.exit id) a w
  | [], _, h, _, _, _ => by simp [exitTo] at h
  | .blk id' :: r, r', h, a, w, hh => by
    simp only [exitTo] at h
    simp only [TW]
    by_cases e : id' = id
    · subst e
      simp only [if_true, Option.some.injEq] at h
      subst h
      simpa using hh
    · rw [if_neg e] at h
      rw [if_neg (Ne.symm e)]
      exact tw_exit h a w hh
  | .code _ :: r, r', h, a, w, hh => tw_exit (r := r) h a w hh
  | .ops _ _ :: r, r', h, a, w, hh => tw_exit (r := r) h a w hh
  | .scp :: r, r', h, a, w, hh => tw_exit (r := r) h a w hh
  | .fin _ :: r, r', h, a, w, hh => tw_exit (r := r) h a w hh

theorem tw_ret {P : Program} {w0 : W0} {cur : FI} {S : List (Fm × Act)} {R : Act → World → Prop} {a : Act} {w : World} (h : R a w) : ∀ {r : List It}, TW P w0 cur S R r .ret a w
  | [] => h
  | .code _ :: r => tw_ret h (r := r)
  | .ops _ _ :: r => tw_ret h (r := r)
  | .blk _ :: r => tw_ret h (r := r)
  | .scp :: r => tw_ret h (r := r)
  | .fin _ :: r => tw_ret h (r := r)

theorem caps_rs {x : Cx} : ∀ {caps : List (Nat × Nat)} {m : List Value}, RL (fun (p : Nat × Nat) u => x.nm p.1 ∧ ∃ k, (x.η p.1).1 = some k ∧ u = .pointer (some ⟨k, p.2, none⟩)) caps m →
    RL (RS x) (caps.map fun p => .c (.ptr p.1 p.2)) m
  | [], [], _ => trivial
  | _ :: _, _ :: _, ⟨h1, h2⟩ => ⟨h1, caps_rs h2⟩
  | [], _ :: _, h => h.elim
  | _ :: _, [], h => h.elim

theorem tw_outgrown {P : Program} {w0 : W0} {cur : FI} {S : List (Fm × Act)} {R : Act → World → Prop} {a : Act} {w : World} : ∀ {r : List It}, TW P w0 cur S R r .outgrown a w → False
  | [], h => h
  | .code _ :: r, h => tw_outgrown (r := r) h
  | .ops _ _ :: r, h => tw_outgrown (r := r) h
  | .blk _ :: r, h => tw_outgrown (r := r) h
  | .scp :: r, h => tw_outgrown (r := r) h
  | .fin _ :: r, h => tw_outgrown (r := r) h

theorem upon_dst {P : Program} {o o' : Oper} (h : o.dst = o'.dst) (a : Act) (next : Act → World → Prop) (Q : Exit → Act → World → Prop) (r : Result Next) : o.upon P a next Q r = o'.upon P a next Q r := by
  cases r with
  | halt x w => cases x <;> rfl
  | ok n w => cases n <;> simp [Oper.upon, h]

/-- a call's operation comes to the call -/
theorem run_call {E : En} {x : Cx} {g : Operand → SV} {ρ : Operand → Value} (hg : ∀ o, RS x (g o) (ρ o)) {o : Oper} {f : Nat} {args : List SV} (h : cl g o.op = some (f, args)) {fn : Func} (hf : E.P.funcs[f]? = some fn)
    (hb : fn.body.isSome) (hn : (fn.name == "runtime.NumGoroutine") = false) : ∃ vs : Array Value, RL (RS x) args vs.toList ∧ ∀ w, (execOp ρ o).run E.P w = .ok (.enter f vs) w := by
  unfold cl at h
  split at h
  · rename_i c ho
    split at h
    · rename_i X hc
      split at h
      · rename_i f' caps hX
        simp only [Option.some.injEq, Prod.mk.injEq] at h
        obtain ⟨rfl, rfl⟩ := h
        have hx := hg X
        rw [hX] at hx
        obtain ⟨cs, e, hcs⟩ := hx
        refine ⟨c.args.map ρ ++ cs, ?_, fun w => ?_⟩
        · rw [Array.toList_append]
          refine RL.app ?_ ?_
          · have := rl_map hg c.args.toList
            simpa using this
          · exact caps_rs hcs
        · have hb' : fn.body.isNone = false := by cases hbb : fn.body with | none => simp [hbb] at hb | some _ => rfl
          simp only [execOp, ho, resolve, hc, e, Deferred.ofValue, invoke, callFunc, Sem.run_bind, Sem.run_pure, Result.andThen_ok, run_program, hf, hn, hb', Bool.false_eq_true, if_false, Array.empty_append]
      · rename_i f' b off hX
        simp only [Option.some.injEq, Prod.mk.injEq] at h
        obtain ⟨rfl, rfl⟩ := h
        have hx := hg X
        rw [hX] at hx
        obtain ⟨g1, k, g2, e⟩ := hx
        refine ⟨#[.pointer (some ⟨k, off, none⟩)] ++ c.args.map ρ, ?_, fun w => ?_⟩
        · rw [Array.toList_append]
          refine ⟨⟨g1, k, g2, rfl⟩, ?_⟩
          have := rl_map hg c.args.toList
          simpa using this
        · have hb' : fn.body.isNone = false := by cases hbb : fn.body with | none => simp [hbb] at hb | some _ => rfl
          simp only [execOp, ho, resolve, hc, e, Deferred.ofValue, invoke, callFunc, Sem.run_bind, Sem.run_pure, Result.andThen_ok, run_program, hf, hn, hb', Bool.false_eq_true, if_false, Array.append_empty]
      · cases h
    · cases h
  · cases h

theorem num_lk : ∀ {l : List SV} {n t : Nat} {s : SV}, lk (num l n) t = some s → n ≤ t ∧ l[t - n]? = some s
  | [], _, _, _, h => by simp [num, lk] at h
  | a :: l, n, t, s, h => by
    simp only [num, lk] at h
    split at h
    · rename_i e
      subst e
      cases h
      simp
    · obtain ⟨h1, h2⟩ := num_lk h
      refine ⟨by omega, ?_⟩
      have : t - n = (t - (n + 1)) + 1 := by omega
      rw [this]
      simpa using h2

theorem enter_rep {x : Cx} {args : List SV} {vs : Array Value} (h : RL (RS x) args vs.toList) {nt : Nat} (hn : args.length ≤ nt) : RepF x nt (num args 0) { tmps := vs ++ Array.replicate (nt - vs.size) undef, defers := [] } := by
  have hl := RL.len h
  simp only [Array.length_toList] at hl
  refine ⟨fun t s ht => ?_, by simp; omega, rfl⟩
  obtain ⟨_, h2⟩ := num_lk ht
  simp only [Nat.sub_zero] at h2
  obtain ⟨v, h3, h4⟩ := RL.get h h2
  have hlt : t < vs.size := by
    have := (List.getElem?_eq_some_iff.1 h3).1
    simpa using this
  exact ⟨v, by rw [Array.getElem?_append_left hlt]; simpa using h3, h4⟩

theorem nz_sound {x : Cx} {s : SV} {v : Value} (h : RS x s v) : RS x (nzS s) v := by
  have one : ∀ {c : C} {v : Value}, RC x c v → RC x (nzC c) v := fun {c v} h => by
    unfold nzC
    split <;> exact h
  unfold nzS
  split
  · exact one h
  · obtain ⟨vs, e, hl⟩ := h
    refine ⟨vs, e, ?_⟩
    generalize vs.toList = m at hl
    rename_i l
    clear e
    induction l generalizing m with
    | nil => exact hl
    | cons c l ih =>
      obtain ⟨v, m', rfl, h1, h2⟩ := rl_cons hl
      exact ⟨one h1, ih m' h2⟩
  · exact h

theorem nzs_sound {x : Cx} : ∀ {l : List SV} {m : List Value}, RL (RS x) l m → RL (RS x) (l.map nzS) m
  | [], [], _ => trivial
  | _ :: _, _ :: _, ⟨h1, h2⟩ => ⟨nz_sound h1, nzs_sound h2⟩
  | [], _ :: _, h => h.elim
  | _ :: _, [], h => h.elim


/-! ### guarded operations -/

theorem RepF.keep {x : Cx} {nt : Nat} {fr : List (Nat × SV)} {a a' : Act} (h : RepF x nt fr a) (hs : ∀ t, lk fr t ≠ none → a'.tmps[t]? = a.tmps[t]?) (hz : a'.tmps.size = a.tmps.size) (hd : a'.defers = a.defers) : RepF x nt fr a' :=
  ⟨fun t sv ht => by rw [hs t (by rw [ht]; simp)]; exact h.sl t sv ht, hz.trans h.siz, hd.trans h.dfr⟩

theorem put_keep {a : Act} {dst : Option Tmp} {v : Value} {t : Nat} (h : dst ≠ some t) : (a.put dst v).tmps[t]? = a.tmps[t]? := by
  cases dst with
  | none => rfl
  | some d => simp only [Act.put]; exact Array.getElem?_setIfInBounds_ne (fun e => h (by rw [e]))
theorem put_size {a : Act} {dst : Option Tmp} {v : Value} : (a.put dst v).tmps.size = a.tmps.size := by
  cases dst <;> simp [Act.put]
theorem put_defers {a : Act} {dst : Option Tmp} {v : Value} : (a.put dst v).defers = a.defers := by
  cases dst <;> rfl

/-- nothing that is read as a Bool -/
def NoB (a : Act) (d : Nat) : Prop := ∀ b, a.tmps[d]? ≠ some (.bool b)
theorem put_nob {a : Act} {d : Nat} : NoB (a.put (some d) undef) d := by
  intro b h
  simp only [Act.put] at h
  by_cases hd : d < a.tmps.size
  · rw [Array.getElem?_setIfInBounds_self_of_lt hd] at h
    cases h
  · rw [Array.getElem?_eq_none (by simp; omega)] at h; cases h

/-- what is guarded by what does not come is left out -/
theorem skip_run {P : Program} {all : Array Oper} {Q : Exit → Act → World → Prop} {fr : List (Nat × SV)} {t : Nat} {want : Bool} {b : Bool} (hb : b ≠ want) {rest : List Oper} {w : World} : ∀ {l : List Oper} {ds : List Nat} {a : Act},
    skB fr all.toList t want ds l = true → a.tmps[t]? = some (.bool b) → (∀ d ∈ ds, NoB a d ∧ d ≠ t) → (lk fr t ≠ none) →
    (∀ a', (∀ s, (∀ o ∈ l, o.dst ≠ some s) → a'.tmps[s]? = a.tmps[s]?) → a'.tmps.size = a.tmps.size → a'.defers = a.defers → wpList P all Q rest a' w) → wpList P all Q (l ++ rest) a w
  | [], ds, a, _, _, _, _, h => h a (fun _ _ => rfl) rfl rfl
  | o :: l, ds, a, hk, hv, hds, hft, h => by
    unfold skB at hk
    split at hk
    · cases hk
    · rename_i j w hg
      split at hk
      · cases hk
      · rename_i s hs
        split at hk
        · cases hk
        · rename_i hok
          have hs' : (all[j]?).bind (·.dst) = some s := by rw [← Array.getElem?_toList, ← nth_eq]; exact hs
          have hw : Region.wanted o (yielded all a.tmps) = false := by
            split at hok
            · rename_i e
              have e := Nat.eq_of_beq_eq_true e
              subst e
              have := (eqW_iff _ _).1 hok
              subst this
              simp [Region.wanted, hg, yielded_of hs' hv, hb]
            · have hn := (hds s (memN_mem hok)).1
              have : yielded all a.tmps j = none := by
                unfold yielded
                rw [hs']
                cases hx : a.tmps[s]? with
                | none => simp [hx]
                | some u => cases u <;> simp_all [NoB]
              simp [Region.wanted, hg, this]
          simp only [List.cons_append, wpList]
          rw [if_neg (by rw [hw]; simp)]
          split at hk
          · rename_i hd
            rw [hd]
            exact skip_run hb hk hv hds hft fun a' h1 h2 h3 => h a' (fun s hs => h1 s fun o' ho' => hs o' (by simp [ho'])) h2 h3
          · rename_i d hd
            rw [hd]
            split at hk
            · cases hk
            · rename_i hdt
              have hdt : d ≠ t := fun e => by subst e; simp at hdt
              split at hk
              · cases hk
              · rename_i hln
                have hln : lk fr d = none := by cases hl : lk fr d with | none => rfl | some _ => rw [hl] at hln; simp [isN] at hln
                refine skip_run hb hk ?_ ?_ hft ?_
                · rw [put_keep (fun e => hdt (by cases e; rfl))]; exact hv
                · intro c hc
                  rcases List.mem_cons.1 hc with rfl | hc
                  · exact ⟨put_nob, hdt⟩
                  · refine ⟨?_, (hds c hc).2⟩
                    by_cases e : c = d
                    · subst e; exact put_nob
                    · intro b' hb'
                      rw [put_keep (fun e' => e (by cases e'; rfl))] at hb'
                      exact (hds c hc).1 b' hb'
                · intro a' h1 h2 h3
                  refine h a' (fun s hs => ?_) (h2.trans put_size) (h3.trans put_defers)
                  rw [h1 s (fun o' ho' => hs o' (by simp [ho'])), put_keep (fun e => hs o (by simp) (by rw [hd]; exact e))]

theorem skB_dst {fr : List (Nat × SV)} {all : List Oper} {t : Nat} {want : Bool} : ∀ {l : List Oper} {ds : List Nat}, skB fr all t want ds l = true → ∀ o ∈ l, ∀ s, o.dst = some s → lk fr s = none
  | [], _, _, _, h, _, _ => by cases h
  | o :: l, ds, hk, o', ho, s, hs => by
    unfold skB at hk
    split at hk
    · cases hk
    · split at hk
      · cases hk
      · split at hk
        · cases hk
        · split at hk
          · rename_i hd
            rcases List.mem_cons.1 ho with rfl | ho
            · rw [hd] at hs; cases hs
            · exact skB_dst hk o' ho s hs
          · rename_i d hd
            split at hk
            · cases hk
            · split at hk
              · cases hk
              · rename_i hln
                rcases List.mem_cons.1 ho with rfl | ho
                · rw [hd] at hs; cases hs
                  cases hl : lk fr s with | none => rfl | some _ => rw [hl] at hln; simp [isN] at hln
                · exact skB_dst hk o' ho s hs

theorem segP_spec {fr : List (Nat × SV)} {all : List Oper} {t j : Nat} {w : Bool} {l l' : List Oper} {p : Oper} {x y : Operand} (h : segP fr all t j w l = some (p, x, y, l')) :
    l = segA j l ++ p :: l' ∧ p.op = .pick (.tmp t) x y ∧ skB fr all t w [] (segA j l) = true := by
  unfold segP at h
  split at h
  · rename_i p' l'' hB
    split at h
    · rename_i c x' y' hp
      split at h
      · rename_i hc
        split at h
        · split at h
          · rename_i hk
            cases h
            have := Nat.eq_of_beq_eq_true hc
            subst this
            exact ⟨by rw [← hB, seg_eq], hp, hk⟩
          · cases h
        · cases h
      · cases h
    · cases h
  · cases h

/-- the pick itself -/
theorem pick_wp {P : Program} {o : Oper} {x y : Operand} {t : Nat} (hp : o.op = .pick (.tmp t) x y) {a : Act} {b : Bool} (hv : a.tmps[t]? = some (.bool b)) {w : World} {K : Act → World → Prop} {Q : Exit → Act → World → Prop}
    (h : K (a.put o.dst (if b = true then a.eval x else a.eval y)) w) : o.wp P a w K Q := by
  unfold Oper.wp
  have he : a.eval (.tmp t) = .bool b := by simp [Act.eval, Array.getD_eq_getD_getElem?, hv]
  have hrun : (execOp a.eval o).run P w = .ok (.value (if b = true then a.eval x else a.eval y)) w := by
    cases o
    simp only at hp
    subst hp
    simp only [execOp, he]
    cases b <;> rfl
  rw [hrun, Oper.upon_value]
  exact h

section
variable {E : En} (hE : EnOk E) {nt : Nat} {all : Array Oper} {hp : List (Nat × Ob)} {nx : Nat}

theorem perfG_skip {C : Prop} (hC : ¬ C) {o : Oper} {fr : List (Nat × SV)} {K : List (Nat × SV) → Prop} (h : perfG E nt hp C o fr K) : ∃ fr', K fr' := by
  unfold perfG at h
  split at h
  · rw [hG_eq, pG_eq, fcS_eq, fcF_eq] at h
    exact ⟨_, (h fun c => (hC c).elim).2⟩
  · split at h
    · rw [fcA_eq, fcA_eq] at h
      obtain ⟨pf, ⟨s, hs⟩, h, _⟩ := h.out
      have h := h s hs
      rw [fcS_eq, fcF_eq] at h
      exact ⟨_, h⟩
    · exact h.elim

theorem sgo_skip : ∀ (n : Nat) {C : Prop} (hC : ¬ C) {l : List Oper} {fr : List (Nat × SV)} {K : List (Nat × SV) → Prop}, sgo E nt all.toList hp n C l fr K → ∃ fr', K fr'
  | 0, _, _, _, _, _, h => by unfold sgo at h; exact h.elim
  | n + 1, C, hC, [], fr, K, h => by unfold sgo at h; exact ⟨fr, h⟩
  | n + 1, C, hC, o :: l, fr, K, h => by
    have inner : ∀ {b w : Bool} {x y : Operand} {p : Oper} {l' sg : List Oper} {fr1 : List (Nat × SV)}, sgo E nt all.toList hp n (C ∧ b = w) sg fr1 (fun fr' => match mrgW w b fr fr' x y with
                      | some v => fcS (fun v => fcF (fun fr => sgo E nt all.toList hp n C l' fr K) (putF nt fr p.dst v)) v
                      | none => False) → ∃ fr', K fr' := by
      intro b w x y p l' sg fr1 h
      obtain ⟨fr', h⟩ := sgo_skip n (fun c => hC c.1) h
      split at h
      · rw [fcS_eq, fcF_eq] at h
        exact sgo_skip n hC h
      · exact h.elim
    unfold sgo at h
    split at h
    · exact h.elim
    · split at h
      · exact h.elim
      · split at h
        · split at h
          · obtain ⟨fr', h⟩ := perfG_skip hC h
            exact sgo_skip n hC h
          · exact h.elim
        · split at h
          · obtain ⟨fr', h⟩ := perfG_skip hC h
            exact sgo_skip n hC h
          · exact h.elim
        · split at h
          · split at h
            · exact h.elim
            · split at h
              · exact h.elim
              · split at h
                · split at h
                  · exact h.elim
                  · split at h
                    · exact inner h
                    · exact h.elim
                  · split at h
                    · exact inner h
                    · exact h.elim
                · exact h.elim
          · exact h.elim
        · exact h.elim

include hE

theorem perfG_run {cur : FI} (hnt : nt = cur.nt) {C : Prop} (hC : C) {o : Oper} {fr : List (Nat × SV)} {K : List (Nat × SV) → Prop} (h : perfG E nt hp C o fr K) {w0 : W0} {η : Nat → Option Nat × Value} {S : List (Fm × Act)} {a : Act} {w : World}
    (hR : RepA w0 cur ⟨fr, hp, nx⟩ S η a w) {X : Act → World → Prop} {Q : Exit → Act → World → Prop}
    (hX : ∀ fr' v w', K fr' → RepA w0 cur ⟨fr', hp, nx⟩ S η (a.put o.dst v) w' → Below w.heap.size w w' → X (a.put o.dst v) w') : o.wp E.P a w X Q := by
  subst hnt
  unfold perfG at h
  split at h
  · rename_i qh qp qv' hq
    obtain ⟨h1, h2⟩ := qm_sound (P := E.P) hE.tab hR.1.1 (fun _ _ h => h) (ev_sound hR.2.1) hq
    rw [hG_eq, pG_eq, fcS_eq, fcF_eq] at h
    obtain ⟨hpp, hgo⟩ := h fun _ => h1
    obtain ⟨v, hv, hy⟩ := h2 (hpp hC)
    have hrun := hy w (Below.refl _ _)
    unfold Oper.wp
    rw [hrun, Oper.upon_value]
    exact hX _ _ _ hgo (hR.fr (putF_sound hR.2.1 hv)) (Below.refl _ _)
  · split at h
    · rename_i f args hcl
      rw [fcA_eq, fcA_eq] at h
      obtain ⟨pf, _, hK, hcg⟩ := h.out
      obtain ⟨⟨fn, hf1, hf2, hf3⟩, hrest⟩ := hcg hC
      obtain ⟨vs, hvs, hrun⟩ := run_call (E := E) (ev_sound hR.2.1) hcl hf1 hf2 hf3
      unfold Oper.wp
      rw [hrun, Oper.upon_enter]
      refine (hrest w0 hp nx η w vs hR.1.1 (nzs_sound hvs)).mono ?_
      rintro e w' ⟨s, v, rfl, hs, hv, hb⟩
      have hle := cx_below (w0 := w0) (hp := hp) (nx := lt nx) (η := η) hb
      have hR' := hR.heap (hR.1.1.below hb) hle
      have hK := hK s hs
      rw [fcS_eq, fcF_eq] at hK
      exact hX _ _ _ hK (hR'.fr (putF_sound hR'.2.1 hv)) hb
    · exact h.elim

theorem sgo_run {cur : FI} (hnt : nt = cur.nt) : ∀ (n : Nat) {C : Prop} (hC : C) {l : List Oper} {fr : List (Nat × SV)} {K : List (Nat × SV) → Prop} (h : sgo E nt all.toList hp n C l fr K) {w0 : W0} {η : Nat → Option Nat × Value} {S : List (Fm × Act)} {a : Act} {w : World}
    (hR : RepA w0 cur ⟨fr, hp, nx⟩ S η a w) {rest : List Oper} {Q : Exit → Act → World → Prop}
    (hX : ∀ fr' a' w', K fr' → RepA w0 cur ⟨fr', hp, nx⟩ S η a' w' → Below w.heap.size w w' → (∀ s, (∀ o ∈ l, o.dst ≠ some s) → a'.tmps[s]? = a.tmps[s]?) → a'.tmps.size = a.tmps.size → a'.defers = a.defers → wpList E.P all Q rest a' w'),
    wpList E.P all Q (l ++ rest) a w
  | 0, _, _, _, _, _, h, _, _, _, _, _, _, _, _, _ => by unfold sgo at h; exact h.elim
  | n + 1, C, hC, [], fr, K, h, w0, η, S, a, w, hR, rest, Q, hX => by
    unfold sgo at h
    exact hX fr a w h hR (Below.refl _ _) (fun _ _ => rfl) rfl rfl
  | n + 1, C, hC, o :: l, fr, K, h, w0, η, S, a, w, hR, rest, Q, hX => by
    have one : ∀ {j t : Nat} {v : Bool}, o.guard = some (j, v) → nth all.toList j = some t → a.tmps[t]? = some (.bool v) → perfG E nt hp C o fr (fun fr' => sgo E nt all.toList hp n C l fr' K) → wpList E.P all Q (o :: l ++ rest) a w := by
      intro j t v hg ht hav h
      have ht : (all[j]?).bind (·.dst) = some t := by rw [← Array.getElem?_toList, ← nth_eq]; exact ht
      simp only [List.cons_append, wpList]
      rw [if_pos (by simp [Region.wanted, hg, yielded_of ht hav])]
      refine .inl (perfG_run hE hnt hC h hR fun fr' v w' hK hR' hb => ?_)
      refine sgo_run hnt n hC hK hR' fun fr2 a2 w2 hK2 hR2 hb2 hs2 hz2 hd2 => ?_
      refine hX fr2 a2 w2 hK2 hR2 (hb.trans (hb2.mono hb.size)) (fun s hs => ?_) (hz2.trans put_size) (hd2.trans put_defers)
      rw [hs2 s (fun o' ho' => hs o' (by simp [ho'])), put_keep (hs o (by simp))]
    have inner : ∀ {j t : Nat} {b v : Bool} {x y : Operand} {p : Oper} {l' : List Oper}, lk fr t = some (.c (.bool (.sym b))) → (∃ v0, o.guard = some (j, v0)) → nth all.toList j = some t → segP fr all.toList t j v (o :: l) = some (p, x, y, l') →
        (∃ j2 t2 w2, p.guard = some (j2, w2) ∧ nth all.toList j2 = some t2 ∧ ∃ c : BE, c.v = w2 ∧ lk fr t2 = some (.c (.bool c))) →
        sgo E nt all.toList hp n (C ∧ b = v) (segA j (o :: l)) ((t, .c (.bool (ofW v))) :: fr) (fun fr' => match mrgW v b fr fr' x y with
                      | some v => fcS (fun v => fcF (fun fr => sgo E nt all.toList hp n C l' fr K) (putF nt fr p.dst v)) v
                      | none => False) → wpList E.P all Q (o :: l ++ rest) a w := by
      rintro j t b v x y p l' hlk _ ht hseg ⟨j2, t2, w2, hg2, ht2, c, hc, hlk2⟩ h
      obtain ⟨hl, hpop, hsk⟩ := segP_spec hseg
      obtain ⟨u, hu1, hu2⟩ := hR.2.1.sl _ _ hlk
      have hu2 : u = .bool b := hu2
      subst hu2
      have ht2' : (all[j2]?).bind (·.dst) = some t2 := by rw [← Array.getElem?_toList, ← nth_eq]; exact ht2
      have hin : ∀ s, (∀ o' ∈ o :: l, o'.dst ≠ some s) → (∀ o' ∈ segA j (o :: l), o'.dst ≠ some s) ∧ p.dst ≠ some s ∧ ∀ o' ∈ l', o'.dst ≠ some s := fun s hs => by
        rw [hl] at hs
        exact ⟨fun o' ho' => hs o' (by simp [ho']), hs p (by simp), fun o' ho' => hs o' (by simp [ho'])⟩
      have behind : ∀ (fr' : List (Nat × SV)) (a' : Act) (w' : World), (match mrgW v b fr fr' x y with
                      | some v => fcS (fun v => fcF (fun fr => sgo E nt all.toList hp n C l' fr K) (putF nt fr p.dst v)) v
                      | none => False) → RepA w0 cur ⟨fr, hp, nx⟩ S η a' w' → (b = v → RepF (cxS w0 hp (lt nx) η w') cur.nt fr' a') → Below w.heap.size w w' → (∀ s, (∀ o' ∈ segA j (o :: l), o'.dst ≠ some s) → a'.tmps[s]? = a.tmps[s]?) → a'.tmps.size = a.tmps.size → a'.defers = a.defers →
          wpList E.P all Q ((p :: l') ++ rest) a' w' := by
        intro fr' a' w' hK hR' hF' hb' hs' hz' hd'
        split at hK
        · rename_i z hz
          rw [fcS_eq, fcF_eq] at hK
          simp only [List.cons_append, wpList]
          have hc2 : a'.tmps[t2]? = some (.bool w2) := by
            obtain ⟨u, g1, g2⟩ := hR'.2.1.sl _ _ hlk2
            have g2 : u = .bool c.v := g2
            rw [g2, hc] at g1; exact g1
          have hcb : a'.tmps[t]? = some (.bool b) := by
            obtain ⟨u, g1, g2⟩ := hR'.2.1.sl _ _ hlk
            have g2 : u = .bool b := g2
            rw [g2] at g1; exact g1
          rw [if_pos (by simp [Region.wanted, hg2, yielded_of ht2' hc2])]
          refine .inl (pick_wp hpop hcb ?_)
          have hv : RS (cxS w0 hp (lt nx) η w') z (if b = true then a'.eval x else a'.eval y) := by
            unfold mrgW at hz
            cases v with
            | true =>
              refine mrg_sound hz (fun hb => ?_) (fun hb => ?_)
              · rw [if_pos hb]; exact ev_sound (hF' hb) x
              · rw [if_neg (by rw [hb]; simp)]; exact ev_sound hR'.2.1 y
            | false =>
              refine mrg_sound hz (fun hb => ?_) (fun hb => ?_)
              · rw [if_pos hb]; exact ev_sound hR'.2.1 x
              · rw [if_neg (by rw [hb]; simp)]; exact ev_sound (hF' hb) y
          have hR2 : RepA w0 cur ⟨putF nt fr p.dst z, hp, nx⟩ S η (a'.put p.dst (if b = true then a'.eval x else a'.eval y)) w' := by
            rw [hnt]; exact hR'.fr (putF_sound hR'.2.1 hv)
          refine sgo_run hnt n hC hK hR2 fun fr2 a2 w2 hK2 hR2 hb2 hs2 hz2 hd2 => ?_
          refine hX fr2 a2 w2 hK2 hR2 (hb'.trans (hb2.mono hb'.size)) (fun s hs => ?_) ((hz2.trans put_size).trans hz') ((hd2.trans put_defers).trans hd')
          obtain ⟨i1, i2, i3⟩ := hin s hs
          rw [hs2 s i3, put_keep i2, hs' s i1]
        · exact hK.elim
      have hfr : ∀ (a' : Act), (∀ s, (∀ o' ∈ segA j (o :: l), o'.dst ≠ some s) → a'.tmps[s]? = a.tmps[s]?) → ∀ s, lk fr s ≠ none → a'.tmps[s]? = a.tmps[s]? := fun a' h s hs =>
        h s fun o2 ho2 e => hs (skB_dst hsk o2 ho2 s e)
      have hsplit : o :: l ++ rest = segA j (o :: l) ++ ((p :: l') ++ rest) := by conv => lhs; rw [hl]
                                                                                  simp
      rw [hsplit]
      by_cases hbv : b = v
      · have hR1 : RepA w0 cur ⟨(t, .c (.bool (ofW v))) :: fr, hp, nx⟩ S η a w := hR.fr (cons_sound hR.2.1 hu1 (by subst hbv; cases b <;> exact rfl))
        refine sgo_run hnt n ⟨hC, hbv⟩ h hR1 fun fr' a' w' hK hR' hb' hs' hz' hd' => ?_
        refine behind fr' a' w' hK ⟨hR'.1, ?_, hR'.2.2⟩ (fun _ => hR'.2.1) hb' hs' hz' hd'
        exact RepF.keep (RepF.mono (cx_below hb') hR.2.1) (hfr a' hs') hz' hd'
      · obtain ⟨fr', hK⟩ := sgo_skip n (fun c => hbv c.2) h
        refine skip_run hbv hsk hu1 (fun _ h => by cases h) (by rw [hlk]; simp) fun a' hs' hz' hd' => ?_
        exact behind fr' a' w hK (hR.fr (RepF.keep hR.2.1 (hfr a' hs') hz' hd')) (fun h => (hbv h).elim) (Below.refl _ _) hs' hz' hd'
    unfold sgo at h
    split at h
    · exact h.elim
    · rename_i j v hg
      split at h
      · exact h.elim
      · rename_i t ht
        have at_ : ∀ c : BE, lk fr t = some (.c (.bool c)) → a.tmps[t]? = some (.bool c.v) := fun c hc => by
          obtain ⟨u, g1, g2⟩ := hR.2.1.sl _ _ hc
          have g2 : u = .bool c.v := g2
          rw [g2] at g1; exact g1
        split at h
        · rename_i hlk
          split at h
          · exact one hg ht (at_ _ hlk) h
          · exact h.elim
        · rename_i hlk
          split at h
          · exact one hg ht (at_ _ hlk) h
          · exact h.elim
        · rename_i b hlk
          split at h
          · rename_i p x y l' hseg
            split at h
            · exact h.elim
            · rename_i j2 w2 hg2
              split at h
              · exact h.elim
              · rename_i t2 ht2
                split at h
                · rename_i c2 hlk2
                  split at h
                  · exact h.elim
                  · split at h
                    · exact inner hlk ⟨_, hg⟩ ht hseg ⟨j2, t2, _, hg2, ht2, .tt, rfl, hlk2⟩ h
                    · exact h.elim
                  · split at h
                    · exact inner hlk ⟨_, hg⟩ ht hseg ⟨j2, t2, _, hg2, ht2, .ff, rfl, hlk2⟩ h
                    · exact h.elim
                · exact h.elim
          · exact h.elim
        · exact h.elim
end

section
variable {E : En} (hE : EnOk E) {k : FI → List It → St → List Fm → Prop} (hk : ∀ cur t st stk, k cur t st stk → Mean E cur t st stk)
include hE hk

theorem ret_sound {cur : FI} {fr : List (Nat × SV)} {hp : List (Nat × Ob)} {nx : Nat} {stk : List Fm} (h : retG E k cur fr hp nx stk) {w0 : W0} {η : Nat → Option Nat × Value} {S : List (Fm × Act)} {a : Act} {w : World} (hS : S.map (·.1) = stk)
    (hR : RepA w0 cur ⟨fr, hp, nx⟩ S η a w) : RR E.P w0 (Fin w0 E.post) cur S a w := by
  unfold retG at h
  split at h
  · rename_i l hl
    rw [fcS_eq] at h
    obtain ⟨v, h1, h2⟩ := resS_sound (P := E.P) hE.tab hR.1.1 hR.2.1 hR.1.2 hl
    split at h
    · cases S with
      | cons _ _ => simp at hS
      | nil => exact ⟨hR.2.1.dfr, v, h1, η, _, ⟨fr, hp, nx⟩, hR.1.1, h2, h⟩
    · rename_i f s
      rw [fcF_eq] at h
      cases S with
      | nil => simp at hS
      | cons p S =>
        obtain ⟨f', a0⟩ := p
        simp only [List.map_cons, List.cons.injEq] at hS
        obtain ⟨rfl, hS⟩ := hS
        refine ⟨hR.2.1.dfr, v, h1, ?_⟩
        have hp := hR.2.2 (f', a0) (by simp)
        exact hk _ _ _ _ h w0 η S _ w hS ⟨⟨hR.1.1, hp.2⟩, putF_sound hp.1 h2, fun q hq => hR.2.2 q (by simp [hq])⟩
  · exact h.elim

theorem perf_sound {cur : FI} {all : Array Oper} {o o' : Oper} (hoo : o'.op = o.op ∧ o'.dst = o.dst ∧ o'.type = o.type) {l : List Oper} {r : List It} {fr : List (Nat × SV)} {hp : List (Nat × Ob)} {nx : Nat} {stk : List Fm} (h : perf E k cur all o l r fr hp nx stk) {w0 : W0}
    {η : Nat → Option Nat × Value} {S : List (Fm × Act)} {a : Act} {w : World} (hS : S.map (·.1) = stk) (hR : RepA w0 cur ⟨fr, hp, nx⟩ S η a w) :
    o'.wp E.P a w (wpList E.P all (TW E.P w0 cur S (RR E.P w0 (Fin w0 E.post) cur S) r) l) (TW E.P w0 cur S (RR E.P w0 (Fin w0 E.post) cur S) r) := by
  obtain ⟨e1, e2, e3⟩ := hoo
  have hexec : execOp a.eval o' = execOp a.eval o := by
    cases o; cases o'
    simp only at e1 e2 e3
    subst e1 e2 e3
    rfl
  unfold perf at h
  split at h
  · rename_i qh qp qv' hq
    obtain ⟨h1, h2⟩ := qm_sound (P := E.P) hE.tab hR.1.1 (fun _ _ h => h) (ev_sound hR.2.1) hq
    rw [hq_eq, pq_eq, fcS_eq, fcF_eq] at h
    obtain ⟨hpp, hgo⟩ := h h1
    obtain ⟨v, hv, hy⟩ := h2 hpp
    have hrun := hy w (Below.refl _ _)
    unfold Oper.wp
    rw [hexec, hrun, Oper.upon_value, e2]
    exact hk _ _ _ _ hgo w0 η S _ w hS (hR.fr (putF_sound hR.2.1 hv))
  · split at h
    · rename_i eh ep ev' ch nx' he
      obtain ⟨h1, h2⟩ := em_sound (P := E.P) hE.tab (show ¬ lt nx nx from Nat.lt_irrefl _) hR.1.1 (fun _ _ h => h) (ev_sound hR.2.1) he
      rw [hq_eq, pq_eq, fcS_eq, fcH_eq, fcF_eq] at h
      obtain ⟨hpp, hgo⟩ := h h1
      obtain ⟨n, v, w', η', hrun, hn, hH, hle, hv⟩ := h2 hpp
      rw [nmE_lt (em_nx he).1] at hH hle hv
      have hR' := hR.heap hH hle
      have hfin := hk _ _ _ _ hgo w0 η' S (a.put o.dst v) w' hS (hR'.fr (putF_sound hR'.2.1 hv))
      unfold Oper.wp
      rw [hexec, hrun]
      rcases hn with rfl | ⟨rfl, rfl⟩
      · rw [Oper.upon_value, e2]; exact hfin
      · rw [Oper.upon_skip, e2]; exact hfin
    · split at h
      · rename_i kk es n z ok hlm
        obtain ⟨hwf, h⟩ := h
        obtain ⟨f, sv, v, hK, hv, hrun⟩ := lmL_sound (P := E.P) hE.tab hR.1.1 (ev_sound hR.2.1) hlm hwf h
        rw [fcS_eq, fcF_eq] at hK
        unfold Oper.wp
        rw [hexec, hrun, Oper.upon_value, e2]
        exact hk _ _ _ _ hK w0 η S _ w hS (hR.fr (putF_sound hR.2.1 hv))
      · split at h
        · rename_i f args hcl
          rw [fcA_eq] at h
          split at h
          · rename_i fi c hin
            obtain ⟨g1, g2, g3, g4, g5⟩ := hE.inl _ _ _ hin
            obtain ⟨vs, hvs, hrun⟩ := run_call (E := E) (ev_sound hR.2.1) hcl g1 (by rw [g2]; rfl) g3
            unfold Oper.wp
            rw [hexec, hrun, Oper.upon_enter]
            obtain ⟨hlen, hgo⟩ := btr_out h
            have hlen := Nat.le_of_ble_eq_true hlen
            rw [fcN_eq] at hgo
            refine calls_of_wp g1 g2 ?_
            have hF := enter_rep (x := cxS w0 hp (lt nx) η w) hvs hlen
            rw [← g4] at hF
            have hm := hk _ _ _ _ hgo w0 η ((⟨cur, fr, .ops all l :: r, o.dst⟩, a) :: S) _ w (by simp [hS])
              ⟨⟨hR.1.1, g5⟩, by rw [← g4]; exact hF, fun p hp => by
                rcases List.mem_cons.1 hp with rfl | hp
                · exact ⟨hR.2.1, hR.1.2⟩
                · exact hR.2.2 p hp⟩
            refine wp_mono hm ?_
            intro ex a'' w'' hq
            have hret : RR E.P w0 (Fin w0 E.post) fi ((⟨cur, fr, .ops all l :: r, o.dst⟩, a) :: S) a'' w'' →
                a''.defers = [] ∧ ∃ v, (results fi.fn a''.tmps).run E.P w'' = .ok v w'' ∧ wpList E.P all (TW E.P w0 cur S (RR E.P w0 (Fin w0 E.post) cur S) r) l (a.put o'.dst v) w'' := fun hq => by
              obtain ⟨q1, v, q2, q3⟩ := hq
              exact ⟨q1, v, q2, by rw [e2]; exact q3⟩
            cases ex with
            | normal => exact hret hq
            | ret => exact hret hq
            | exit id => exact hq.elim
            | goto l => exact hq.elim
            | panic ch => exact hq.elim
            | outgrown => exact hq.elim
          · rw [fcA_eq] at h
            have hm := h.out ⟨_, hcl, rfl⟩ w0 η S a w hS hR
            simp only [TW, wpList, Region.wanted, if_true] at hm
            rcases hm with hm | ⟨_, a', w', hq⟩
            · unfold Oper.wp at hm ⊢
              rw [hexec, upon_dst e2]
              exact hm
            · exact (tw_outgrown hq).elim
        · have hm := h.out w0 η S a w hS hR
          simp only [TW, wpList, Region.wanted, if_true] at hm
          rcases hm with hm | ⟨_, a', w', hq⟩
          · unfold Oper.wp at hm ⊢
            rw [hexec, upon_dst e2]
            exact hm
          · exact (tw_outgrown hq).elim

theorem stp_sound {cur : FI} {t : List It} {st : St} {stk : List Fm} (h : stp E k cur t st stk) : Mean E cur t st stk := by
  intro w0 η S a w hS hR
  unfold stp at h
  split at h
  · exact ret_sound hE hk h hS hR
  · exact wp_skip (hk _ _ _ _ h w0 η S a w hS hR)
  · exact wp_region_list (hk _ _ _ _ h w0 η S a w hS hR)
  · exact h.out w0 η S a w hS hR
  · rename_i x y r
    refine wp_seq (wp_mono (hk _ _ _ _ h w0 η S a w hS hR) ?_)
    intro e a w hq
    cases e <;> exact hq
  · rename_i c x y r fr hp nx
    split at h
    · rename_i hc
      have hx := ev_sound hR.2.1 c
      rw [hc] at hx
      exact wp_cond_true (rs_bool hx) (hk _ _ _ _ h w0 η S a w hS hR)
    · rename_i hc
      have hx := ev_sound hR.2.1 c
      rw [hc] at hx
      exact wp_cond_false (rs_bool hx) (hk _ _ _ _ h w0 η S a w hS hR)
    · rename_i b hc
      have hx := ev_sound hR.2.1 c
      rw [hc] at hx
      have hx := rs_bool hx
      unfold spl at h
      rw [fcF_eq, fcF_eq] at h
      have hF : ∀ e : BE, b = e.v → RepF (cxS w0 hp (lt nx) η w) cur.nt (cnd c e fr) a := by
        intro e he
        cases c with
        | tmp t =>
          show RepF _ _ ((t, .c (.bool e)) :: fr) a
          simp only [ev] at hc
          cases hl : lk fr t with
          | none => rw [hl] at hc; cases hc
          | some u =>
            rw [hl] at hc
            simp only [Option.getD_some] at hc
            subst hc
            obtain ⟨v, g1, g2⟩ := hR.2.1.sl _ _ hl
            exact cons_sound hR.2.1 g1 (by subst he; exact g2)
        | const _ => exact hR.2.1
        | func _ => exact hR.2.1
        | global _ => exact hR.2.1
      exact wp_cond_split hx (fun hb => hk _ _ _ _ (h.1 hb) w0 η S a w hS (hR.fr (hF .tt hb))) (fun hb => hk _ _ _ _ (h.2 hb) w0 η S a w hS (hR.fr (hF .ff hb)))
    · exact h.elim
  · rename_i id c r
    refine wp_block (wp_mono (hk _ _ _ _ h w0 η S a w hS hR) ?_)
    intro e a w hq
    cases e <;> exact hq
  · exact h.out w0 η S a w hS hR
  · rename_i id r
    split at h
    · rename_i r' hr
      exact wp_exit (tw_exit hr a w (hk _ _ _ _ h w0 η S a w hS hR))
    · exact h.elim
  · rename_i c r
    refine wp_scope_straight (wp_mono (hk _ _ _ _ h w0 η S a w hS hR) ?_)
    intro e a w hq
    cases e <;> exact hq
  · exact wp_label (hk _ _ _ _ h w0 η S a w hS hR)
  · exact wp_ret (tw_ret (ret_sound hE hk h hS hR))
  · exact h.elim
  · exact hk _ _ _ _ h w0 η S a w hS hR
  · rename_i all o l r fr hp nx
    simp only [TW, wpList]
    split at h
    · rename_i hg
      have hw : Region.wanted o (yielded all a.tmps) = true := by simp [Region.wanted, hg]
      rw [if_pos hw]
      exact .inl (perf_sound hE hk ⟨rfl, rfl, rfl⟩ h hS hR)
    · rename_i j want hg
      split at h
      · rename_i t ht
        have ht : (all[j]?).bind (·.dst) = some t := by rw [← Array.getElem?_toList, ← nth_eq]; exact ht
        have fact : ∀ b, lk fr t = some (.c (.bool b)) → a.tmps[t]? = some (.bool b.v) ∧ Region.wanted o (yielded all a.tmps) = (some b.v == some want) := by
          intro b hlk
          obtain ⟨v, hv1, hv2⟩ := hR.2.1.sl _ _ hlk
          have hv2 := rs_bool hv2
          subst hv2
          exact ⟨hv1, by simp [Region.wanted, hg, yielded_of ht hv1]⟩
        have skip : ∀ fr', RepF (cxS w0 hp (lt nx) η w) cur.nt fr' a → (Region.wanted o (yielded all a.tmps) = false) → fcF (fun fr' => k cur (.ops all l :: r) ⟨fr', hp, nx⟩ stk) (putF cur.nt fr' o.dst (.tup [])) →
            (if Region.wanted o (yielded all a.tmps) = true then o.wp E.P a w (wpList E.P all (TW E.P w0 cur S (RR E.P w0 (Fin w0 E.post) cur S) r) l) (TW E.P w0 cur S (RR E.P w0 (Fin w0 E.post) cur S) r) ∨
              (o.asks E.P a w ∧ LetsOut (TW E.P w0 cur S (RR E.P w0 (Fin w0 E.post) cur S) r)) else wpList E.P all (TW E.P w0 cur S (RR E.P w0 (Fin w0 E.post) cur S) r) l (a.put o.dst undef) w) := by
          intro fr' hF hne hgo
          rw [fcF_eq] at hgo
          rw [if_neg (by rw [hne]; simp)]
          exact hk _ _ _ _ hgo w0 η S _ w hS (RepA.fr hR (putF_sound hF rs_undef))
        have perform : ∀ fr', RepF (cxS w0 hp (lt nx) η w) cur.nt fr' a → (Region.wanted o (yielded all a.tmps) = true) → perf E k cur all o l r fr' hp nx stk →
            (if Region.wanted o (yielded all a.tmps) = true then o.wp E.P a w (wpList E.P all (TW E.P w0 cur S (RR E.P w0 (Fin w0 E.post) cur S) r) l) (TW E.P w0 cur S (RR E.P w0 (Fin w0 E.post) cur S) r) ∨
              (o.asks E.P a w ∧ LetsOut (TW E.P w0 cur S (RR E.P w0 (Fin w0 E.post) cur S) r)) else wpList E.P all (TW E.P w0 cur S (RR E.P w0 (Fin w0 E.post) cur S) r) l (a.put o.dst undef) w) := by
          intro fr' hF he hgo
          rw [if_pos he]
          exact .inl (perf_sound hE hk ⟨rfl, rfl, rfl⟩ hgo hS (RepA.fr hR hF))
        split at h
        · rename_i hlk
          obtain ⟨f1, f2⟩ := fact _ hlk
          split at h
          · exact perform fr hR.2.1 (by rw [f2]; rfl) h
          · exact skip fr hR.2.1 (by rw [f2]; rfl) h
        · rename_i hlk
          obtain ⟨f1, f2⟩ := fact _ hlk
          split at h
          · exact perform fr hR.2.1 (by rw [f2]; rfl) h
          · exact skip fr hR.2.1 (by rw [f2]; rfl) h
        · rename_i b hlk
          obtain ⟨f1, f2⟩ := fact _ hlk
          have hF : ∀ c : BE, b = c.v → RepF (cxS w0 hp (lt nx) η w) cur.nt ((t, .c (.bool c)) :: fr) a := fun c hc => cons_sound hR.2.1 f1 (by subst hc; exact rfl)
          split at h
          · rename_i p x y l' hseg
            split at h
            · rename_i hpg
              obtain ⟨hl, hpop, hsk⟩ := segP_spec hseg
              have ht' : lk fr t ≠ none := by rw [hlk]; simp
              have behind : ∀ (fr' : List (Nat × SV)) (a' : Act) (w' : World), (match mrgW want b fr fr' x y with
                      | some v => fcS (fun v => fcF (fun fr => k cur (.ops all l' :: r) ⟨fr, hp, nx⟩ stk) (putF cur.nt fr p.dst v)) v
                      | none => False) → RepA w0 cur ⟨fr, hp, nx⟩ S η a' w' → (b = want → RepF (cxS w0 hp (lt nx) η w') cur.nt fr' a') →
                  wpList E.P all (TW E.P w0 cur S (RR E.P w0 (Fin w0 E.post) cur S) r) (p :: l') a' w' := by
                intro fr' a' w' hK hR' hF'
                split at hK
                · rename_i z hz
                  rw [fcS_eq, fcF_eq] at hK
                  simp only [wpList]
                  have hcb : a'.tmps[t]? = some (.bool b) := by
                    obtain ⟨u, g1, g2⟩ := hR'.2.1.sl _ _ hlk
                    have g2 : u = .bool b := g2
                    rw [g2] at g1; exact g1
                  rw [if_pos (by simp [Region.wanted, hpg])]
                  refine .inl (pick_wp hpop hcb ?_)
                  have hv : RS (cxS w0 hp (lt nx) η w') z (if b = true then a'.eval x else a'.eval y) := by
                    unfold mrgW at hz
                    cases want with
                    | true =>
                      refine mrg_sound hz (fun hb => ?_) (fun hb => ?_)
                      · rw [if_pos hb]; exact ev_sound (hF' hb) x
                      · rw [if_neg (by rw [hb]; simp)]; exact ev_sound hR'.2.1 y
                    | false =>
                      refine mrg_sound hz (fun hb => ?_) (fun hb => ?_)
                      · rw [if_pos hb]; exact ev_sound hR'.2.1 x
                      · rw [if_neg (by rw [hb]; simp)]; exact ev_sound (hF' hb) y
                  exact hk _ _ _ _ hK w0 η S _ w' hS (hR'.fr (putF_sound hR'.2.1 hv))
                · exact hK.elim
              have hfr : ∀ (a' : Act), (∀ s, (∀ o' ∈ segA j (o :: l), o'.dst ≠ some s) → a'.tmps[s]? = a.tmps[s]?) → ∀ s, lk fr s ≠ none → a'.tmps[s]? = a.tmps[s]? := fun a' h s hs =>
                h s fun o2 ho2 e => hs (skB_dst hsk o2 ho2 s e)
              have hwl : wpList E.P all (TW E.P w0 cur S (RR E.P w0 (Fin w0 E.post) cur S) r) (o :: l) a w := by
                rw [hl]
                by_cases hbv : b = want
                · refine sgo_run hE rfl 1000 hbv h (hR.fr (hF (ofW want) (by rw [hbv]; cases want <;> rfl))) fun fr' a' w' hK hR' hb' hs' hz' hd' => ?_
                  refine behind fr' a' w' hK ⟨hR'.1, ?_, hR'.2.2⟩ (fun _ => hR'.2.1)
                  exact RepF.keep (RepF.mono (cx_below hb') hR.2.1) (hfr a' hs') hz' hd'
                · obtain ⟨fr', hK⟩ := sgo_skip 1000 hbv h
                  refine skip_run hbv hsk f1 (fun _ h => by cases h) ht' fun a' hs' hz' hd' => ?_
                  exact behind fr' a' w hK (hR.fr (RepF.keep hR.2.1 (hfr a' hs') hz' hd')) (fun h => (hbv h).elim)
              simpa only [wpList] using hwl
            · exact h.elim
          split at h
          · cases b with
            | true => exact perform _ (hF .tt rfl) (by rw [f2]; rfl) (h.1 rfl)
            | false => exact skip _ (hF .ff rfl) (by rw [f2]; rfl) (h.2 rfl)
          · cases b with
            | true => exact skip _ (hF .tt rfl) (by rw [f2]; rfl) (h.1 rfl)
            | false => exact perform _ (hF .ff rfl) (by rw [f2]; rfl) (h.2 rfl)
        · rename_i l' hlk
          have hne : Region.wanted o (yielded all a.tmps) = false := by
            obtain ⟨v, hv1, vs, rfl, _⟩ := hR.2.1.sl _ _ hlk
            simp [Region.wanted, hg, yielded_tup ht hv1]
          exact skip fr hR.2.1 hne h
        · exact h.elim
      · exact h.elim
  · exact hk _ _ _ _ h w0 η S a w hS hR
  · exact hk _ _ _ _ h w0 η S a w hS hR
  · exact ⟨η, st, hR, h⟩
end

theorem go_sound {E : En} (hE : EnOk E) : ∀ n cur t st stk, go E n cur t st stk → Mean E cur t st stk
  | 0, _, _, _, _, h => h.elim
  | n + 1, _, _, _, _, h => stp_sound hE (go_sound hE n) h

end OE
