/- OE, part 9: a region that draws its order, whose operations are quiet or call by contract. Own work; generic over the program. -/
import Derived.Test.YthpllblcbbkfdaaOeSub
import Derived.Deep.Quiet
namespace OE
open Go Go.RowKit

/-- the value of a scalar -/
def vC : C → Option Value
  | .int k n => some (.int k n)
  | .bool b => some (.bool b.v)
  | .str s => some (.string ⟨s.toArray⟩)
  | _ => none
def vL : List C → Option (List Value)
  | [] => some []
  | c :: l => match vC c, vL l with
    | some v, some m => some (v :: m)
    | _, _ => none
def vT : List (Bool × List C) → Option (List Value)
  | [] => some []
  | (true, c) :: l => match vL c, vT l with
    | some v, some m => some (.agg v.toArray :: m)
    | _, _ => none
  | (false, [c]) :: l => match vC c, vT l with
    | some v, some m => some (v :: m)
    | _, _ => none
  | _ => none
def vS : SV → Option Value
  | .c x => vC x
  | .agg l => match vL l with | some m => some (.agg m.toArray) | none => none
  | .tup l => match vT l with | some m => some (.tuple m.toArray) | none => none
  | .un => none

theorem vC_rc {x : Cx} {c : C} {u v : Value} (h : vC c = some u) (hv : RC x c v) : v = u := by
  unfold vC at h
  split at h <;> cases h <;> exact hv
theorem vL_rl {x : Cx} : ∀ {l : List C} {m : List Value} {vs : List Value}, vL l = some m → RL (RC x) l vs → vs = m
  | [], m, vs, h, hv => by
    simp only [vL, Option.some.injEq] at h
    subst h
    cases vs with | nil => rfl | cons _ _ => exact hv.elim
  | c :: l, m, vs, h, hv => by
    obtain ⟨v, vs', rfl, h1, h2⟩ := rl_cons hv
    simp only [vL] at h
    split at h
    · rename_i u m' hu hm
      cases h
      rw [vC_rc hu h1, vL_rl hm h2]
    · cases h
theorem vT_rl {x : Cx} : ∀ {l : List (Bool × List C)} {m : List Value} {vs : List Value}, vT l = some m → RL (RP x) l vs → vs = m
  | [], m, vs, h, hv => by
    simp only [vT, Option.some.injEq] at h
    subst h
    cases vs with | nil => rfl | cons _ _ => exact hv.elim
  | (true, c) :: l, m, vs, h, hv => by
    obtain ⟨v, vs', rfl, h1, h2⟩ := rl_cons hv
    simp only [vT] at h
    split at h
    · rename_i u m' hu hm
      cases h
      simp only [RP, if_true] at h1
      obtain ⟨us, rfl, hus⟩ := h1
      have := vL_rl hu hus
      rw [vT_rl hm h2, ← this]
    · cases h
  | (false, [c]) :: l, m, vs, h, hv => by
    obtain ⟨v, vs', rfl, h1, h2⟩ := rl_cons hv
    simp only [vT] at h
    split at h
    · rename_i u m' hu hm
      cases h
      simp only [RP, Bool.false_eq_true, if_false] at h1
      obtain ⟨y, hy, hy2⟩ := h1
      simp at hy
      subst hy
      rw [vC_rc hu hy2, vT_rl hm h2]
    · cases h
  | (false, []) :: l, m, vs, h, hv => by simp [vT] at h
  | (false, _ :: _ :: _) :: l, m, vs, h, hv => by simp [vT] at h
theorem vS_rs {x : Cx} {s : SV} {u v : Value} (h : vS s = some u) (hv : RS x s v) : v = u := by
  unfold vS at h
  split at h
  · exact vC_rc h hv
  · split at h
    · rename_i m hm
      cases h
      obtain ⟨vs, rfl, hl⟩ := hv
      rw [← vL_rl hm hl]
    · cases h
  · split at h
    · rename_i m hm
      cases h
      obtain ⟨vs, rfl, hl⟩ := hv
      rw [← vT_rl hm hl]
    · cases h
  · cases h

/-- the region's rest, in the text's order, from a state -/
def QMean (E : En) (cur : FI) (all : Array Oper) (l : List Oper) (r : List It) (st : St) (stk : List Fm) : Prop :=
  ∀ w0 η S a w, S.map (·.1) = stk → RepA w0 cur st S η a w →
    wpQuiet E.P all (Below w.heap.size w) (fun a' => ∀ w', Below w.heap.size w w' → TW E.P w0 cur S (RR E.P w0 (Fin w0 E.post) cur S) r .normal a' w') l a

structure CallQ (E : En) (cur : FI) (f : Nat) (args : List SV) (all : Array Oper) (o : Oper) (l : List Oper) (r : List It) (st : St) (stk : List Fm) : Prop where
  out : (∃ args0, cl (ev st.fr) o.op = some (f, args0) ∧ args = args0.map nzS) → QMean E cur all (⟨o.dst, o.op, o.type, o.pos, o.after, none⟩ :: l) r st stk

/-- behind the region -/
structure AfterQ (E : En) (cur : FI) (r : List It) (st : St) (stk : List Fm) : Prop where
  out : Mean E cur r st stk

def perfQ (E : En) (k : St → Prop) (cur : FI) (all : Array Oper) (o : Oper) (l : List Oper) (r : List It) (fr : List (Nat × SV)) (hp : List (Nat × Ob)) (nx : Nat) (stk : List Fm) : Prop :=
  match qm E.ti hp (ev fr) o.op with
  | some ⟨h, p, v⟩ => hq h (pq p (fcS (fun v => fcF (fun fr' => k ⟨fr', hp, nx⟩) (putF cur.nt fr o.dst v)) v))
  | none => match cl (ev fr) o.op with
    | some (f, args) => fcA (fun args => CallQ E cur f args all o l r ⟨fr, hp, nx⟩ stk) (args.map nzS)
    | none => False

def goQ (E : En) (cur : FI) (all : Array Oper) (r : List It) (stk : List Fm) : List Oper → St → Prop
  | [], st => AfterQ E cur r st stk
  | o :: l, ⟨fr, hp, nx⟩ => match o.guard with
    | none => perfQ E (goQ E cur all r stk l) cur all o l r fr hp nx stk
    | some (j, want) => match nth all.toList j with
      | some t => match lk fr t with
        | some (.c (.bool .tt)) => match want with
          | true => perfQ E (goQ E cur all r stk l) cur all o l r fr hp nx stk
          | false => fcF (fun fr' => goQ E cur all r stk l ⟨fr', hp, nx⟩) (putF cur.nt fr o.dst (.tup []))
        | some (.c (.bool .ff)) => match want with
          | false => perfQ E (goQ E cur all r stk l) cur all o l r fr hp nx stk
          | true => fcF (fun fr' => goQ E cur all r stk l ⟨fr', hp, nx⟩) (putF cur.nt fr o.dst (.tup []))
        | some (.c (.bool (.sym b))) => match want with
          | true => spl b (perfQ E (goQ E cur all r stk l) cur all o l r ((t, .c (.bool .tt)) :: fr) hp nx stk) (fcF (fun fr' => goQ E cur all r stk l ⟨fr', hp, nx⟩) (putF cur.nt ((t, .c (.bool .ff)) :: fr) o.dst (.tup [])))
          | false => spl b (fcF (fun fr' => goQ E cur all r stk l ⟨fr', hp, nx⟩) (putF cur.nt ((t, .c (.bool .tt)) :: fr) o.dst (.tup []))) (perfQ E (goQ E cur all r stk l) cur all o l r ((t, .c (.bool .ff)) :: fr) hp nx stk)
        | some (.tup _) => fcF (fun fr' => goQ E cur all r stk l ⟨fr', hp, nx⟩) (putF cur.nt fr o.dst (.tup []))
        | _ => False
      | none => False

theorem perfQ_sound {E : En} (hE : EnOk E) {cur : FI} {all : Array Oper} {r : List It} {stk : List Fm} {l : List Oper} (hk : ∀ st, goQ E cur all r stk l st → QMean E cur all l r st stk)
    {o : Oper} {fr : List (Nat × SV)} {hp : List (Nat × Ob)} {nx : Nat} (h : perfQ E (goQ E cur all r stk l) cur all o l r fr hp nx stk) {w0 : W0}
    {η : Nat → Option Nat × Value} {S : List (Fm × Act)} {a : Act} {w : World} (hS : S.map (·.1) = stk) (hR : RepA w0 cur ⟨fr, hp, nx⟩ S η a w) :
    o.quiet E.P a (Below w.heap.size w) (wpQuiet E.P all (Below w.heap.size w) (fun a' => ∀ w', Below w.heap.size w w' → TW E.P w0 cur S (RR E.P w0 (Fin w0 E.post) cur S) r .normal a' w') l) := by
  unfold perfQ at h
  split at h
  · rename_i qh qp qv' hq
    obtain ⟨h1, h2⟩ := qm_sound (P := E.P) hE.tab hR.1.1 (fun _ _ h => h) (ev_sound hR.2.1) hq
    rw [hq_eq, pq_eq, fcS_eq, fcF_eq] at h
    obtain ⟨hpp, hgo⟩ := h h1
    obtain ⟨v, hv, hy⟩ := h2 hpp
    refine ⟨v, fun w' hw' => ?_, hk _ hgo w0 η S _ w hS (hR.fr (putF_sound hR.2.1 hv))⟩
    unfold Oper.quietAt
    rw [hy w' hw']
    exact ⟨rfl, rfl⟩
  · split at h
    · rename_i f args hcl
      rw [fcA_eq] at h
      have hm := h.out ⟨_, hcl, rfl⟩ w0 η S a w hS hR
      simp only [wpQuiet, Region.wanted, if_true] at hm
      exact hm
    · exact h.elim

theorem goQ_sound {E : En} (hE : EnOk E) {cur : FI} {all : Array Oper} {r : List It} {stk : List Fm} : ∀ {l : List Oper} {st : St}, goQ E cur all r stk l st → QMean E cur all l r st stk
  | [], st, h => fun w0 η S a w hS hR w' hw' => by
    have h := h.out
    exact h w0 η S a w' hS (hR.heap (hR.1.1.below hw') (cx_below hw'))
  | o :: l, ⟨fr, hp, nx⟩, h => by
    intro w0 η S a w hS hR
    have hk : ∀ st, goQ E cur all r stk l st → QMean E cur all l r st stk := fun st h => goQ_sound hE h
    simp only [wpQuiet]
    unfold goQ at h
    split at h
    · rename_i hg
      have hw : Region.wanted o (yielded all a.tmps) = true := by simp [Region.wanted, hg]
      rw [if_pos hw]
      exact perfQ_sound hE hk h hS hR
    · rename_i j want hg
      split at h
      · rename_i t ht
        have ht : (all[j]?).bind (·.dst) = some t := by rw [← Array.getElem?_toList, ← nth_eq]; exact ht
        have fact : ∀ b, lk fr t = some (.c (.bool b)) → a.tmps[t]? = some (.bool b.v) ∧ Region.wanted o (yielded all a.tmps) = (some b.v == some want) := by
          intro b hlk
          obtain ⟨v, hv1, hv2⟩ := hR.2.1.sl _ _ hlk
          have hv2 := rs_bool hv2
          subst hv2
          exact ⟨hv1, by simp [Region.wanted, hg, yielded_of ht hv1]⟩
        have skip : ∀ fr', RepF (cxS w0 hp (lt nx) η w) cur.nt fr' a → (Region.wanted o (yielded all a.tmps) = false) → fcF (fun fr' => goQ E cur all r stk l ⟨fr', hp, nx⟩) (putF cur.nt fr' o.dst (.tup [])) →
            wpQuiet E.P all (Below w.heap.size w) (fun a' => ∀ w', Below w.heap.size w w' → TW E.P w0 cur S (RR E.P w0 (Fin w0 E.post) cur S) r .normal a' w') l (a.put o.dst undef) := by
          intro fr' hF hne hgo
          rw [fcF_eq] at hgo
          exact hk _ hgo w0 η S _ w hS (RepA.fr hR (putF_sound hF rs_undef))
        have perform : ∀ fr', RepF (cxS w0 hp (lt nx) η w) cur.nt fr' a → perfQ E (goQ E cur all r stk l) cur all o l r fr' hp nx stk →
            o.quiet E.P a (Below w.heap.size w) (wpQuiet E.P all (Below w.heap.size w) (fun a' => ∀ w', Below w.heap.size w w' → TW E.P w0 cur S (RR E.P w0 (Fin w0 E.post) cur S) r .normal a' w') l) :=
          fun fr' hF hgo => perfQ_sound hE hk hgo hS (RepA.fr hR hF)
        split at h
        · rename_i hlk
          obtain ⟨f1, f2⟩ := fact _ hlk
          rw [f2]
          split at h
          · exact perform fr hR.2.1 h
          · exact skip fr hR.2.1 (by rw [f2]; rfl) h
        · rename_i hlk
          obtain ⟨f1, f2⟩ := fact _ hlk
          rw [f2]
          split at h
          · exact perform fr hR.2.1 h
          · exact skip fr hR.2.1 (by rw [f2]; rfl) h
        · rename_i b hlk
          obtain ⟨f1, f2⟩ := fact _ hlk
          have hF : ∀ c : BE, b = c.v → RepF (cxS w0 hp (lt nx) η w) cur.nt ((t, .c (.bool c)) :: fr) a := fun c hc => cons_sound hR.2.1 f1 (by subst hc; exact rfl)
          rw [f2]
          split at h
          · cases b with
            | true => exact perform _ (hF .tt rfl) (h.1 rfl)
            | false => exact skip _ (hF .ff rfl) (by rw [f2]; rfl) (h.2 rfl)
          · cases b with
            | true => exact skip _ (hF .tt rfl) (by rw [f2]; rfl) (h.1 rfl)
            | false => exact perform _ (hF .ff rfl) (h.2 rfl)
        · rename_i l' hlk
          have hne : Region.wanted o (yielded all a.tmps) = false := by
            obtain ⟨v, hv1, vs, rfl, _⟩ := hR.2.1.sl _ _ hlk
            simp [Region.wanted, hg, yielded_tup ht hv1]
          rw [hne]
          exact skip fr hR.2.1 hne h
        · exact h.elim
      · exact h.elim

/-- A REGION THAT DRAWS, whose operations are quiet or call functions that give one scalar value. -/
theorem draw_rule {E : En} (hE : EnOk E) {cur : FI} {id : Nat} {all : Array Oper} {r : List It} {st : St} {stk : List Fm} (hm : E.P.follows .mixedOrders = true) (hB : Region.lexB .any all = true)
    (h : goQ E cur all r stk all.toList st) : DrawOk E cur id all r st stk := by
  refine ⟨?_⟩
  intro w0 η S a w hS hR
  have hb : Below w.heap.size w { w with drawn := w.drawn + 1 } := ⟨rfl, rfl, rfl, Nat.le_refl _, fun _ _ => rfl⟩
  exact wp_region_quiet (C := Below w.heap.size w) hm hB hb (goQ_sound hE h w0 η S a w hS hR)

theorem callq_rule {E : En} {cur : FI} {f : Nat} {args : List SV} {all : Array Oper} {o : Oper} {l : List Oper} {r : List It} {st : St} {stk : List Fm} {s : SV} {u : Value} (hF : FnD E.P f args (fun r => r = s)) (hd : args.all isDs = true)
    (hu : vS s = some u) (hk : QMean E cur all l r ⟨putF cur.nt st.fr o.dst s, st.hp, st.nx⟩ stk) : CallQ E cur f args all o l r st stk := by
  refine ⟨?_⟩
  rintro ⟨args0, hcl, rfl⟩ z η S a w hS hR
  obtain ⟨⟨fn, hf1, hf2, hf3⟩, hF⟩ := hF
  obtain ⟨vs, hvs, hrun⟩ := run_call (E := E) (ev_sound hR.2.1) hcl hf1 hf2 hf3
  have hvs := nzs_sound hvs
  simp only [wpQuiet, Region.wanted, if_true]
  have hexec : execOp a.eval ⟨o.dst, o.op, o.type, o.pos, o.after, none⟩ = execOp a.eval o := rfl
  have hu' : ∀ x v, RS x s v → v = u := fun x v hv => vS_rs hu hv
  have hsu : RS (cxS z st.hp (lt st.nx) η w) s u := by
    have hargs : RL (RS (DX w (okS z st.hp η w))) (args0.map nzS) vs.toList := rls_data (x := cxS z st.hp (lt st.nx) η w) (y := DX w (okS z st.hp η w)) (fun _ h => h) (fun _ _ => rfl) hd hvs
    have : ∀ {c : C} {v : Value}, vC c = some v → RC (cxS z st.hp (lt st.nx) η w) c v := by
      intro c v h
      unfold vC at h
      split at h <;> cases h <;> rfl
    have hl : ∀ {l : List C} {m : List Value}, vL l = some m → RL (RC (cxS z st.hp (lt st.nx) η w)) l m := by
      intro l
      induction l with
      | nil => intro m h; simp only [vL, Option.some.injEq] at h; subst h; trivial
      | cons c l ih =>
        intro m h
        simp only [vL] at h
        split at h
        · rename_i v m' hv hm
          cases h
          exact ⟨this hv, ih hm⟩
        · cases h
    have ht : ∀ {l : List (Bool × List C)} {m : List Value}, vT l = some m → RL (RP (cxS z st.hp (lt st.nx) η w)) l m := by
      intro l
      induction l with
      | nil => intro m h; simp only [vT, Option.some.injEq] at h; subst h; trivial
      | cons p l ih =>
        intro m h
        obtain ⟨b, c⟩ := p
        cases b with
        | true =>
          simp only [vT] at h
          split at h
          · rename_i v m' hv hm
            cases h
            exact ⟨⟨_, rfl, by simpa using hl hv⟩, ih hm⟩
          · cases h
        | false =>
          cases c with
          | nil => simp [vT] at h
          | cons c cs =>
            cases cs with
            | cons _ _ => simp [vT] at h
            | nil =>
              simp only [vT] at h
              split at h
              · rename_i v m' hv hm
                cases h
                exact ⟨⟨c, rfl, this hv⟩, ih hm⟩
              · cases h
    unfold vS at hu
    split at hu
    · exact this hu
    · split at hu
      · rename_i m hm; cases hu; exact ⟨_, rfl, by simpa using hl hm⟩
      · cases hu
    · split at hu
      · rename_i m hm; cases hu; exact ⟨_, rfl, by simpa using ht hm⟩
      · cases hu
    · cases hu
  refine ⟨u, fun w' hw' => ?_, hk z η S _ w hS (hR.fr (putF_sound hR.2.1 hsu))⟩
  unfold Oper.quietAt
  rw [hexec, hrun]
  refine ⟨rfl, ?_⟩
  have hargs : RL (RS (DX w' (okS z st.hp η w))) (args0.map nzS) vs.toList := rls_data (x := cxS z st.hp (lt st.nx) η w) (y := DX w' (okS z st.hp η w)) (fun _ h => h) (fun k hk => hw'.block k hk.1.1) hd hvs
  refine (hF w' (okS z st.hp η w) vs (fun k hk => Nat.lt_of_lt_of_le hk.1.1 hw'.size) hargs).mono ?_
  rintro e w'' ⟨s', v, rfl, rfl, hv, hb⟩
  exact ⟨by rw [hu' _ _ hv], hw'.trans (hb.mono hw'.size)⟩

end OE
