/- OE, part 21: a call whose result is one row of its own, in a region that draws its order. Own work; generic over the program. -/
import Derived.Test.YthpllblcbbkfdaaOeOwn
import Derived.Test.YthpllblcbbkfdaaOeAny2
set_option linter.unusedVariables false
namespace OE
open Go Go.RowKit

theorem vld_callo {E : En} {cur : FI} {all : Array Oper} {o : Oper} {nn : Nat} {fin : List (Nat × SV)} {hin : List (Nat × Ob)} {f : Nat} {args0 : List SV} {T : TypeId} {d : D} {xs : List d.T} (hw : Wt all o fin true) (hc : cl (ev fin) o.op = some (f, args0))
    (hF : FnO E.P f (args0.map nzS) (.c (.row 0)) [(0, .row T d xs)] 1) (hd : (args0.map nzS).all isDs = true) :
    Vld E cur all o nn ⟨fin, hin, .c (.row nn), [(nn, some (.row T d xs))]⟩ := by
  intro w0 hp nm η a w fr hH hFr hnn hs hb K Q hK
  have hFr' := hFr.part hs
  rw [if_pos (hw _ _ _ hFr')]
  left
  obtain ⟨⟨fn, hf1, hf2, hf3⟩, hF⟩ := hF
  obtain ⟨vs, hvs, hrun⟩ := run_call (E := E) (ev_sound hFr') hc hf1 hf2 hf3
  have hvs := nzs_sound hvs
  unfold Oper.wp
  rw [hrun, Oper.upon_enter]
  have hargs : RL (RS (DX w (okS w0 hp η w))) (args0.map nzS) vs.toList := rls_data (x := cxS w0 hp nm η w) (y := DX w (okS w0 hp η w)) (fun _ h => h) (fun _ _ => rfl) hd hvs
  refine (hF w (okS w0 hp η w) vs (fun k hk => hk.1.1) hargs).mono ?_
  rintro e w' ⟨v, ηe, rfl, hE, hv⟩
  have hbel := hE.bel
  have htn : Turns hp (rm hp nn) η w w' := ⟨hbel.os, hbel.tape, hbel.output, hbel.size, fun k hk _ => hbel.block k hk⟩
  have hlk0 : lk ([(0, .row T d xs)] : List (Nat × Ob)) 0 = some (.row T d xs) := rfl
  have hnew : ∀ k, (ηe 0).1 = some k → w.heap.size ≤ k ∧ k < w'.heap.size := fun k hk => hE.new 0 k (by rw [hlk0]; simp) hk
  have hle := step_le (p := ηe 0) (ob := .row T d xs) hnn hH rm_sub htn (fun k hk => .inl (hnew k hk).1)
  obtain ⟨cs, r1, r2, r3⟩ := hE.obs 0 _ hlk0
  have r1 : (ηe 0).1 = (ηe 0).2.ownBlock := r1
  have r2 : w'.ownsRow 0 T d.sz (ηe 0).2 xs.length cs := r2
  have e0 : (upd η nn (ηe 0) nn) = ηe 0 := by simp [upd]
  have hok : ∀ k, okS ⟨w, okS w0 hp η w⟩ [(0, .row T d xs)] ηe w' k → okS w0 ((nn, .row T d xs) :: rm hp nn) (upd η nn (ηe 0)) w' k := fun k hk => by
    refine ⟨⟨hk.1.1, fun hlt => ?_⟩, fun c hc he => ?_⟩
    · exact (hk.1.2 (Nat.lt_of_lt_of_le hlt hH.bel.size)).1.2 hlt
    · by_cases hcn : c = nn
      · subst hcn
        rw [e0] at he
        exact hk.2 0 (by rw [hlk0]; simp) he
      · have hc' : lk hp c ≠ none := by
          simp only [lk, hcn, if_false] at hc
          rw [lk_rm] at hc
          simpa [hcn] using hc
        have he' : (η c).1 = some k := by simpa [upd, hcn] using he
        have h3 := (hH.new c k hc' he').2
        exact (hk.1.2 h3).2 c hc' he'
  have hrep := step_rep (p := ηe 0) (ob := .row T d xs) hnn hH rm_sub htn (fun k hk => .inl (hnew k hk)) ⟨cs, by
      show (upd η nn (ηe 0) nn).1 = (upd η nn (ηe 0) nn).2.ownBlock
      rw [e0]; exact r1, by
      show w'.ownsRow 0 T d.sz (upd η nn (ηe 0) nn).2 xs.length cs
      rw [e0]; exact r2, RdF.imp (fun _ _ h => Rd.mono hok (fun _ _ => rfl) h) r3⟩
  refine hK _ w' v hrep hle ⟨.inr ⟨Nat.le_refl _, Nat.lt_succ_self _⟩, ?_, ?_⟩
  · show v = (upd η nn (ηe 0) nn).2
    rw [e0]; exact hv.2.1
  · exact hv.2.2

theorem callro_rule {E : En} {cur : FI} {f : Nat} {args : List SV} {all : Array Oper} {o : Oper} {l : List Oper} {r : List It} {stk : List Fm} {n0 j : Nat} {recs : List Rec} {fin fr : List (Nat × SV)} {hin hp : List (Nat × Ob)} {T : TypeId} {d : D} {xs : List d.T} (hE : EnOk E)
    (hF : FnO E.P f args (.c (.row 0)) [(0, .row T d xs)] 1) (hd : args.all isDs = true) (hk : putR all j cur.nt o fin hin [(n0 + j, some (.row T d xs))] fr hp (fun rc => goR E cur all r stk n0 1000 (j + 1) l (recs ++ [rc])) (.c (.row (n0 + j)))) :
    CallR E cur f args all o l r stk n0 j recs fin hin fr hp := by
  refine ⟨?_⟩
  rintro ⟨args0, hcl, rfl⟩ hw hfr hhp
  have hk := hk
  unfold putR at hk
  simp only [fcF_eq, fcH_eq] at hk
  exact ⟨_, vld_callo hw hcl hF hd, hfr, hhp, goR_sound hE _ hk⟩

theorem rep_rm {w0 : W0} {hp : List (Nat × Ob)} {nm : Nat → Prop} {η : Nat → Option Nat × Value} {w : World} (b : Nat) (hH : RepH w0 hp nm η w) : RepH w0 (rm hp b) nm η w := by
  have hle : (cxS w0 hp nm η w).le (cxS w0 (rm hp b) nm η w) := fz_le b
  have hdom : ∀ c o, lk (rm hp b) c = some o → lk hp c = some o := fun c o h => rm_sub c o h
  have hdom' : ∀ c, lk (rm hp b) c ≠ none → lk hp c ≠ none := fun c h => by
    cases ho : lk (rm hp b) c with
    | none => exact (h ho).elim
    | some o => rw [hdom c o ho]; simp
  exact ⟨fun c o ho => RO.mono hle (hH.nxt c (by rw [hdom c o ho]; simp)) (fun _ _ => rfl) (hH.obs c o (hdom c o ho)), fun c e k h1 h2 => hH.sep c e k (hdom' c h1) (hdom' e h2), fun c k h1 => hH.new c k (hdom' c h1), fun c h1 => hH.nxt c (hdom' c h1), hH.bel⟩

theorem rls_map {x y : Cx} {f : SV → SV} (hf : ∀ s v, RS x s v → RS y (f s) v) : ∀ {l : List SV} {m : List Value}, RL (RS x) l m → RL (RS y) (l.map f) m
  | [], [], _ => trivial
  | _ :: _, _ :: _, ⟨h1, h2⟩ => ⟨hf _ _ h1, rls_map hf h2⟩
  | [], _ :: _, h => h.elim
  | _ :: _, [], h => h.elim

/-- a call in such a region; one own row that goes in is data from there on -/
theorem vld_callf {E : En} {cur : FI} {all : Array Oper} {o : Oper} {nn : Nat} {fin : List (Nat × SV)} {hin : List (Nat × Ob)} {f : Nat} {args0 : List SV} {s : SV} {b : Nat} {T : TypeId} {d : D} {xs : List d.T} (hw : Wt all o fin true) (hc : cl (ev fin) o.op = some (f, args0)) (hb : lk hin b = some (.row T d xs))
    (hF : FnD E.P f ((args0.map nzS).map (fzS b d xs)) (fun r => r = s)) (hd : ((args0.map nzS).map (fzS b d xs)).all isDs = true) {v' : SV} (hv' : ∀ x u, RS x s u → RS x v' u) :
    Vld E cur all o nn ⟨fin, hin, v', [(b, none)]⟩ := by
  intro w0 hp nm η a w fr hH hFr hnn hs hbh K Q hK
  have hFr' := hFr.part hs
  rw [if_pos (hw _ _ _ hFr')]
  left
  obtain ⟨⟨fn, hf1, hf2, hf3⟩, hF⟩ := hF
  obtain ⟨vs, hvs, hrun⟩ := run_call (E := E) (ev_sound hFr') hc hf1 hf2 hf3
  have hvs := nzs_sound hvs
  have hbp := hbh b _ hb
  have hH1 := rep_rm b hH
  have hvs1 := rls_map (fun s v h => fzS_sound hH hbp h) hvs
  unfold Oper.wp
  rw [hrun, Oper.upon_enter]
  have hargs : RL (RS (DX w (okS w0 (rm hp b) η w))) ((args0.map nzS).map (fzS b d xs)) vs.toList := rls_data (x := cxS w0 (rm hp b) nm η w) (y := DX w (okS w0 (rm hp b) η w)) (fun _ h => h) (fun _ _ => rfl) hd hvs1
  refine (hF w (okS w0 (rm hp b) η w) vs (fun k hk => hk.1.1) hargs).mono ?_
  rintro e w' ⟨s', v, rfl, rfl, hv, hb'⟩
  have hle := cx_below (w0 := w0) (hp := rm hp b) (nx := nm) (η := η) hb'
  have hres : RS (cxS w0 (rm hp b) nm η w') s' v := by
    refine RS.mono (x := DX w' fun k => (okS w0 (rm hp b) η w k ∨ w.heap.size ≤ k) ∧ k < w'.heap.size) (y := cxS w0 (rm hp b) nm η w') ⟨fun _ h => h.elim, fun _ h => h.elim, fun k hk => ?_, fun _ _ => rfl⟩ hv
    have hk : (okS w0 (rm hp b) η w k ∨ w.heap.size ≤ k) ∧ k < w'.heap.size := hk
    refine ⟨⟨hk.2, fun hlt => ?_⟩, fun c hcc he => ?_⟩
    · rcases hk.1 with h | h
      · exact h.1.2 hlt
      · have := hH.bel.size; omega
    · rcases hk.1 with h | h
      · exact h.2 c hcc he
      · have := (hH1.new c k hcc he).2; omega
  obtain ⟨g1, g2⟩ := RepH.wider (nm' := nmE nm nn (nn + 1)) (fun b hb => .inl hb) (hH1.below hb')
  exact hK η w' v g1 (((fz_le (w0 := w0) (hp := hp) (nx := nm) (η := η) (w := w) b).trans hle).trans g2) (RS.mono g2 (hv' _ _ hres))

theorem callrf_rule {E : En} {cur : FI} {f : Nat} {args : List SV} {all : Array Oper} {o : Oper} {l : List Oper} {r : List It} {stk : List Fm} {n0 j : Nat} {recs : List Rec} {fin fr : List (Nat × SV)} {hin hp : List (Nat × Ob)} {s : SV} (b : Nat) {T : TypeId} {d : D} {xs : List d.T} (hE : EnOk E) (hb : lk hin b = some (.row T d xs))
    (hF : FnD E.P f (args.map (fzS b d xs)) (fun r => r = s)) (hd : (args.map (fzS b d xs)).all isDs = true) (hk : putR all j cur.nt o fin hin [(b, none)] fr hp (fun rc => goR E cur all r stk n0 1000 (j + 1) l (recs ++ [rc])) s) : CallR E cur f args all o l r stk n0 j recs fin hin fr hp := by
  refine ⟨?_⟩
  rintro ⟨args0, hc, rfl⟩ hw hs hbh
  obtain ⟨v', h1, h2⟩ := putR_out hk
  exact ⟨_, vld_callf hw hc hb hF hd h1, hs, hbh, goR_sound hE 1000 h2⟩
end OE
