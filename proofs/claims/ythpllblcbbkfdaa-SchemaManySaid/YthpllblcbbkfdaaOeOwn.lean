/- OE, part 20: contracts whose results are memory of their own. Own work; generic over the program. -/
import Derived.Test.YthpllblcbbkfdaaOeRange
set_option linter.unusedVariables false
namespace OE
open Go Go.RowKit

/-! ### names shifted -/

def shC (n : Nat) : C → C
  | .ptr b o => .ptr (b + n) o
  | .prw b i s o => .prw (b + n) i s o
  | .row b => .row (b + n)
  | .mp b => .mp (b + n)
  | .csl b k => .csl (b + n) k
  | .sub b o s k c => .sub (b + n) o s k c
  | .fn f l => .fn f (l.map fun p => (p.1 + n, p.2))
  | .bm f b o => .bm f (b + n) o
  | c => c
def shL (n : Nat) : List C → List C
  | [] => []
  | c :: l => shC n c :: shL n l
def shT (n : Nat) : List (Bool × List C) → List (Bool × List C)
  | [] => []
  | (b, c) :: l => (b, shL n c) :: shT n l
def shS (n : Nat) : SV → SV
  | .c x => .c (shC n x)
  | .agg l => .agg (shL n l)
  | .tup l => .tup (shT n l)
  | .un => .un
def shO (n : Nat) : Ob → Ob
  | .cells T l => .cells T (shL n l)
  | .lmp T k es => .lmp T k (es.map fun p => (p.1, shS n p.2))
  | .itr m k s => .itr (m + n) k s
  | o => o
/-- objects under shifted names, ahead of others -/
def shH (n : Nat) (tl : List (Nat × Ob)) : List (Nat × Ob) → List (Nat × Ob)
  | [] => tl
  | (b, o) :: r => (b + n, shO n o) :: shH n tl r

theorem lk_shH (n : Nat) (tl : List (Nat × Ob)) : ∀ (hp : List (Nat × Ob)) (c : Nat), lk (shH n tl hp) c = (if n ≤ c then (match lk hp (c - n) with | some o => some (shO n o) | none => lk tl c) else lk tl c)
  | [], c => by simp [shH, lk]
  | (b, o) :: r, c => by
    simp only [shH, lk, lk_shH n tl r c]
    by_cases h : n ≤ c
    · rw [if_pos h, if_pos h]
      by_cases e : c = b + n
      · have : c - n = b := by omega
        rw [if_pos e, if_pos this]
      · have : c - n ≠ b := by omega
        rw [if_neg e, if_neg this]
    · have : c ≠ b + n := by omega
      rw [if_neg h, if_neg h, if_neg this]

structure Sh (n : Nat) (x y : Cx) : Prop where
  w : y.w = x.w
  ok : ∀ k, x.ok k → y.ok k
  nm : ∀ b, x.nm b → y.nm (b + n)
  eta : ∀ b, x.nm b → y.η (b + n) = x.η b

section
variable {n : Nat} {x y : Cx}
theorem Sh.rd (h : Sh n x y) {d : D} {z : d.T} {cs : List Value} (hr : Rd x.w x.ok d z cs) : Rd y.w y.ok d z cs := Rd.mono h.ok (fun _ _ => by rw [h.w]) hr
theorem shC_sound (h : Sh n x y) : ∀ {c : C} {v : Value}, RC x c v → RC y (shC n c) v
  | .int _ _, _, h' => h'
  | .bool _, _, h' => h'
  | .str _, _, h' => h'
  | .ptr b off, _, ⟨h1, k, h2, h3⟩ => ⟨h.nm _ h1, k, by rw [h.eta b h1]; exact h2, h3⟩
  | .pel d _ off, _, ⟨k, o, cells, T, fz, cs, h1, h2, h3, h4, h5⟩ => ⟨k, o, cells, T, fz, cs, h1, h.ok k h2, by rw [h.w]; exact h3, h.rd h4, h5⟩
  | .prw b _ _ _, _, ⟨h1, k, h2, h3⟩ => ⟨h.nm _ h1, k, by rw [h.eta b h1]; exact h2, h3⟩
  | .row b, _, ⟨h1, h2, h3⟩ => ⟨h.nm _ h1, by rw [h.eta b h1]; exact h2, h3⟩
  | .dat d _, _, h' => by
    have h' : Rd x.w x.ok (.list d) _ _ := h'
    exact (h.rd h' : Rd y.w y.ok (.list d) _ _)
  | .val _, _, h' => h'
  | .fn f caps, _, ⟨vs, e, h'⟩ => by
    refine ⟨vs, e, ?_⟩
    generalize vs.toList = l at h'
    clear e
    induction caps generalizing l with
    | nil => cases l with
      | nil => trivial
      | cons => exact h'.elim
    | cons p caps ih =>
      cases l with
      | nil => exact h'.elim
      | cons u l =>
        obtain ⟨⟨h1, k, h2, h3⟩, h4⟩ := h'
        exact ⟨⟨h.nm _ h1, k, by rw [h.eta _ h1]; exact h2, h3⟩, ih l h4⟩
  | .bm _ b _, _, ⟨h1, k, h2, h3⟩ => ⟨h.nm _ h1, k, by rw [h.eta b h1]; exact h2, h3⟩
  | .mp b, _, ⟨h1, k, h2, h3⟩ => ⟨h.nm _ h1, k, by rw [h.eta b h1]; exact h2, h3⟩
  | .csl b _, _, ⟨h1, k, h2, h3⟩ => ⟨h.nm _ h1, k, by rw [h.eta b h1]; exact h2, h3⟩
  | .sub b _ _ _ _, _, ⟨h1, g1, g2, k, o', h2, h3⟩ => ⟨h.nm _ h1, g1, g2, k, o', by rw [h.eta b h1]; exact h2, h3⟩
theorem shL_sound (h : Sh n x y) : ∀ {l : List C} {m : List Value}, RL (RC x) l m → RL (RC y) (shL n l) m
  | [], [], _ => trivial
  | _ :: _, _ :: _, ⟨h1, h2⟩ => ⟨shC_sound h h1, shL_sound h h2⟩
  | [], _ :: _, h' => h'.elim
  | _ :: _, [], h' => h'.elim
theorem shT_sound (h : Sh n x y) : ∀ {l : List (Bool × List C)} {m : List Value}, RL (RP x) l m → RL (RP y) (shT n l) m
  | [], [], _ => trivial
  | (g, l) :: _, _ :: _, ⟨h1, h2⟩ => by
    refine ⟨?_, shT_sound h h2⟩
    unfold RP at *
    cases g with
    | true =>
      simp only [if_true] at h1 ⊢
      obtain ⟨vs, e, h'⟩ := h1
      exact ⟨vs, e, shL_sound h h'⟩
    | false =>
      simp only [Bool.false_eq_true, if_false] at h1 ⊢
      obtain ⟨y, rfl, h'⟩ := h1
      exact ⟨_, rfl, shC_sound h h'⟩
  | [], _ :: _, h' => h'.elim
  | _ :: _, [], h' => h'.elim
theorem shS_sound (h : Sh n x y) {s : SV} {v : Value} (h' : RS x s v) : RS y (shS n s) v := by
  cases s with
  | c x => exact shC_sound h h'
  | agg l => obtain ⟨vs, e, h'⟩ := h'; exact ⟨vs, e, shL_sound h h'⟩
  | tup l => obtain ⟨vs, e, h'⟩ := h'; exact ⟨vs, e, shT_sound h h'⟩
  | un => trivial
theorem shO_sound (h : Sh n x y) {b : Nat} (hb : x.nm b) : ∀ {o : Ob}, RO x b o → RO y (b + n) (shO n o)
  | .cells T l, ⟨k, vs, h1, h2, h3⟩ => ⟨k, vs, by rw [h.eta b hb]; exact h1, by rw [h.w]; exact h2, shL_sound h h3⟩
  | .lmp T k es, ⟨r, arr, h1, h2, h3, h4, h5, h6⟩ => by
    refine ⟨r, arr, by rw [h.eta b hb]; exact h1, by rw [h.w]; simpa using h2, ?_, h4, fun p hp => ?_, ?_⟩
    · clear h1 h2 h4 h5 h6
      generalize arr.toList = l at h3
      induction es generalizing l with
      | nil => cases l with
        | nil => trivial
        | cons => exact h3.elim
      | cons p es ih =>
        cases l with
        | nil => exact h3.elim
        | cons u l => exact ⟨⟨h3.1.1, shS_sound h h3.1.2⟩, ih l h3.2⟩
    · obtain ⟨q, hq, rfl⟩ := List.mem_map.1 hp
      exact h5 q hq
    · rw [List.pairwise_map]; exact h6
  | .dmp T kd vd es, ⟨r, arr, h1, h2, h3, h4⟩ => ⟨r, arr, by rw [h.eta b hb]; exact h1, by rw [h.w]; exact h2, h3, h4⟩
  | .wid T d xs c, ⟨k, cur, h1, h2, h3, h4, h5, h6⟩ => ⟨k, cur, by rw [h.eta b hb]; exact h1, by rw [h.w]; exact h2, h3, h4, h5, RdF.imp (fun _ _ => h.rd) h6⟩
  | .itr m k seen, ⟨r, q, h1, h2, h3, h4⟩ => ⟨r, q, by rw [h.eta b hb]; exact h1, h.nm _ h2, by rw [h.eta m h2]; exact h3, by rw [h.w]; exact h4⟩
  | .row T d xs, ⟨cs, h1, h2, h3⟩ => ⟨cs, by rw [h.eta b hb]; exact h1, by rw [h.eta b hb, h.w]; exact h2, RdF.imp (fun _ _ => h.rd) h3⟩
end

/-! ### the contract -/

/-- A FUNCTION's CONTRACT: data go in; what comes out holds memory of its own, that nobody else has. -/
def FnO (P : Program) (f : Nat) (args : List SV) (s : SV) (hp : List (Nat × Ob)) (n : Nat) : Prop :=
  (∃ fn, P.funcs[f]? = some fn ∧ fn.body.isSome = true ∧ (fn.name == "runtime.NumGoroutine") = false) ∧
  ∀ w ok (vs : Array Value), (∀ k, ok k → k < w.heap.size) → RL (RS (DX w ok)) args vs.toList →
    Calls P f vs w fun e w' => ∃ v η, e = .returned v ∧ RepH ⟨w, ok⟩ hp (lt n) η w' ∧ RS (cxS ⟨w, ok⟩ hp (lt n) η w') s v

/-- what such a run comes to -/
def PostO (s : SV) (hp : List (Nat × Ob)) (n : Nat) (r : SV) (st : St) : Prop := sub ⟨[(0, s)], hp, n⟩ ⟨[(0, r)], st.hp, st.nx⟩ []

/-- THE CONTRACT, BY A RUN over abstract states. -/
theorem fno_of {E : En} {fi : FI} {f : Nat} {c : Code} {args : List SV} {s : SV} {hp : List (Nat × Ob)} {n : Nat} (hf : E.P.funcs[f]? = some fi.fn) (hb : fi.fn.body = some c) (hn : (fi.fn.name == "runtime.NumGoroutine") = false) (ht : fi.fn.ntmps = fi.nt)
    (hr : fi.fn.results.toList = fi.res) (hl : args.length ≤ fi.nt) (hp0 : E.post = PostO s hp n) (hm : Mean E fi [.code c] ⟨num args 0, [], 0⟩ []) : FnO E.P f args s hp n := by
  refine ⟨⟨fi.fn, hf, by rw [hb]; rfl, hn⟩, fun w ok vs hok hvs => ?_⟩
  refine calls_of_wp hf hb ?_
  have hle : (DX w ok).le (cxS ⟨w, ok⟩ [] (lt 0) (fun _ => (none, undef)) w) :=
    ⟨fun _ h => h.elim, fun _ h => h.elim, fun k hk => ⟨⟨hok k hk, fun _ => hk⟩, fun b h => absurd rfl h⟩, fun _ _ => rfl⟩
  have hF := enter_rep (x := cxS ⟨w, ok⟩ [] (lt 0) (fun _ => (none, undef)) w) (RL.imp (fun _ _ => RS.mono hle) hvs) hl
  rw [← ht] at hF
  refine wp_mono (hm ⟨w, ok⟩ (fun _ => (none, undef)) [] _ w rfl ⟨⟨⟨fun _ _ h => by simp [lk] at h, fun _ _ _ h => absurd rfl h, fun _ _ h => absurd rfl h, fun _ h => absurd rfl h, Below.refl _ _⟩, hr⟩, by rw [← ht]; exact hF, fun _ h => by cases h⟩) ?_
  intro e a' w' hq
  have fin : RR E.P ⟨w, ok⟩ (Fin ⟨w, ok⟩ E.post) fi [] a' w' → a'.defers = [] ∧ ∃ v, (results fi.fn a'.tmps).run E.P w' = .ok v w' ∧
      (∃ v' η, (Ending.returned v : Ending) = .returned v' ∧ RepH ⟨w, ok⟩ hp (lt n) η w' ∧ RS (cxS ⟨w, ok⟩ hp (lt n) η w') s v') := by
    rintro ⟨h1, v, h2, η, sv, st, h3, h4, h5⟩
    refine ⟨h1, v, h2, v, ?_⟩
    rw [hp0] at h5
    have hR : RepA ⟨w, ok⟩ ⟨fi.fn, 1, fi.res⟩ ⟨[(0, sv)], st.hp, st.nx⟩ [] η { a' with tmps := #[v], defers := [] } w' := by
      refine ⟨⟨h3, hr⟩, ⟨fun t sv' ht => ?_, rfl, rfl⟩, fun _ h => by cases h⟩
      simp only [lk] at ht
      split at ht
      · rename_i e
        cases ht
        subst e
        exact ⟨v, rfl, h4⟩
      · cases ht
    obtain ⟨η', hR'⟩ := sub_sound h5 rfl hR
    obtain ⟨u, hu, hv⟩ := hR'.2.1.sl 0 s rfl
    have : u = v := by simpa using hu.symm
    subst this
    exact ⟨η', rfl, hR'.1.1, hv⟩
  cases e with
  | normal => exact fin hq
  | ret => exact fin hq
  | exit id => exact hq.elim
  | goto l => exact hq.elim
  | panic ch => exact hq.elim
  | outgrown => exact hq.elim

/-- A CALL, by such a contract: what comes out has names from here on. -/
theorem callo_rule {E : En} {cur : FI} {f : Nat} {args : List SV} {all : Array Oper} {o : Oper} {l : List Oper} {r : List It} {st : St} {stk : List Fm} {s : SV} {hp : List (Nat × Ob)} {n : Nat} (hF : FnO E.P f args s hp n) (hd : args.all isDs = true)
    (hk : Mean E cur (.ops all l :: r) ⟨putF cur.nt st.fr o.dst (shS st.nx s), shH st.nx st.hp hp, n + st.nx⟩ stk) : CallOk E cur f args all o l r st stk := by
  refine ⟨?_⟩
  rintro ⟨args0, hcl, rfl⟩ z η S a w hS hR
  obtain ⟨⟨fn, hf1, hf2, hf3⟩, hF⟩ := hF
  obtain ⟨vs, hvs, hrun⟩ := run_call (E := E) (ev_sound hR.2.1) hcl hf1 hf2 hf3
  have hvs := nzs_sound hvs
  simp only [TW, wpList, Region.wanted, if_true]
  left
  unfold Oper.wp
  have hexec : execOp a.eval ⟨o.dst, o.op, o.type, o.pos, o.after, none⟩ = execOp a.eval o := rfl
  rw [hexec, hrun, Oper.upon_enter]
  have hargs : RL (RS (DX w (okS z st.hp η w))) (args0.map nzS) vs.toList := rls_data (x := cxS z st.hp (lt st.nx) η w) (y := DX w (okS z st.hp η w)) (fun _ h => h) (fun _ _ => rfl) hd hvs
  refine (hF w (okS z st.hp η w) vs (fun k hk => hk.1.1) hargs).mono ?_
  rintro e w' ⟨v, ηe, rfl, hE, hv⟩
  have hH := hR.1.1
  let η' : Nat → Option Nat × Value := fun b => if b < st.nx then η b else ηe (b - st.nx)
  let hp' := shH st.nx st.hp hp
  have hcase : ∀ c o', lk hp' c = some o' → (∃ b ob, c = b + st.nx ∧ lk hp b = some ob ∧ o' = shO st.nx ob) ∨ (c < st.nx ∧ lk st.hp c = some o') := fun c o' h => by
    have h : lk (shH st.nx st.hp hp) c = some o' := h
    rw [lk_shH] at h
    split at h
    · rename_i hle
      split at h
      · rename_i ob hob
        cases h
        exact .inl ⟨c - st.nx, ob, by omega, hob, rfl⟩
      · exact .inr ⟨hH.nxt c (by rw [h]; simp), h⟩
    · rename_i hle
      exact .inr ⟨by omega, h⟩
  have hin : ∀ c, lk hp' c ≠ none → (∃ b, c = b + st.nx ∧ lk hp b ≠ none) ∨ (c < st.nx ∧ lk st.hp c ≠ none) := fun c h => by
    cases ho : lk hp' c with
    | none => exact (h ho).elim
    | some o' =>
      rcases hcase c o' ho with ⟨b, ob, h1, h2, _⟩ | ⟨h1, h2⟩
      · exact .inl ⟨b, h1, by rw [h2]; simp⟩
      · exact .inr ⟨h1, by rw [h2]; simp⟩
  have e1 : ∀ c, c < st.nx → η' c = η c := fun c h => if_pos h
  have e2 : ∀ b, η' (b + st.nx) = ηe b := fun b => by
    show (if b + st.nx < st.nx then η (b + st.nx) else ηe (b + st.nx - st.nx)) = _
    rw [if_neg (by omega), Nat.add_sub_cancel]
  have hnewE : ∀ b k, lk hp b ≠ none → (ηe b).1 = some k → w.heap.size ≤ k ∧ k < w'.heap.size := hE.new
  have hle : (cxS z st.hp (lt st.nx) η w).le (cxS z hp' (lt (n + st.nx)) η' w') := by
    refine ⟨fun b hb => e1 b hb, fun b hb => ?_, fun k hk => ⟨⟨Nat.lt_of_lt_of_le hk.1.1 hE.bel.size, hk.1.2⟩, fun c hc he => ?_⟩, fun k hk => hE.bel.block k hk.1.1⟩
    · have : b < st.nx := hb
      show b < n + st.nx
      omega
    · rcases hin c hc with ⟨b, rfl, hb⟩ | ⟨h1, h2⟩
      · rw [e2] at he
        have := (hnewE b k hb he).1
        have h1 : k < w.heap.size := hk.1.1
        omega
      · rw [e1 c h1] at he
        exact hk.2 c h2 he
  have hSh : Sh st.nx (cxS ⟨w, okS z st.hp η w⟩ hp (lt n) ηe w') (cxS z hp' (lt (n + st.nx)) η' w') := by
    refine ⟨rfl, fun k hk => ⟨⟨hk.1.1, fun hlt => ?_⟩, fun c hc he => ?_⟩, fun b hb => ?_, fun b _ => e2 b⟩
    · have : k < w.heap.size := Nat.lt_of_lt_of_le hlt hH.bel.size
      exact (hk.1.2 this).1.2 hlt
    · rcases hin c hc with ⟨b, rfl, hb⟩ | ⟨h1, h2⟩
      · rw [e2] at he
        exact hk.2 b hb he
      · rw [e1 c h1] at he
        have h3 := (hH.new c k h2 he).2
        exact (hk.1.2 h3).2 c h2 he
    · have : b < n := hb
      show b + st.nx < n + st.nx
      omega
  have hRH : RepH z hp' (lt (n + st.nx)) η' w' := by
    refine ⟨fun c o' ho => ?_, fun c d k hc hd hck hdk => ?_, fun c k hc hk => ?_, fun c hc => ?_, ?_⟩
    · rcases hcase c o' ho with ⟨b, ob, rfl, h2, rfl⟩ | ⟨h1, h2⟩
      · exact shO_sound hSh (hE.nxt b (by rw [h2]; simp)) (hE.obs b ob h2)
      · exact RO.mono hle h1 (fun k hk => hE.bel.block k (hH.new c k (by rw [h2]; simp) hk).2) (hH.obs c o' h2)
    · rcases hin c hc with ⟨b, rfl, hb⟩ | ⟨h1, h2⟩
      · rw [e2] at hck
        rcases hin d hd with ⟨b2, rfl, hb2⟩ | ⟨g1, g2⟩
        · rw [e2] at hdk
          rw [hE.sep b b2 k hb hb2 hck hdk]
        · rw [e1 d g1] at hdk
          have := (hnewE b k hb hck).1
          have := (hH.new d k g2 hdk).2
          omega
      · rw [e1 c h1] at hck
        rcases hin d hd with ⟨b2, rfl, hb2⟩ | ⟨g1, g2⟩
        · rw [e2] at hdk
          have := (hnewE b2 k hb2 hdk).1
          have := (hH.new c k h2 hck).2
          omega
        · rw [e1 d g1] at hdk
          exact hH.sep c d k h2 g2 hck hdk
    · rcases hin c hc with ⟨b, rfl, hb⟩ | ⟨h1, h2⟩
      · rw [e2] at hk
        have h3 := hnewE b k hb hk
        exact ⟨Nat.le_trans hH.bel.size h3.1, h3.2⟩
      · rw [e1 c h1] at hk
        have h3 := hH.new c k h2 hk
        exact ⟨h3.1, Nat.lt_of_lt_of_le h3.2 hE.bel.size⟩
    · rcases hin c hc with ⟨b, rfl, hb⟩ | ⟨h1, h2⟩
      · have : b < n := hE.nxt b hb
        show b + st.nx < n + st.nx
        omega
      · show c < n + st.nx
        omega
    · exact hH.bel.trans (hE.bel.mono hH.bel.size)
  have hR' := hR.heap hRH hle
  exact hk z η' S _ w' hS (hR'.fr (putF_sound hR'.2.1 (shS_sound hSh hv)))

/-- what comes out may be told as data -/
theorem FnO.dat {P : Program} {f : Nat} {args : List SV} {s s' : SV} {hp : List (Nat × Ob)} {n : Nat} (h : FnO P f args s hp n) (hs : cvS hp s = some s') : FnD P f args (· = s') := by
  refine ⟨h.1, fun w ok vs hok hvs => (h.2 w ok vs hok hvs).mono ?_⟩
  rintro e w' ⟨v, η, rfl, h3, h4⟩
  refine ⟨s', v, rfl, rfl, cvS_sound (ok := fun k => (ok k ∨ w.heap.size ≤ k) ∧ k < w'.heap.size) h3 (fun k hk => ⟨?_, hk.1.1⟩) (fun k h1 h2 => ⟨.inr h1, h2⟩) hs h4, h3.bel⟩
  by_cases hlt : k < w.heap.size
  · exact .inl (hk.1.2 hlt)
  · exact .inr (by omega)

/-! ### a list, told equal to nil -/

def isNeq : BinOp → Option Bool
  | .eql => some false
  | .neq => some true
  | _ => none

/-- a list that is nil is empty -/
theorem nilq_rule {E : En} (hE : EnOk E) {cur : FI} {all : Array Oper} {o : Oper} {l : List Oper} {r : List It} {fr : List (Nat × SV)} {hp : List (Nat × Ob)} {nx : Nat} {stk : List Fm} {op : BinOp} {t rt e : TypeId} {x y : Operand} {i : TI} {c : C} {nq : Bool} (em : Prop)
    (ho : o.op = .binOp op t x y rt) (hop : isNeq op = some nq) (hi : E.ti t = some i) (hk : i.tk = .slice e) (hx : ev fr x = .c c) (hy : ev fr y = .c (.val (.slice none 0 0)))
    (hc : (∃ (d : D) (xs : List d.T), c = .dat d xs ∧ em = (xs = [])) ∨ ∃ (b : Nat) (T : TypeId) (d : D) (xs : List d.T), c = .row b ∧ lk hp b = some (.row T d xs) ∧ em = (xs = []))
    (h1 : em → Mean E cur (.ops all l :: r) ⟨putF cur.nt fr o.dst (.c (.bool (ofW (!nq)))), hp, nx⟩ stk) (h2 : Mean E cur (.ops all l :: r) ⟨putF cur.nt fr o.dst (.c (.bool (ofW nq))), hp, nx⟩ stk) : StuckOk E cur all o l r ⟨fr, hp, nx⟩ stk := by
  refine stuck_rule fun w0 η S a w hR => ?_
  have hH := hR.1.1
  have hxv := ev_sound hR.2.1 x
  have hyv := ev_sound hR.2.1 y
  rw [hx] at hxv
  rw [hy] at hyv
  obtain ⟨ey, _⟩ := hyv
  have is := hE.tab.is hi
  have hu : E.P.underlying t = some (.slice e) := by
    have := is.tk
    rw [hk] at this
    exact tk_slice this
  have key : ∃ (A : Option Addr) (n k : Nat), a.eval x = .slice A n k ∧ (A = none → em) := by
    rcases hc with ⟨d, xs, rfl, rfl⟩ | ⟨b, T, d, xs, rfl, hb, rfl⟩
    · have hx' : Rd w (okS w0 hp η w) (.list d) xs [a.eval x] := hxv
      simp only [Rd] at hx'
      obtain ⟨A, k, e1, hl, _, hn, hr⟩ := hx'
      simp only [List.cons.injEq, and_true] at e1
      refine ⟨A, xs.length, k, e1, fun hA => ?_⟩
      have := hn hA
      exact List.eq_nil_of_length_eq_zero (by omega)
    · obtain ⟨g1, g2, g3⟩ := hxv
      obtain ⟨cs, r1, r2, r3⟩ := hH.obs b _ hb
      have g2 : a.eval x = (η b).2 := g2
      have r2 : w.ownsRow 0 T d.sz (η b).2 xs.length cs := r2
      rcases r2.2 with ⟨hv, hn⟩ | ⟨g, cap, cur', hv, _⟩
      · exact ⟨none, 0, 0, g2.trans hv, fun _ => List.eq_nil_of_length_eq_zero hn⟩
      · exact ⟨some ⟨g, 0, none⟩, xs.length, cap, g2.trans hv, fun h => by cases h⟩
  obtain ⟨A, n, k, ex, hA⟩ := key
  have he : ∀ w, (Op.equal t (.slice A n k) (.slice none 0 0)).run E.P w = .ok A.isNone w := by
    intro w
    show (Op.equalIn (9999 + 1) t (.slice A n k) (.slice none 0 0)).run E.P w = _
    unfold Op.equalIn
    cases A with
    | none => simp only [Sem.run_bind, und_run hu, Result.andThen_ok, Sem.run_pure, Option.isNone_none]
    | some a => simp only [Sem.run_bind, und_run hu, Result.andThen_ok, Sem.run_pure, Option.isNone_some]
  have hrun : (execOp a.eval ⟨o.dst, o.op, o.type, o.pos, o.after, none⟩).run E.P w = .ok (.value (.bool (if nq = true then !A.isNone else A.isNone))) w := by
    have hy2 : Yields E.P w (.bool (if nq = true then !A.isNone else A.isNone)) (execOp a.eval ⟨o.dst, o.op, o.type, o.pos, o.after, none⟩) := by
      refine bin_yields (by rw [ex]; simp) (by rw [ex]; simp) (fun w => ?_) ho
      rw [ex, ey]
      unfold isNeq at hop
      split at hop
      · cases hop; simp only [binOp, Sem.run_bind, he, Result.andThen_ok]; rfl
      · cases hop; simp only [binOp, Sem.run_bind, he, Result.andThen_ok]; rfl
      · cases hop
    exact hy2 w (Below.refl _ _)
  cases hAn : A with
  | none =>
    refine ⟨.c (.bool (ofW (!nq))), _, w, η, hp, nx, hrun, hH, Cx.le.refl _, ?_, h1 (hA hAn)⟩
    rw [hAn]
    cases nq <;> exact rfl
  | some ad =>
    refine ⟨.c (.bool (ofW nq)), _, w, η, hp, nx, hrun, hH, Cx.le.refl _, ?_, h2⟩
    rw [hAn]
    cases nq <;> exact rfl

/-- AN OWN ROW: it is nil, or what its capacity is is a number from here on. -/
theorem open1_rule {E : En} {cur : FI} {t : List It} {fr : List (Nat × SV)} {hp : List (Nat × Ob)} {nx : Nat} {stk : List Fm} {b : Nat} {T : TypeId} {d : D} {xs : List d.T} (hb : lk hp b = some (.row T d xs))
    (h0 : xs = [] → Mean E cur t ⟨rpF b (.val (.slice none 0 0)) fr, rm hp b, nx⟩ stk)
    (hm : ∀ c, xs.length ≤ c → c ≤ 9223372036854775807 → Mean E cur t ⟨rpF b (.sub b 0 d.sz xs.length c) fr, (b, .wid T d xs c) :: rm hp b, nx⟩ stk) : Mean E cur t ⟨fr, hp, nx⟩ stk := by
  intro w0 η S a w hS hR
  have hH := hR.1.1
  obtain ⟨cs, r1, r2, r3⟩ := hH.obs b _ hb
  have r1 : (η b).1 = (η b).2.ownBlock := r1
  have r2 : w.ownsRow 0 T d.sz (η b).2 xs.length cs := r2
  rcases r2.2 with ⟨hv, h00⟩ | ⟨g, cap, cur', hv, _, hg, hc1, hc2, hc3, hc4⟩
  · have hx : xs = [] := List.eq_nil_of_length_eq_zero h00
    have hle : (cxS w0 hp (lt nx) η w).le (cxS w0 (rm hp b) (lt nx) η w) := fz_le b
    have hdom : ∀ c o, lk (rm hp b) c = some o → lk hp c = some o := fun c o h => rm_sub c o h
    have hdom' : ∀ c, lk (rm hp b) c ≠ none → lk hp c ≠ none := fun c h => by
      cases ho : lk (rm hp b) c with
      | none => exact (h ho).elim
      | some o => rw [hdom c o ho]; simp
    have hy : ∀ v, RC (cxS w0 (rm hp b) (lt nx) η w) (.row b) v → RC (cxS w0 (rm hp b) (lt nx) η w) (.val (.slice none 0 0)) v := fun v ⟨h1, h2, _⟩ => by
      have h2 : v = (η b).2 := h2
      exact ⟨h2.trans hv, rfl⟩
    refine h0 hx w0 η S a w hS ⟨⟨⟨fun c o ho => ?_, fun c e k h1 h2 => hH.sep c e k (hdom' c h1) (hdom' e h2), fun c k h1 => hH.new c k (hdom' c h1), fun c h1 => hH.nxt c (hdom' c h1), hH.bel⟩, hR.1.2⟩, ?_, fun p hp => ⟨RepF.mono hle (hR.2.2 p hp).1, (hR.2.2 p hp).2⟩⟩
    · exact RO.mono hle (hH.nxt c (by rw [hdom c o ho]; simp)) (fun _ _ => rfl) (hH.obs c o (hdom c o ho))
    · refine ⟨fun t' sv ht => ?_, hR.2.1.siz, hR.2.1.dfr⟩
      rw [lk_rpF] at ht
      cases h : lk fr t' with
      | none => rw [h] at ht; cases ht
      | some s =>
        rw [h] at ht
        simp only [Option.map_some, Option.some.injEq] at ht
        subst ht
        obtain ⟨v, h1, h2⟩ := hR.2.1.sl t' s h
        exact ⟨v, h1, rpS_sound hy (RS.mono hle h2)⟩
  have hg1 : (η b).1 = some g := by rw [r1, hv]; rfl
  have hdom : ∀ c, (lk ((b, Ob.wid T d xs cap) :: rm hp b) c ≠ none) = (lk hp c ≠ none) := fun c => by
    rw [lk_put, eq_iff_iff]
    by_cases hc : c = b
    · subst hc; simp [hb]
    · simp [hc]
  have hok : okS w0 ((b, Ob.wid T d xs cap) :: rm hp b) η w = okS w0 hp η w := by funext k; simp only [okS, hdom]
  have hcx : cxS w0 ((b, Ob.wid T d xs cap) :: rm hp b) (lt nx) η w = cxS w0 hp (lt nx) η w := by unfold cxS; rw [hok]
  have hy : ∀ v, RC (cxS w0 hp (lt nx) η w) (.row b) v → RC (cxS w0 hp (lt nx) η w) (.sub b 0 d.sz xs.length cap) v := fun v ⟨h1, h2, _⟩ => by
    have h2 : v = (η b).2 := h2
    exact ⟨h1, hc1, hc2, g, 0, hg1, by rw [h2, hv], fun _ => by simp⟩
  refine hm cap hc1 (by simpa only [maxLen_eq] using hc2) w0 η S a w hS ⟨⟨⟨fun c o ho => ?_, fun c e k h1 h2 => hH.sep c e k (by rw [← hdom]; exact h1) (by rw [← hdom]; exact h2), fun c k h1 => hH.new c k (by rw [← hdom]; exact h1), fun c h1 => hH.nxt c (by rw [← hdom]; exact h1), hH.bel⟩, hR.1.2⟩, ?_, fun p hp => ⟨?_, (hR.2.2 p hp).2⟩⟩
  · rw [hcx]
    rw [lk_put] at ho
    by_cases hc : c = b
    · subst hc
      simp only [if_true, Option.some.injEq] at ho
      subst ho
      exact ⟨g, cur', hg1, hg, hc3, hc1, hc2, by rw [hc4]; exact r3⟩
    · simp only [hc, if_false] at ho
      exact hH.obs c o ho
  · rw [hcx]
    refine ⟨fun t' sv ht => ?_, hR.2.1.siz, hR.2.1.dfr⟩
    rw [lk_rpF] at ht
    cases h : lk fr t' with
    | none => rw [h] at ht; cases ht
    | some s =>
      rw [h] at ht
      simp only [Option.map_some, Option.some.injEq] at ht
      subst ht
      obtain ⟨v, h1, h2⟩ := hR.2.1.sl t' s h
      exact ⟨v, h1, rpS_sound hy h2⟩
  · rw [hcx]
    exact (hR.2.2 p hp).1

/-! ### an array whose elements are got by numbers that are not known -/

def psN (d : D) : Nat → List C → Option (List d.T)
  | 0, [] => some []
  | n + 1, l => match d.ps l with
    | some (y, r) => match psN d n r with
      | some ys => some (y :: ys)
      | none => none
    | none => none
  | _, _ => none
theorem psN_sound {x : Cx} {d : D} : ∀ {n : Nat} {l : List C} {ys : List d.T} {vs : List Value}, psN d n l = some ys → RL (RC x) l vs → RdF (Rd x.w x.ok d) ys vs ∧ ys.length = n
  | 0, [], ys, vs, h, hl => by
    simp only [psN, Option.some.injEq] at h
    subst h
    cases vs with
    | nil => exact ⟨rfl, rfl⟩
    | cons _ _ => exact hl.elim
  | n + 1, l, ys, vs, h, hl => by
    simp only [psN] at h
    split at h
    · rename_i y r hy
      split at h
      · rename_i ys' hr
        cases h
        obtain ⟨v1, v2, e, h1, h2⟩ := D.ps_sound hy hl
        obtain ⟨g1, g2⟩ := psN_sound hr h2
        exact ⟨⟨v1, v2, e, h1, g1⟩, by simp [g2]⟩
      · cases h
    · cases h
  | 0, _ :: _, _, _, h, _ => by simp [psN] at h

/-- cells of an array are its elements, one behind the other -/
theorem arr_rule {E : En} {cur : FI} {t : List It} {fr : List (Nat × SV)} {hp : List (Nat × Ob)} {nx : Nat} {stk : List Fm} {b n : Nat} {T : TypeId} {d : D} {l : List C} {xs : List d.T} (hb : lk hp b = some (.cells T l)) (hps : psN d n l = some xs) (hn : n ≤ 4096)
    (hm : Mean E cur t ⟨fr, (b, .wid T d xs n) :: rm hp b, nx⟩ stk) : Mean E cur t ⟨fr, hp, nx⟩ stk := by
  intro w0 η S a w hS hR
  have hH := hR.1.1
  have hdom : ∀ c, (lk ((b, Ob.wid T d xs n) :: rm hp b) c ≠ none) = (lk hp c ≠ none) := fun c => by
    rw [lk_put, eq_iff_iff]
    by_cases hc : c = b
    · subst hc; simp [hb]
    · simp [hc]
  have hok : okS w0 ((b, Ob.wid T d xs n) :: rm hp b) η w = okS w0 hp η w := by funext k; simp only [okS, hdom]
  have hcx : cxS w0 ((b, Ob.wid T d xs n) :: rm hp b) (lt nx) η w = cxS w0 hp (lt nx) η w := by unfold cxS; rw [hok]
  refine hm w0 η S a w hS ⟨⟨⟨fun c o ho => ?_, fun c e k h1 h2 => hH.sep c e k (by rw [← hdom]; exact h1) (by rw [← hdom]; exact h2), fun c k h1 => hH.new c k (by rw [← hdom]; exact h1), fun c h1 => hH.nxt c (by rw [← hdom]; exact h1), hH.bel⟩, hR.1.2⟩, ?_, fun p hp => ⟨?_, (hR.2.2 p hp).2⟩⟩
  · rw [hcx]
    rw [lk_put] at ho
    by_cases hc : c = b
    · subst hc
      simp only [if_true, Option.some.injEq] at ho
      subst ho
      obtain ⟨k, vs, h1, h2, h3⟩ := hH.obs c _ hb
      obtain ⟨g1, g2⟩ := psN_sound hps h3
      have hlen : vs.toList.length = n * d.sz := by rw [RdF.len (fun _ _ => Rd.len) g1, g2]
      refine ⟨k, vs, h1, h2, by rw [← Array.length_toList]; exact hlen, by omega, by simp only [maxLen_eq]; omega, ?_⟩
      rw [g2, ← hlen, List.take_length]
      exact g1
    · simp only [hc, if_false] at ho
      exact hH.obs c o ho
  · rw [hcx]; exact hR.2.1
  · rw [hcx]; exact (hR.2.2 p hp).1
end OE
