import Derived.Test.YtnldokebmfojeaaDoorOeAny
/- OE, part 23: a call to which objects are handed by a pointer, with the rows that they hold, and which hands them back. Own work; generic over the program. -/
set_option linter.unusedVariables false
namespace OE
open Go Go.RowKit

/-! ### names turned -/

def rnC (ρ : Nat → Nat) : C → C
  | .ptr b o => .ptr (ρ b) o
  | .prw b i s o => .prw (ρ b) i s o
  | .row b => .row (ρ b)
  | .mp b => .mp (ρ b)
  | .csl b k => .csl (ρ b) k
  | .sub b o s k c => .sub (ρ b) o s k c
  | .fn f l => .fn f (l.map fun p => (ρ p.1, p.2))
  | .bm f b o => .bm f (ρ b) o
  | c => c
def rnL (ρ : Nat → Nat) : List C → List C
  | [] => []
  | c :: l => rnC ρ c :: rnL ρ l
def rnT (ρ : Nat → Nat) : List (Bool × List C) → List (Bool × List C)
  | [] => []
  | (b, c) :: l => (b, rnL ρ c) :: rnT ρ l
def rnS (ρ : Nat → Nat) : SV → SV
  | .c x => .c (rnC ρ x)
  | .agg l => .agg (rnL ρ l)
  | .tup l => .tup (rnT ρ l)
  | .un => .un
def rnO (ρ : Nat → Nat) : Ob → Ob
  | .cells T l => .cells T (rnL ρ l)
  | .lmp T k es => .lmp T k (es.map fun p => (p.1, rnS ρ p.2))
  | .itr m k s => .itr (ρ m) k s
  | o => o
/-- the names in it are such as `g` tells; those of rows such as `r` tells, too -/
def gkC (g r : Nat → Bool) : C → Bool
  | .ptr b _ => g b
  | .prw b _ _ _ => g b
  | .row b => g b && r b
  | .mp b => g b
  | .csl b _ => g b
  | .sub b _ _ _ _ => g b
  | .fn _ l => l.all fun p => g p.1
  | .bm _ b _ => g b
  | _ => true
def gkL (g r : Nat → Bool) : List C → Bool
  | [] => true
  | c :: l => gkC g r c && gkL g r l
def gkT (g r : Nat → Bool) : List (Bool × List C) → Bool
  | [] => true
  | (_, c) :: l => gkL g r c && gkT g r l
def gkS (g r : Nat → Bool) : SV → Bool
  | .c x => gkC g r x
  | .agg l => gkL g r l
  | .tup l => gkT g r l
  | .un => true
def gkO (g r : Nat → Bool) (b : Nat) : Ob → Bool
  | .cells _ l => gkL g r l
  | .lmp _ _ es => es.all fun p => gkS g r p.2
  | .itr m _ _ => g m
  | .row _ _ _ => r b
  | _ => true

structure Rn (ρ : Nat → Nat) (g r : Nat → Bool) (x y : Cx) : Prop where
  w : y.w = x.w
  ok : ∀ k, x.ok k → y.ok k
  nm : ∀ b, g b = true → x.nm b → y.nm (ρ b)
  e1 : ∀ b, g b = true → x.nm b → (y.η (ρ b)).1 = (x.η b).1
  e2 : ∀ b, g b = true → r b = true → x.nm b → (y.η (ρ b)).2 = (x.η b).2

section
variable {ρ : Nat → Nat} {g r : Nat → Bool} {x y : Cx}
theorem Rn.rd (h : Rn ρ g r x y) {d : D} {z : d.T} {cs : List Value} (hr : Rd x.w x.ok d z cs) : Rd y.w y.ok d z cs := Rd.mono h.ok (fun _ _ => by rw [h.w]) hr
theorem rnC_sound (h : Rn ρ g r x y) : ∀ {c : C} {v : Value}, gkC g r c = true → RC x c v → RC y (rnC ρ c) v
  | .int _ _, _, _, h' => h'
  | .bool _, _, _, h' => h'
  | .str _, _, _, h' => h'
  | .ptr b off, _, hg, ⟨h1, k, h2, h3⟩ => ⟨h.nm _ hg h1, k, by rw [h.e1 b hg h1]; exact h2, h3⟩
  | .pel d _ off, _, _, ⟨k, o, cells, T, fz, cs, h1, h2, h3, h4, h5⟩ => ⟨k, o, cells, T, fz, cs, h1, h.ok k h2, by rw [h.w]; exact h3, h.rd h4, h5⟩
  | .prw b _ _ _, _, hg, ⟨h1, k, h2, h3⟩ => ⟨h.nm _ hg h1, k, by rw [h.e1 b hg h1]; exact h2, h3⟩
  | .row b, _, hg, ⟨h1, h2, h3⟩ => by
    simp only [gkC, Bool.and_eq_true] at hg
    exact ⟨h.nm _ hg.1 h1, by rw [h.e2 b hg.1 hg.2 h1]; exact h2, h3⟩
  | .dat d _, _, _, h' => by
    have h' : Rd x.w x.ok (.list d) _ _ := h'
    exact (h.rd h' : Rd y.w y.ok (.list d) _ _)
  | .val _, _, _, h' => h'
  | .fn f caps, _, hg, ⟨vs, e, h'⟩ => by
    refine ⟨vs, e, ?_⟩
    generalize vs.toList = l at h'
    clear e
    replace hg : (caps.all fun p => g p.1) = true := hg
    induction caps generalizing l with
    | nil => cases l with
      | nil => trivial
      | cons => exact h'.elim
    | cons p caps ih =>
      simp only [List.all_cons, Bool.and_eq_true] at hg
      cases l with
      | nil => exact h'.elim
      | cons u l =>
        obtain ⟨⟨h1, k, h2, h3⟩, h4⟩ := h'
        exact ⟨⟨h.nm _ hg.1 h1, k, by rw [h.e1 _ hg.1 h1]; exact h2, h3⟩, ih l h4 hg.2⟩
  | .bm _ b _, _, hg, ⟨h1, k, h2, h3⟩ => ⟨h.nm _ hg h1, k, by rw [h.e1 b hg h1]; exact h2, h3⟩
  | .mp b, _, hg, ⟨h1, k, h2, h3⟩ => ⟨h.nm _ hg h1, k, by rw [h.e1 b hg h1]; exact h2, h3⟩
  | .csl b _, _, hg, ⟨h1, k, h2, h3⟩ => ⟨h.nm _ hg h1, k, by rw [h.e1 b hg h1]; exact h2, h3⟩
  | .glb _, _, _, h' => h'
  | .sub b _ _ _ _, _, hg, ⟨h1, g1, g2, k, o', h2, h3⟩ => ⟨h.nm _ hg h1, g1, g2, k, o', by rw [h.e1 b hg h1]; exact h2, h3⟩
theorem rnL_sound (h : Rn ρ g r x y) : ∀ {l : List C} {m : List Value}, gkL g r l = true → RL (RC x) l m → RL (RC y) (rnL ρ l) m
  | [], [], _, _ => trivial
  | _ :: _, _ :: _, hg, ⟨h1, h2⟩ => by
    simp only [gkL, Bool.and_eq_true] at hg
    exact ⟨rnC_sound h hg.1 h1, rnL_sound h hg.2 h2⟩
  | [], _ :: _, _, h' => h'.elim
  | _ :: _, [], _, h' => h'.elim
theorem rnT_sound (h : Rn ρ g r x y) : ∀ {l : List (Bool × List C)} {m : List Value}, gkT g r l = true → RL (RP x) l m → RL (RP y) (rnT ρ l) m
  | [], [], _, _ => trivial
  | (q, l) :: _, _ :: _, hg, ⟨h1, h2⟩ => by
    simp only [gkT, Bool.and_eq_true] at hg
    refine ⟨?_, rnT_sound h hg.2 h2⟩
    unfold RP at *
    cases q with
    | true =>
      simp only [if_true] at h1 ⊢
      obtain ⟨vs, e, h'⟩ := h1
      exact ⟨vs, e, rnL_sound h hg.1 h'⟩
    | false =>
      simp only [Bool.false_eq_true, if_false] at h1 ⊢
      obtain ⟨y, rfl, h'⟩ := h1
      have hg1 := hg.1
      simp only [gkL, Bool.and_eq_true] at hg1
      exact ⟨_, rfl, rnC_sound h hg1.1 h'⟩
  | [], _ :: _, _, h' => h'.elim
  | _ :: _, [], _, h' => h'.elim
theorem rnS_sound (h : Rn ρ g r x y) {s : SV} {v : Value} (hg : gkS g r s = true) (h' : RS x s v) : RS y (rnS ρ s) v := by
  cases s with
  | c x => exact rnC_sound h hg h'
  | agg l => obtain ⟨vs, e, h'⟩ := h'; exact ⟨vs, e, rnL_sound h hg h'⟩
  | tup l => obtain ⟨vs, e, h'⟩ := h'; exact ⟨vs, e, rnT_sound h hg h'⟩
  | un => trivial
theorem rnSs_sound (h : Rn ρ g r x y) : ∀ {l : List SV} {m : List Value}, (l.all (gkS g r)) = true → RL (RS x) l m → RL (RS y) (l.map (rnS ρ)) m
  | [], [], _, _ => trivial
  | _ :: _, _ :: _, hg, ⟨h1, h2⟩ => by
    simp only [List.all_cons, Bool.and_eq_true] at hg
    exact ⟨rnS_sound h hg.1 h1, rnSs_sound h hg.2 h2⟩
  | [], _ :: _, _, h' => h'.elim
  | _ :: _, [], _, h' => h'.elim
theorem rnO_sound (h : Rn ρ g r x y) {b : Nat} (hb : x.nm b) (gb : g b = true) : ∀ {o : Ob}, gkO g r b o = true → RO x b o → RO y (ρ b) (rnO ρ o)
  | .cells T l, hg, ⟨k, vs, h1, h2, h3⟩ => ⟨k, vs, by rw [h.e1 b gb hb]; exact h1, by rw [h.w]; exact h2, rnL_sound h hg h3⟩
  | .lmp T k es, hg, ⟨q, arr, h1, h2, h3, h4, h5, h6⟩ => by
    refine ⟨q, arr, by rw [h.e1 b gb hb]; exact h1, by rw [h.w]; simpa using h2, ?_, h4, fun p hp => ?_, ?_⟩
    · clear h1 h2 h4 h5 h6
      replace hg : (es.all fun p => gkS g r p.2) = true := hg
      generalize arr.toList = l at h3
      induction es generalizing l with
      | nil => cases l with
        | nil => trivial
        | cons => exact h3.elim
      | cons p es ih =>
        simp only [List.all_cons, Bool.and_eq_true] at hg
        cases l with
        | nil => exact h3.elim
        | cons u l => exact ⟨⟨h3.1.1, rnS_sound h hg.1 h3.1.2⟩, ih hg.2 l h3.2⟩
    · obtain ⟨q, hq, rfl⟩ := List.mem_map.1 hp
      exact h5 q hq
    · rw [List.pairwise_map]; exact h6
  | .dmp T kd vd es, _, ⟨q, arr, h1, h2, h3, h4⟩ => ⟨q, arr, by rw [h.e1 b gb hb]; exact h1, by rw [h.w]; exact h2, h3, h4⟩
  | .wid T d xs c, _, ⟨k, cur, h1, h2, h3, h4, h5, h6⟩ => ⟨k, cur, by rw [h.e1 b gb hb]; exact h1, by rw [h.w]; exact h2, h3, h4, h5, RdF.imp (fun _ _ => h.rd) h6⟩
  | .itr m k seen, hg, ⟨q, z, h1, h2, h3, h4⟩ => ⟨q, z, by rw [h.e1 b gb hb]; exact h1, h.nm _ hg h2, by rw [h.e1 m hg h2]; exact h3, by rw [h.w]; exact h4⟩
  | .row T d xs, hg, ⟨cs, h1, h2, h3⟩ => ⟨cs, by rw [h.e1 b gb hb, h.e2 b gb hg hb]; exact h1, by rw [h.e2 b gb hg hb, h.w]; exact h2, RdF.imp (fun _ _ => h.rd) h3⟩
end

/-! ### the contract -/

/-- A FUNCTION's CONTRACT: objects go in, under names from 0 on, and come out; those of `kp` stand where they stood (and, of rows, are the same); what is new has names from `n` on. -/
def FnP (P : Program) (f : Nat) (args : List SV) (hpI : List (Nat × Ob)) (n : Nat) (kp : List (Nat × Bool)) (s : SV) (hpO : List (Nat × Ob)) (n2 : Nat) : Prop :=
  (∃ fn, P.funcs[f]? = some fn ∧ fn.body.isSome = true ∧ (fn.name == "runtime.NumGoroutine") = false) ∧
  ∀ (w0 : W0) (η : Nat → Option Nat × Value) (vs : Array Value), RepH w0 hpI (lt n) η w0.w → RL (RS (cxS w0 hpI (lt n) η w0.w)) args vs.toList →
    Calls P f vs w0.w fun e w' => ∃ v η', e = .returned v ∧ (∀ p ∈ kp, (η' p.1).1 = (η p.1).1 ∧ (p.2 = true → (η' p.1).2 = (η p.1).2)) ∧ RepH w0 hpO (lt n2) η' w' ∧ RS (cxS w0 hpO (lt n2) η' w') s v

def slP : Nat × Bool → SV
  | (b, true) => .c (.row b)
  | (b, false) => .c (.ptr b 0)
def isRow : Option Ob → Bool
  | some (.row _ _ _) => true
  | _ => false
/-- what is kept was there, and is a row or none, as told -/
def kpOk (hp : List (Nat × Ob)) : List (Nat × Bool) → Bool
  | [] => true
  | (b, q) :: l => (match lk hp b with
    | some (.row _ _ _) => q
    | some _ => !q
    | none => false) && kpOk hp l
/-- what such a run comes to -/
def PostP (kp : List (Nat × Bool)) (s : SV) (hpO : List (Nat × Ob)) (n2 : Nat) (st : St) : Prop := sub ⟨num (s :: kp.map slP) 0, hpO, n2⟩ st []
def frmP (fi : FI) (kp : List (Nat × Bool)) (Q : St → Prop) : Fm := ⟨⟨fi.fn, kp.length + 1, fi.res⟩, num (.un :: kp.map slP) 0, [.fin Q], some 0⟩

theorem row_slice {x : Cx} {b : Nat} {T : TypeId} {d : D} {xs : List d.T} (h : RO x b (.row T d xs)) : ∃ A n c, (x.η b).2 = .slice A n c := by
  obtain ⟨cs, h1, h2, h3⟩ := h
  rcases h2.2 with ⟨h, _⟩ | ⟨g, cap, cur, hv, _⟩
  · exact ⟨_, _, _, h⟩
  · exact ⟨_, _, _, hv⟩
theorem obj_some {x : Cx} {b : Nat} : ∀ {o : Ob}, (∀ T d xs, o ≠ .row T d xs) → RO x b o → ∃ k, (x.η b).1 = some k
  | .cells T l, _, ⟨k, vs, h1, _⟩ => ⟨k, h1⟩
  | .lmp T k es, _, ⟨q, arr, h1, _⟩ => ⟨q, h1⟩
  | .dmp T kd vd es, _, ⟨q, arr, h1, _⟩ => ⟨q, h1⟩
  | .wid T d xs c, _, ⟨k, cur, h1, _⟩ => ⟨k, h1⟩
  | .itr m k seen, _, ⟨q, z, h1, _⟩ => ⟨q, h1⟩
  | .row T d xs, hn, _ => (hn T d xs rfl).elim

/-- the slots that hold what is kept -/
theorem slots_of {w0 : W0} {hp : List (Nat × Ob)} {n : Nat} {η : Nat → Option Nat × Value} {w : World} (hH : RepH w0 hp (lt n) η w) : ∀ {kp : List (Nat × Bool)}, kpOk hp kp = true →
    ∃ vs : List Value, RL (RS (cxS w0 hp (lt n) η w)) (kp.map slP) vs
  | [], _ => ⟨[], trivial⟩
  | (b, q) :: l, h => by
    simp only [kpOk, Bool.and_eq_true] at h
    obtain ⟨vs, hvs⟩ := slots_of hH (kp := l) h.2
    have h1 := h.1
    split at h1
    · rename_i T d xs hb
      subst h1
      obtain ⟨A, m, c, e⟩ := row_slice (hH.obs b _ hb)
      exact ⟨(η b).2 :: vs, ⟨hH.nxt b (by rw [hb]; simp), rfl, A, m, c, e⟩, hvs⟩
    · rename_i o hnr hb
      have h1 : q = false := by simpa using h1
      subst h1
      obtain ⟨k, hk⟩ := obj_some (fun T d xs e => hnr T d xs e) (hH.obs b _ hb)
      exact ⟨.pointer (some ⟨k, 0, none⟩) :: vs, ⟨hH.nxt b (by rw [hb]; simp), k, hk, rfl⟩, hvs⟩
    · cases h1

theorem kept_of {x y : Cx} : ∀ {kp : List (Nat × Bool)} {vs : List Value}, RL (RS x) (kp.map slP) vs → RL (RS y) (kp.map slP) vs → ∀ p ∈ kp, (p.2 = true → (y.η p.1).2 = (x.η p.1).2) ∧ (p.2 = false → (y.η p.1).1 = (x.η p.1).1)
  | [], _, _, _, p, hp => by cases hp
  | (b, q) :: l, [], h, _, _, _ => h.elim
  | (b, q) :: l, v :: vs, ⟨h1, h2⟩, ⟨g1, g2⟩, p, hp => by
    rcases List.mem_cons.1 hp with rfl | hp
    · cases q with
      | true =>
        obtain ⟨_, e1, _⟩ := h1
        obtain ⟨_, e2, _⟩ := g1
        exact ⟨fun _ => e2.symm.trans e1, fun h => by cases h⟩
      | false =>
        obtain ⟨_, k, e1, r1⟩ := h1
        obtain ⟨_, k', e2, r2⟩ := g1
        have : k' = k := by
          have := r2.symm.trans r1
          simpa using this
        subst this
        exact ⟨fun h => (by cases h), fun _ => e2.trans e1.symm⟩
    · exact kept_of h2 g2 p hp

theorem fnp_of {E : En} {fi : FI} {f : Nat} {c : Code} {args : List SV} {hpI hpO : List (Nat × Ob)} {n n2 : Nat} {kp : List (Nat × Bool)} {s : SV} (hf : E.P.funcs[f]? = some fi.fn) (hb : fi.fn.body = some c) (hn : (fi.fn.name == "runtime.NumGoroutine") = false) (ht : fi.fn.ntmps = fi.nt)
    (hr : fi.fn.results.toList = fi.res) (hl : args.length ≤ fi.nt) (hk1 : kpOk hpI kp = true) (hk2 : kpOk hpO kp = true) (hm : Mean E fi [.code c] ⟨num args 0, hpI, n⟩ [frmP fi kp (PostP kp s hpO n2)]) : FnP E.P f args hpI n kp s hpO n2 := by
  refine ⟨⟨fi.fn, hf, by rw [hb]; rfl, hn⟩, fun w0 η vs hH hvs => ?_⟩
  refine calls_of_wp hf hb ?_
  have hF := enter_rep hvs hl
  rw [← ht] at hF
  obtain ⟨us, hus⟩ := slots_of hH hk1
  have hlen := RL.len hus
  simp only [List.length_map] at hlen
  let a0 : Act := { tmps := (undef :: us).toArray, defers := [] }
  have hF0 : RepF (cxS w0 hpI (lt n) η w0.w) (kp.length + 1) (num (.un :: kp.map slP) 0) a0 := by
    have := enter_rep (x := cxS w0 hpI (lt n) η w0.w) (args := .un :: kp.map slP) (vs := (undef :: us).toArray) (nt := kp.length + 1) ⟨trivial, hus⟩ (by simp)
    have e : ({ tmps := (undef :: us).toArray ++ Array.replicate (kp.length + 1 - (undef :: us).toArray.size) undef, defers := [] } : Act) = a0 := by
      simp [a0, hlen]
    rw [e] at this
    exact this
  have hS : ∀ p ∈ [(frmP fi kp (PostP kp s hpO n2), a0)], RepF (cxS w0 hpI (lt n) η w0.w) p.1.fi.nt p.1.fr p.2 ∧ p.1.fi.fn.results.toList = p.1.fi.res := by
    intro p hp
    rw [List.mem_singleton] at hp
    subst hp
    exact ⟨hF0, hr⟩
  refine wp_mono (hm w0 η [(frmP fi kp (PostP kp s hpO n2), a0)] _ w0.w rfl ⟨⟨hH, hr⟩, by rw [← ht]; exact hF, hS⟩) ?_
  intro e a' w' hq
  have fin : RR E.P w0 (Fin w0 E.post) fi [(frmP fi kp (PostP kp s hpO n2), a0)] a' w' → a'.defers = [] ∧ ∃ v, (results fi.fn a'.tmps).run E.P w' = .ok v w' ∧
      (∃ v' η', (Ending.returned v : Ending) = .returned v' ∧ (∀ p ∈ kp, (η' p.1).1 = (η p.1).1 ∧ (p.2 = true → (η' p.1).2 = (η p.1).2)) ∧ RepH w0 hpO (lt n2) η' w' ∧ RS (cxS w0 hpO (lt n2) η' w') s v') := by
    rintro ⟨h1, v, h2, η1, st, h3, h4⟩
    refine ⟨h1, v, h2, v, ?_⟩
    obtain ⟨η', hR'⟩ := sub_sound (S := []) h4 rfl h3
    refine ⟨η', rfl, ?_, hR'.1.1, ?_⟩
    · have hus' : RL (RS (cxS w0 hpO (lt n2) η' w')) (kp.map slP) us := by
        have key : ∀ (ss : List SV) (vs : List Value), ss.length = vs.length → (∀ (i : Nat) (s : SV), ss[i]? = some s → ∃ v, vs[i]? = some v ∧ RS (cxS w0 hpO (lt n2) η' w') s v) → RL (RS (cxS w0 hpO (lt n2) η' w')) ss vs := by
          intro ss
          induction ss with
          | nil => intro vs hl _; cases vs with
            | nil => trivial
            | cons => simp at hl
          | cons s ss ih =>
            intro vs hl h
            cases vs with
            | nil => simp at hl
            | cons v vs =>
              obtain ⟨v', e, hv⟩ := h 0 s rfl
              simp only [List.getElem?_cons_zero, Option.some.injEq] at e
              subst e
              exact ⟨hv, ih vs (by simpa using hl) fun i s hs => by simpa using h (i + 1) s (by simpa using hs)⟩
        refine key _ _ (by simpa using hlen) fun i s hs => ?_
        have hnum : ∀ (ss : List SV) (m i : Nat) (s : SV), ss[i]? = some s → lk (num ss m) (m + i) = some s := by
          intro ss
          induction ss with
          | nil => intro m i s h; simp at h
          | cons a ss ih =>
            intro m i s h
            cases i with
            | zero => simp only [List.getElem?_cons_zero, Option.some.injEq] at h; subst h; simp [num, lk]
            | succ i =>
              simp only [num, lk]
              rw [if_neg (by omega), show m + (i + 1) = (m + 1) + i from by omega]
              exact ih (m + 1) i s (by simpa using h)
        obtain ⟨u, hu, hv⟩ := hR'.2.1.sl (i + 1) s (by
          have := hnum (SV.un :: kp.map slP) 0 (i + 1) s (by simpa using hs)
          have h2 := hnum (s :: kp.map slP) 0 (i + 1) s (by simpa using hs)
          rw [Nat.zero_add] at h2
          simp only [num, lk] at h2 ⊢
          simpa using h2)
        refine ⟨u, ?_, hv⟩
        have hu : (a0.put (some 0) v).tmps[i + 1]? = some u := hu
        have e : (a0.put (some 0) v).tmps = (v :: us).toArray := by simp [a0, Act.put]
        rw [e] at hu
        simpa using hu
      intro p hp
      obtain ⟨k1, k2⟩ := kept_of hus hus' p hp
      refine ⟨?_, k1⟩
      obtain ⟨b, q⟩ := p
      cases q with
      | false => exact k2 rfl
      | true =>
        have hrow : ∀ (hp : List (Nat × Ob)) (l : List (Nat × Bool)), kpOk hp l = true → (b, true) ∈ l → ∃ T d xs, lk hp b = some (.row T d xs) := by
          intro hp l
          induction l with
          | nil => intro _ h; cases h
          | cons a l ih =>
            obtain ⟨c, q⟩ := a
            intro h hm
            simp only [kpOk, Bool.and_eq_true] at h
            rcases List.mem_cons.1 hm with e | hm
            · cases e
              have h1 := h.1
              split at h1
              · rename_i T d xs hb; exact ⟨T, d, xs, hb⟩
              · simp at h1
              · cases h1
            · exact ih h.2 hm
        obtain ⟨T, d, xs, e1⟩ := hrow _ _ hk1 hp
        obtain ⟨T', d', xs', e2⟩ := hrow _ _ hk2 hp
        obtain ⟨_, o1, _⟩ := hH.obs b _ e1
        obtain ⟨_, o2, _⟩ := hR'.1.1.obs b _ e2
        have o1 : (η b).1 = (η b).2.ownBlock := o1
        have o2 : (η' b).1 = (η' b).2.ownBlock := o2
        have k1 : (η' b).2 = (η b).2 := k1 rfl
        show (η' b).1 = (η b).1
        rw [o1, o2, k1]
    · obtain ⟨u, hu, hv⟩ := hR'.2.1.sl 0 s rfl
      have hu : (a0.put (some 0) v).tmps[0]? = some u := hu
      have e : (a0.put (some 0) v).tmps = (v :: us).toArray := by simp [a0, Act.put]
      rw [e] at hu
      simp only [List.getElem?_toArray, List.getElem?_cons_zero, Option.some.injEq] at hu
      subst hu
      exact hv
  cases e with
  | normal => exact fin hq
  | ret => exact fin hq
  | exit id => exact hq.elim
  | goto l => exact hq.elim
  | panic ch => exact hq.elim
  | outgrown => exact hq.elim

/-! ### the call -/

/-- from the names outside to those inside: the place in the list; what is not in it has no name inside -/
def ixP : List Nat → Nat → Nat
  | [], _ => 0
  | b :: r, c => match Nat.beq c b with
    | true => 0
    | false => ixP r c + 1
def memP : List Nat → Nat → Bool
  | [], _ => false
  | b :: r, c => match Nat.beq c b with
    | true => true
    | false => memP r c
def ndP : List Nat → Bool
  | [] => true
  | b :: r => !memP r b && ndP r
/-- from the names inside to those outside: what is new has names from `nn` on -/
def exP (nn : Nat) : List Nat → Nat → Nat
  | [], c => nn + c
  | b :: _, 0 => b
  | _ :: r, c + 1 => exP nn r c
/-- the objects, under their names inside -/
def inP (σ : Nat → Nat) (hp : List (Nat × Ob)) : Nat → List Nat → List (Nat × Ob)
  | _, [] => []
  | i, b :: r => match lk hp b with
    | some o => (i, rnO σ o) :: inP σ hp (i + 1) r
    | none => inP σ hp (i + 1) r
/-- they are there, and name one another alone -/
def gdP (g : Nat → Bool) (hp : List (Nat × Ob)) : List Nat → Bool
  | [] => true
  | b :: r => (match lk hp b with
    | some o => gkO g (fun _ => true) b o
    | none => false) && gdP g hp r
def isK (kp : List (Nat × Bool)) (b : Nat) : Bool := kp.any fun p => Nat.beq p.1 b
def isKr (kp : List (Nat × Bool)) (b : Nat) : Bool := kp.any fun p => Nat.beq p.1 b && p.2
/-- the names that may stand in what comes out -/
def okP (n n2 : Nat) (kp : List (Nat × Bool)) (b : Nat) : Bool := (Nat.ble n b && Nat.blt b n2) || isK kp b
def okR (n : Nat) (kp : List (Nat × Bool)) (b : Nat) : Bool := Nat.ble n b || isKr kp b
def outP (g r : Nat → Bool) : List (Nat × Ob) → Bool
  | [] => true
  | (b, o) :: l => g b && gkO g r b o && outP g r l
/-- what the call does to the objects outside -/
def chP (ρ : Nat → Nat) (hpO : List (Nat × Ob)) : Nat → Nat → List (Nat × Option Ob)
  | _, 0 => []
  | i, k + 1 => (ρ i, match lk hpO i with
    | some o => some (rnO ρ o)
    | none => none) :: chP ρ hpO (i + 1) k

theorem memP_iff : ∀ {l : List Nat} {c : Nat}, memP l c = true ↔ c ∈ l
  | [], c => by simp [memP]
  | b :: r, c => by
    simp only [memP]
    split
    · rename_i e
      simp [Nat.eq_of_beq_eq_true e]
    · rename_i e
      rw [memP_iff]
      have : c ≠ b := fun h => by subst h; simp at e
      simp [this]
theorem ixP_lt : ∀ {l : List Nat} {c : Nat}, c ∈ l → ixP l c < l.length ∧ ∀ nn, exP nn l (ixP l c) = c
  | b :: r, c, h => by
    simp only [ixP]
    split
    · rename_i e
      exact ⟨by simp, fun nn => (Nat.eq_of_beq_eq_true e).symm⟩
    · rename_i e
      have : c ≠ b := fun h => by subst h; simp at e
      have h : c ∈ r := by simpa [this] using h
      obtain ⟨h1, h2⟩ := ixP_lt h
      exact ⟨by simpa using h1, fun nn => h2 nn⟩
theorem exP_in (nn : Nat) : ∀ {l : List Nat} {i : Nat}, i < l.length → exP nn l i ∈ l
  | b :: r, 0, _ => by simp [exP]
  | b :: r, i + 1, h => by
    simp only [exP]
    exact List.mem_cons_of_mem _ (exP_in nn (by simpa using h))
theorem exP_new (nn : Nat) : ∀ {l : List Nat} {i : Nat}, l.length ≤ i → exP nn l i = nn + (i - l.length)
  | [], i, _ => by simp [exP]
  | b :: r, 0, h => by simp at h
  | b :: r, i + 1, h => by
    simp only [exP, List.length_cons]
    rw [exP_new nn (by simpa using h)]
    omega
theorem ix_ex (nn : Nat) : ∀ {l : List Nat} {i : Nat}, ndP l = true → i < l.length → ixP l (exP nn l i) = i
  | b :: r, 0, _, _ => by simp [exP, ixP]
  | b :: r, i + 1, hn, h => by
    simp only [ndP, Bool.and_eq_true, Bool.not_eq_true'] at hn
    have h : i < r.length := by simpa using h
    have hm := exP_in nn h
    have hne : Nat.beq (exP nn r i) b = false := by
      cases e : Nat.beq (exP nn r i) b with
      | false => rfl
      | true =>
        have := Nat.eq_of_beq_eq_true e
        rw [this] at hm
        rw [memP_iff.2 hm] at hn
        cases hn.1
    simp only [exP, ixP, hne]
    rw [ix_ex nn hn.2 h]

theorem lk_inP (σ : Nat → Nat) (hp : List (Nat × Ob)) (g : Nat → Bool) : ∀ {l : List Nat} {i c : Nat}, gdP g hp l = true → lk (inP σ hp i l) c = (if i ≤ c ∧ c < i + l.length then (match lk hp (exP 0 l (c - i)) with | some o => some (rnO σ o) | none => none) else none)
  | [], i, c, _ => by
    simp only [inP, lk, List.length_nil]
    rw [if_neg (by omega)]
  | b :: r, i, c, h => by
    simp only [gdP, Bool.and_eq_true] at h
    have h1 := h.1
    split at h1
    · rename_i o hb
      simp only [inP, hb, lk]
      by_cases e : c = i
      · subst e
        rw [if_pos rfl, if_pos (by simp)]
        simp [exP, hb]
      · rw [if_neg e, lk_inP σ hp g h.2]
        by_cases h2 : i + 1 ≤ c ∧ c < i + 1 + r.length
        · rw [if_pos h2, if_pos (by simp; omega)]
          have : c - i = (c - (i + 1)) + 1 := by omega
          rw [this]
          simp only [exP]
        · rw [if_neg h2, if_neg (by simp; omega)]
    · cases h1

theorem keys_chP (ρ : Nat → Nat) (hpO : List (Nat × Ob)) : ∀ (k i c : Nat), c ∈ keys (chP ρ hpO i k) ↔ ∃ j, i ≤ j ∧ j < i + k ∧ ρ j = c
  | 0, i, c => by
    simp only [chP, keys, List.map_nil, List.not_mem_nil, false_iff]
    rintro ⟨j, h1, h2, _⟩; omega
  | k + 1, i, c => by
    have ih := keys_chP ρ hpO k (i + 1) c
    simp only [keys] at ih
    simp only [chP, keys, List.map_cons, List.mem_cons, ih]
    constructor
    · rintro (h | ⟨j, h1, h2, h3⟩)
      · exact ⟨i, by omega, by omega, h.symm⟩
      · exact ⟨j, by omega, by omega, h3⟩
    · rintro ⟨j, h1, h2, h3⟩
      by_cases e : j = i
      · subst e; exact .inl h3.symm
      · exact .inr ⟨j, by omega, by omega, h3⟩
theorem asg_chP (ρ : Nat → Nat) (hpO : List (Nat × Ob)) : ∀ (k i j : Nat) (σ : Nat → Option Ob), i ≤ j → j < i + k → (∀ a b, i ≤ a → a < i + k → i ≤ b → b < i + k → ρ a = ρ b → a = b) → asg σ (chP ρ hpO i k) (ρ j) = (lk hpO j).map (rnO ρ)
  | 0, i, j, σ, h1, h2, _ => by omega
  | k + 1, i, j, σ, h1, h2, hinj => by
    simp only [chP, asg]
    by_cases e : j = i
    · subst e
      rw [asg_not (fun h => by
        obtain ⟨a, g1, g2, g3⟩ := (keys_chP ρ hpO k (j + 1) (ρ j)).1 h
        have := hinj a j (by omega) (by omega) (by omega) (by omega) g3
        omega)]
      simp only [if_true]
      cases lk hpO j <;> rfl
    · exact asg_chP ρ hpO k (i + 1) j _ (by omega) (by omega) fun a b g1 g2 g3 g4 g5 => hinj a b (by omega) (by omega) (by omega) (by omega) g5

section
variable {w0 : W0} {hp : List (Nat × Ob)} {nm : Nat → Prop} {η : Nat → Option Nat × Value} {w : World} {bs : List Nat}
/-- the world at such a call -/
def inWP (w0 : W0) (hp : List (Nat × Ob)) (η : Nat → Option Nat × Value) (w : World) (bs : List Nat) : W0 := ⟨w, okS w0 hp η w, fun j => ∃ b ∈ bs, (η b).1 = some j⟩
def etP (η : Nat → Option Nat × Value) (bs : List Nat) : Nat → Option Nat × Value := fun c => η (exP 0 bs c)

theorem gdP_in {g : Nat → Bool} : ∀ {bs : List Nat}, gdP g hp bs = true → ∀ b ∈ bs, ∃ o, lk hp b = some o ∧ gkO g (fun _ => true) b o = true
  | c :: r, h, b, hb => by
    simp only [gdP, Bool.and_eq_true] at h
    rcases List.mem_cons.1 hb with rfl | hb
    · have h1 := h.1
      split at h1
      · rename_i o ho; exact ⟨o, ho, h1⟩
      · cases h1
    · exact gdP_in h.2 b hb

theorem rn_in (hg : gdP (memP bs) hp bs = true) (hn : ndP bs = true) : Rn (ixP bs) (memP bs) (fun _ => true) (cxS w0 hp nm η w) (cxS (inWP w0 hp η w bs) (inP (ixP bs) hp 0 bs) (lt bs.length) (etP η bs) w) := by
  have he : ∀ b, memP bs b = true → etP η bs (ixP bs b) = η b := fun b hb => by
    unfold etP; rw [(ixP_lt (memP_iff.1 hb)).2 0]
  refine ⟨rfl, fun k hk => ⟨⟨hk.1.1, fun _ => hk⟩, fun c hc e => ?_⟩, fun b hb _ => (ixP_lt (memP_iff.1 hb)).1, fun b hb _ => by show (etP η bs (ixP bs b)).1 = (η b).1; rw [he b hb], fun b hb _ _ => by show (etP η bs (ixP bs b)).2 = (η b).2; rw [he b hb]⟩
  rw [lk_inP _ _ _ hg] at hc
  split at hc
  · rename_i h
    have hm := exP_in 0 (l := bs) (i := c) (by omega)
    obtain ⟨o, ho, _⟩ := gdP_in hg _ hm
    exact hk.2 _ (by rw [ho]; simp) e
  · exact hc rfl
theorem rep_inP (hH : RepH w0 hp nm η w) (hg : gdP (memP bs) hp bs = true) (hn : ndP bs = true) : RepH (inWP w0 hp η w bs) (inP (ixP bs) hp 0 bs) (lt bs.length) (etP η bs) w := by
  have hin : ∀ c, lk (inP (ixP bs) hp 0 bs) c ≠ none → c < bs.length ∧ lk hp (exP 0 bs c) ≠ none := fun c h => by
    rw [lk_inP _ _ _ hg] at h
    split at h
    · rename_i h1
      refine ⟨by omega, fun e => ?_⟩
      rw [Nat.sub_zero, e] at h
      exact h rfl
    · exact (h rfl).elim
  have hRn := rn_in (w0 := w0) (nm := nm) (η := η) (w := w) hg hn
  refine ⟨fun c o ho => ?_, fun c d k h1 h2 h3 h4 => ?_, fun c k h1 h2 => ?_, fun c h => (hin c h).1, BelO.refl _ (GOk.inn hH fun k ⟨b, hb, e⟩ => ⟨b, by obtain ⟨o, ho, _⟩ := gdP_in hg b hb; rw [ho]; simp, e⟩)⟩
  · obtain ⟨hc, hb⟩ := hin c (by rw [ho]; simp)
    rw [lk_inP _ _ _ hg, if_pos (by omega), Nat.sub_zero] at ho
    have hm := exP_in 0 hc
    obtain ⟨ob, hob, hk⟩ := gdP_in hg _ hm
    rw [hob] at ho
    simp only [Option.some.injEq] at ho
    subst ho
    have := rnO_sound hRn (hH.nxt _ hb) (memP_iff.2 hm) hk (hH.obs _ ob hob)
    rw [ix_ex 0 hn hc] at this
    exact this
  · obtain ⟨g1, g2⟩ := hin c h1
    obtain ⟨g3, g4⟩ := hin d h2
    have := hH.sep _ _ k g2 g4 h3 h4
    have e := congrArg (ixP bs) this
    rwa [ix_ex 0 hn g1, ix_ex 0 hn g3] at e
  · obtain ⟨g1, g2⟩ := hin c h1
    exact ⟨fun h => h.2 ⟨_, exP_in 0 g1, h2⟩, (hH.new _ k g2 h2).2⟩

/-- behind the call -/
theorem rep_outP {w' : World} {ηe : Nat → Option Nat × Value} {kp : List (Nat × Bool)} {hpO : List (Nat × Ob)} {s : SV} {v : Value} {n2 nn : Nat} (hH : RepH w0 hp nm η w) (hg : gdP (memP bs) hp bs = true) (hn : ndP bs = true) (hn2 : bs.length ≤ n2) (hnn : ∀ i, nn ≤ i → i < nn + (n2 - bs.length) → ¬ nm i)
    (hkn : (kp.all fun p => Nat.blt p.1 bs.length) = true) (ho : outP (okP bs.length n2 kp) (okR bs.length kp) hpO = true) (hos : gkS (okP bs.length n2 kp) (okR bs.length kp) s = true)
    (hkp : ∀ p ∈ kp, (ηe p.1).1 = (etP η bs p.1).1 ∧ (p.2 = true → (ηe p.1).2 = (etP η bs p.1).2))
    (hE : RepH (inWP w0 hp η w bs) hpO (lt n2) ηe w') (hv : RS (cxS (inWP w0 hp η w bs) hpO (lt n2) ηe w') s v) :
    ∃ η', RepH w0 (apC hp (chP (exP nn bs) hpO 0 n2)) (nmE nm nn (nn + (n2 - bs.length))) η' w' ∧ (cxS w0 hp nm η w).le (cxS w0 (apC hp (chP (exP nn bs) hpO 0 n2)) (nmE nm nn (nn + (n2 - bs.length))) η' w') ∧
      RS (cxS w0 (apC hp (chP (exP nn bs) hpO 0 n2)) (nmE nm nn (nn + (n2 - bs.length))) η' w') (rnS (exP nn bs) s) v := by
  have hbn : ∀ b ∈ bs, lk hp b ≠ none := fun b hb => by
    obtain ⟨o, h, _⟩ := gdP_in hg b hb
    rw [h]; simp
  have hbm : ∀ b ∈ bs, nm b := fun b hb => hH.nxt b (hbn b hb)
  have hnew : ∀ i, bs.length ≤ i → exP nn bs i = nn + (i - bs.length) := fun i h => exP_new nn h
  have hinj : ∀ a b, a < n2 → b < n2 → exP nn bs a = exP nn bs b → a = b := fun a b ha hb e => by
    by_cases h1 : a < bs.length
    · by_cases h2 : b < bs.length
      · have e := congrArg (ixP bs) e
        rwa [ix_ex nn hn h1, ix_ex nn hn h2] at e
      · have h3 := hbm _ (exP_in nn h1)
        rw [e, hnew b (by omega)] at h3
        exact (hnn _ (by omega) (by omega) h3).elim
    · by_cases h2 : b < bs.length
      · have h3 := hbm _ (exP_in nn h2)
        rw [← e, hnew a (by omega)] at h3
        exact (hnn _ (by omega) (by omega) h3).elim
      · rw [hnew a (by omega), hnew b (by omega)] at e
        omega
  let hp' := apC hp (chP (exP nn bs) hpO 0 n2)
  have l1 : ∀ i, i < n2 → lk hp' (exP nn bs i) = (lk hpO i).map (rnO (exP nn bs)) := fun i hi => by
    show lk (apC hp _) _ = _
    rw [lk_apC]
    exact asg_chP _ _ n2 0 i _ (by omega) (by omega) fun a b _ g2 _ g4 => hinj a b (by omega) (by omega)
  have l2 : ∀ c, (∀ i, i < n2 → exP nn bs i ≠ c) → lk hp' c = lk hp c := fun c h => by
    show lk (apC hp _) _ = _
    rw [lk_apC]
    exact asg_not fun hk => by
      obtain ⟨j, _, g2, g3⟩ := (keys_chP _ _ _ _ _).1 hk
      exact h j (by omega) g3
  have hcase : ∀ c, lk hp' c ≠ none → (∃ i, i < n2 ∧ c = exP nn bs i ∧ lk hpO i ≠ none) ∨ (c ∉ bs ∧ lk hp c ≠ none ∧ lk hp' c = lk hp c) := fun c h => by
    by_cases hex : ∃ i, i < n2 ∧ exP nn bs i = c
    · obtain ⟨i, hi, rfl⟩ := hex
      refine .inl ⟨i, hi, rfl, fun e => ?_⟩
      rw [l1 i hi, e] at h
      exact h rfl
    · have h2 := l2 c fun i hi e => hex ⟨i, hi, e⟩
      refine .inr ⟨fun hc => hex ⟨ixP bs c, by have := (ixP_lt hc).1; omega, (ixP_lt hc).2 nn⟩, by rwa [h2] at h, h2⟩
  let η' : Nat → Option Nat × Value := fun c => if nn ≤ c ∧ c < nn + (n2 - bs.length) then ηe (c - nn + bs.length) else η c
  have e1 : ∀ c, nm c → η' c = η c := fun c h => if_neg fun h2 => hnn c h2.1 h2.2 h
  have e2 : ∀ i, bs.length ≤ i → i < n2 → η' (exP nn bs i) = ηe i := fun i h1 h2 => by
    rw [hnew i h1]
    show (if nn ≤ nn + (i - bs.length) ∧ nn + (i - bs.length) < nn + (n2 - bs.length) then ηe (nn + (i - bs.length) - nn + bs.length) else η _) = _
    rw [if_pos (by omega)]
    congr 1; omega
  have eE : ∀ i, i < bs.length → etP η bs i = η (exP nn bs i) := fun i hi => by
    unfold etP
    congr 1
    have h1 := (ixP_lt (exP_in 0 hi)).2 nn
    rw [ix_ex 0 hn hi] at h1
    exact h1.symm
  have hisK : ∀ i, isK kp i = true → i < bs.length ∧ (ηe i).1 = (η (exP nn bs i)).1 := fun i h => by
    simp only [isK, List.any_eq_true] at h
    obtain ⟨p, hp, e⟩ := h
    have e := Nat.eq_of_beq_eq_true e
    subst e
    have hl : p.1 < bs.length := by
      have := List.all_eq_true.1 hkn p hp
      simpa [Nat.blt_eq] using this
    exact ⟨hl, by rw [(hkp p hp).1, eE _ hl]⟩
  have hisKr : ∀ i, isKr kp i = true → i < bs.length ∧ (ηe i).2 = (η (exP nn bs i)).2 := fun i h => by
    simp only [isKr, List.any_eq_true, Bool.and_eq_true] at h
    obtain ⟨p, hp, e, hr⟩ := h
    have e := Nat.eq_of_beq_eq_true e
    subst e
    have hl : p.1 < bs.length := by
      have := List.all_eq_true.1 hkn p hp
      simpa [Nat.blt_eq] using this
    exact ⟨hl, by rw [(hkp p hp).2 hr, eE _ hl]⟩
  -- every name in what comes out
  have hE1 : ∀ i, okP bs.length n2 kp i = true → (η' (exP nn bs i)).1 = (ηe i).1 := fun i h => by
    simp only [okP, Bool.or_eq_true, Bool.and_eq_true] at h
    rcases h with ⟨h1, h2⟩ | h
    · have h1 := Nat.le_of_ble_eq_true h1
      have h2 : i < n2 := by simpa [Nat.blt_eq] using h2
      rw [e2 i h1 h2]
    · obtain ⟨h1, h2⟩ := hisK i h
      rw [e1 _ (hbm _ (exP_in nn h1)), h2]
  have hlt : ∀ i, okP bs.length n2 kp i = true → i < n2 := fun i h => by
    simp only [okP, Bool.or_eq_true, Bool.and_eq_true] at h
    rcases h with ⟨_, h2⟩ | h
    · simpa [Nat.blt_eq] using h2
    · have := (hisK i h).1; omega
  have hout : ∀ i o, lk hpO i = some o → okP bs.length n2 kp i = true ∧ gkO (okP bs.length n2 kp) (okR bs.length kp) i o = true := by
    intro i o
    have : ∀ l : List (Nat × Ob), outP (okP bs.length n2 kp) (okR bs.length kp) l = true → lk l i = some o → okP bs.length n2 kp i = true ∧ gkO (okP bs.length n2 kp) (okR bs.length kp) i o = true := by
      intro l
      induction l with
      | nil => intro _ h; simp [lk] at h
      | cons p l ih =>
        obtain ⟨b, ob⟩ := p
        intro h hl
        simp only [outP, Bool.and_eq_true] at h
        simp only [lk] at hl
        split at hl
        · rename_i e; subst e; cases hl; exact h.1
        · exact ih h.2 hl
    exact this hpO ho
  have hin : ∀ i, lk hpO i ≠ none → okP bs.length n2 kp i = true := fun i h => by
    cases ho : lk hpO i with
    | none => exact (h ho).elim
    | some o => exact (hout i o ho).1
  have hkeep : ∀ j, j < w.heap.size → (∀ b ∈ bs, (η b).1 ≠ some j) → w'.heap[j]? = w.heap[j]? := fun j h1 h2 => hE.bel.block j ⟨h1, fun ⟨b, hb, e⟩ => h2 b hb e⟩
  have hsz : w.heap.size ≤ w'.heap.size := hE.bel.size
  have hold : ∀ j, w0.old j → (inWP w0 hp η w bs).old j := fun j hj =>
    ⟨Nat.lt_of_lt_of_le hj.1 hH.bel.size, fun ⟨b, hb, e⟩ => (hH.new b j (hbn b hb) e).1 hj⟩
  have hnm' : ∀ i, i < n2 → (nmE nm nn (nn + (n2 - bs.length))) (exP nn bs i) := fun i hi => by
    by_cases h : i < bs.length
    · exact .inl (hbm _ (exP_in nn h))
    · rw [hnew i (by omega)]
      exact .inr ⟨by omega, by omega⟩
  have hle : (cxS w0 hp nm η w).le (cxS w0 hp' (nmE nm nn (nn + (n2 - bs.length))) η' w') := by
    refine ⟨fun b hb => e1 b hb, fun b hb => .inl hb, fun k hk => ⟨⟨Nat.lt_of_lt_of_le hk.1.1 hsz, hk.1.2⟩, fun c hc e => ?_⟩, fun k hk => hkeep k hk.1.1 fun b hb e => hk.2 b (hbn b hb) e⟩
    rcases hcase c hc with ⟨i, hi, rfl, h⟩ | ⟨h1, h2, _⟩
    · have hok := hin i h
      by_cases hib : i < bs.length
      · rw [e1 _ (hbm _ (exP_in nn hib))] at e
        exact hk.2 _ (hbn _ (exP_in nn hib)) e
      · rw [hE1 i hok] at e
        exact (hE.new i k h e).1 ⟨hk.1.1, fun ⟨b, hb, e⟩ => hk.2 b (hbn b hb) e⟩
    · rw [e1 c (hH.nxt c h2)] at e
      exact hk.2 c h2 e
  have hRn : Rn (exP nn bs) (okP bs.length n2 kp) (okR bs.length kp) (cxS (inWP w0 hp η w bs) hpO (lt n2) ηe w') (cxS w0 hp' (nmE nm nn (nn + (n2 - bs.length))) η' w') := by
    refine ⟨rfl, fun j hj => ⟨⟨hj.1.1, fun h => (hj.1.2 (hold j h)).1.2 h⟩, fun c hc e => ?_⟩, fun b hb _ => hnm' b (hlt b hb), fun b hb _ => hE1 b hb, fun b hb hr _ => ?_⟩
    · rcases hcase c hc with ⟨i, hi, rfl, h⟩ | ⟨h1, h2, _⟩
      · rw [hE1 i (hin i h)] at e
        exact hj.2 i h e
      · rw [e1 c (hH.nxt c h2)] at e
        have hlt := (hH.new c j h2 e).2
        exact (hj.1.2 ⟨hlt, fun ⟨b, hb, eb⟩ => h1 (by rw [hH.sep c b j h2 (hbn b hb) e eb]; exact hb)⟩).2 c h2 e
    · show (η' (exP nn bs b)).2 = (ηe b).2
      simp only [okR, Bool.or_eq_true] at hr
      rcases hr with hr | hr
      · rw [e2 b (Nat.le_of_ble_eq_true hr) (hlt b hb)]
      · obtain ⟨h1, h2⟩ := hisKr b hr
        rw [e1 _ (hbm _ (exP_in nn h1)), h2]
  have hown : ∀ c j, c ∉ bs → lk hp c ≠ none → (η c).1 = some j → ∀ b ∈ bs, (η b).1 ≠ some j := fun c j h1 h2 h3 b hb e => h1 (by rw [hH.sep c b j h2 (hbn b hb) h3 e]; exact hb)
  refine ⟨η', ⟨fun c o' ho' => ?_, fun c d j h1 h2 h3 h4 => ?_, fun c j h1 h2 => ?_, fun c hc => ?_, ?_⟩, hle, rnS_sound hRn hos hv⟩
  · rcases hcase c (by rw [ho']; simp) with ⟨i, hi, rfl, h⟩ | ⟨h1, h2, h3⟩
    · rw [l1 i hi] at ho'
      cases hoi : lk hpO i with
      | none => exact (h hoi).elim
      | some o =>
        rw [hoi] at ho'
        simp only [Option.map_some, Option.some.injEq] at ho'
        subst ho'
        obtain ⟨k1, k2⟩ := hout i o hoi
        exact rnO_sound hRn hi k1 k2 (hE.obs i o hoi)
    · rw [h3] at ho'
      exact RO.mono hle (hH.nxt c h2) (fun j hj => hkeep j (hH.new c j h2 hj).2 (hown c j h1 h2 hj)) (hH.obs c o' ho')
  · rcases hcase c h1 with ⟨i, hi, rfl, hi2⟩ | ⟨g1, g2, _⟩
    · rw [hE1 i (hin i hi2)] at h3
      rcases hcase d h2 with ⟨k, hk, rfl, hk2⟩ | ⟨g1, g2, _⟩
      · rw [hE1 k (hin k hk2)] at h4
        rw [hE.sep i k j hi2 hk2 h3 h4]
      · rw [e1 d (hH.nxt d g2)] at h4
        exact ((hE.new i j hi2 h3).1 ⟨(hH.new d j g2 h4).2, fun ⟨b, hb, e⟩ => hown d j g1 g2 h4 b hb e⟩).elim
    · rw [e1 c (hH.nxt c g2)] at h3
      rcases hcase d h2 with ⟨k, hk, rfl, hk2⟩ | ⟨q1, q2, _⟩
      · rw [hE1 k (hin k hk2)] at h4
        exact ((hE.new k j hk2 h4).1 ⟨(hH.new c j g2 h3).2, fun ⟨b, hb, e⟩ => hown c j g1 g2 h3 b hb e⟩).elim
      · rw [e1 d (hH.nxt d q2)] at h4
        exact hH.sep c d j g2 q2 h3 h4
  · rcases hcase c h1 with ⟨i, hi, rfl, hi2⟩ | ⟨g1, g2, _⟩
    · rw [hE1 i (hin i hi2)] at h2
      have := hE.new i j hi2 h2
      exact ⟨fun h => this.1 (hold j h), this.2⟩
    · rw [e1 c (hH.nxt c g2)] at h2
      have := hH.new c j g2 h2
      exact ⟨this.1, Nat.lt_of_lt_of_le this.2 hsz⟩
  · rcases hcase c hc with ⟨i, hi, rfl, _⟩ | ⟨_, g2, _⟩
    · exact hnm' i hi
    · exact .inl (hH.nxt c g2)
  · exact hH.bel.trans hE.bel.os hE.bel.tape hE.bel.output hsz fun j hj => hE.bel.block j (hold j hj)
end

/-- A CALL, by such a contract -/
theorem callp_rule {E : En} {cur : FI} {f : Nat} {args : List SV} {all : Array Oper} {o : Oper} {l : List Oper} {r : List It} {fr : List (Nat × SV)} {hp : List (Nat × Ob)} {nx : Nat} {stk : List Fm} (bs : List Nat) {kp : List (Nat × Bool)} {s : SV} {hpO : List (Nat × Ob)} {n2 : Nat}
    (hg : gdP (memP bs) hp bs = true) (hn : ndP bs = true) (hF : FnP E.P f (args.map (rnS (ixP bs))) (inP (ixP bs) hp 0 bs) bs.length kp s hpO n2) (ha : args.all (gkS (memP bs) (fun _ => true)) = true) (hn2 : Nat.ble bs.length n2 = true)
    (hkn : (kp.all fun p => Nat.blt p.1 bs.length) = true) (ho : outP (okP bs.length n2 kp) (okR bs.length kp) hpO = true) (hos : gkS (okP bs.length n2 kp) (okR bs.length kp) s = true)
    (hk : Mean E cur (.ops all l :: r) ⟨putF cur.nt fr o.dst (rnS (exP nx bs) s), apC hp (chP (exP nx bs) hpO 0 n2), nx + (n2 - bs.length)⟩ stk) : CallOk E cur f args all o l r ⟨fr, hp, nx⟩ stk := by
  refine ⟨?_⟩
  rintro ⟨args0, hcl, rfl⟩ z η S a w hS hR
  obtain ⟨⟨fn, hf1, hf2, hf3⟩, hF⟩ := hF
  obtain ⟨vs, hvs, hrun⟩ := run_call (E := E) (ev_sound hR.2.1) hcl hf1 hf2 hf3
  have hvs := nzs_sound hvs
  simp only [TW, wpList, Region.wanted, if_true]
  left
  unfold Oper.wp
  have hexec : execOp a.eval ⟨o.dst, o.op, o.type, o.pos, o.after, none⟩ = execOp a.eval o := rfl
  rw [hexec, hrun, Oper.upon_enter]
  have hH : RepH z hp (lt nx) η w := hR.1.1
  refine (hF (inWP z hp η w bs) (etP η bs) vs (rep_inP hH hg hn) (rnSs_sound (rn_in hg hn) ha hvs)).mono ?_
  rintro e w' ⟨v, ηe, rfl, hkp, hE, hv⟩
  obtain ⟨η', g1, g2, g3⟩ := rep_outP (nn := nx) hH hg hn (Nat.le_of_ble_eq_true hn2) (fun i h1 _ h3 => by have h3 : i < nx := h3; omega) hkn ho hos hkp hE hv
  rw [nmE_lt (by omega)] at g1 g2 g3
  have hR' : RepA z cur ⟨fr, apC hp (chP (exP nx bs) hpO 0 n2), nx + (n2 - bs.length)⟩ S η' a w' := hR.heap g1 g2
  exact hk z η' S _ w' hS (hR'.fr (putF_sound hR'.2.1 g3))

/-- what the call does to the objects outside, but for those that it leaves as they are -/
def chU (un : List Nat) (ρ : Nat → Nat) (hpO : List (Nat × Ob)) : Nat → Nat → List (Nat × Option Ob)
  | _, 0 => []
  | i, k + 1 => match memP un i with
    | true => chU un ρ hpO (i + 1) k
    | false => (ρ i, match lk hpO i with
      | some o => some (rnO ρ o)
      | none => none) :: chU un ρ hpO (i + 1) k
theorem keys_chU (un : List Nat) (ρ : Nat → Nat) (hpO : List (Nat × Ob)) : ∀ (k i c : Nat), c ∈ keys (chU un ρ hpO i k) → ∃ j, i ≤ j ∧ j < i + k ∧ ρ j = c ∧ memP un j = false
  | 0, i, c => by simp [chU, keys]
  | k + 1, i, c => by
    intro h
    simp only [chU] at h
    split at h
    · obtain ⟨j, h1, h2, h3⟩ := keys_chU un ρ hpO k (i + 1) c h
      exact ⟨j, by omega, by omega, h3⟩
    · rename_i e
      simp only [keys, List.map_cons, List.mem_cons] at h
      rcases h with h | h
      · exact ⟨i, by omega, by omega, h.symm, e⟩
      · obtain ⟨j, h1, h2, h3⟩ := keys_chU un ρ hpO k (i + 1) c h
        exact ⟨j, by omega, by omega, h3⟩
theorem asg_chU (un : List Nat) (ρ : Nat → Nat) (hpO : List (Nat × Ob)) : ∀ (k i j : Nat) (σ : Nat → Option Ob), i ≤ j → j < i + k → memP un j = false → (∀ a b, i ≤ a → a < i + k → i ≤ b → b < i + k → ρ a = ρ b → a = b) → asg σ (chU un ρ hpO i k) (ρ j) = (lk hpO j).map (rnO ρ)
  | 0, i, j, σ, h1, h2, _, _ => by omega
  | k + 1, i, j, σ, h1, h2, hm, hinj => by
    simp only [chU]
    have hinj' : ∀ a b, i + 1 ≤ a → a < i + 1 + k → i + 1 ≤ b → b < i + 1 + k → ρ a = ρ b → a = b := fun a b g1 g2 g3 g4 g5 => hinj a b (by omega) (by omega) (by omega) (by omega) g5
    split
    · rename_i e
      have hne : j ≠ i := fun h => by subst h; rw [hm] at e; cases e
      exact asg_chU un ρ hpO k (i + 1) j _ (by omega) (by omega) hm hinj'
    · simp only [asg]
      by_cases e : j = i
      · subst e
        rw [asg_not (fun h => by
          obtain ⟨a, g1, g2, g3, _⟩ := keys_chU un ρ hpO k (j + 1) (ρ j) h
          have := hinj a j (by omega) (by omega) (by omega) (by omega) g3
          omega)]
        simp only [if_true]
        cases lk hpO j <;> rfl
      · exact asg_chU un ρ hpO k (i + 1) j _ (by omega) (by omega) hm hinj'
theorem exP_inj {nn n2 : Nat} {bs : List Nat} {nm : Nat → Prop} (hn : ndP bs = true) (hbm : ∀ b ∈ bs, nm b) (hnn : ∀ i, nn ≤ i → i < nn + (n2 - bs.length) → ¬ nm i) : ∀ a b, a < n2 → b < n2 → exP nn bs a = exP nn bs b → a = b := fun a b ha hb e => by
  by_cases h1 : a < bs.length
  · by_cases h2 : b < bs.length
    · have e := congrArg (ixP bs) e
      rwa [ix_ex nn hn h1, ix_ex nn hn h2] at e
    · have h3 := hbm _ (exP_in nn h1)
      rw [e, exP_new nn (by omega)] at h3
      exact (hnn _ (by omega) (by omega) h3).elim
  · by_cases h2 : b < bs.length
    · have h3 := hbm _ (exP_in nn h2)
      rw [← e, exP_new nn (by omega)] at h3
      exact (hnn _ (by omega) (by omega) h3).elim
    · rw [exP_new nn (by omega), exP_new nn (by omega)] at e
      omega
theorem apU {un : List Nat} {ρ : Nat → Nat} {hpO hp : List (Nat × Ob)} {n2 : Nat} (hinj : ∀ a b, a < n2 → b < n2 → ρ a = ρ b → a = b) (hu : ∀ i ∈ un, lk hp (ρ i) = (lk hpO i).map (rnO ρ)) (b : Nat) : lk (apC hp (chU un ρ hpO 0 n2)) b = lk (apC hp (chP ρ hpO 0 n2)) b := by
  rw [lk_apC, lk_apC]
  by_cases hex : ∃ i, i < n2 ∧ ρ i = b
  · obtain ⟨i, hi, rfl⟩ := hex
    rw [asg_chP ρ hpO n2 0 i _ (by omega) (by omega) fun a b _ g2 _ g4 => hinj a b (by omega) (by omega)]
    cases hm : memP un i with
    | false => exact asg_chU un ρ hpO n2 0 i _ (by omega) (by omega) hm fun a b _ g2 _ g4 => hinj a b (by omega) (by omega)
    | true =>
      rw [asg_not (fun h => by
        obtain ⟨j, _, g2, g3, g4⟩ := keys_chU un ρ hpO n2 0 (ρ i) h
        have := hinj j i (by omega) hi g3
        subst this
        rw [hm] at g4; cases g4)]
      exact hu i (memP_iff.1 hm)
  · rw [asg_not (fun h => by
      obtain ⟨j, _, g2, g3, _⟩ := keys_chU un ρ hpO n2 0 b h
      exact hex ⟨j, by omega, g3⟩), asg_not (fun h => by
      obtain ⟨j, _, g2, g3⟩ := (keys_chP ρ hpO n2 0 b).1 h
      exact hex ⟨j, by omega, g3⟩)]
/-- the same in a region that draws its order -/
theorem vld_callp {E : En} {cur : FI} {all : Array Oper} {o : Oper} {nn : Nat} {fin : List (Nat × SV)} {hin : List (Nat × Ob)} {f : Nat} {args0 : List SV} {bs : List Nat} {kp : List (Nat × Bool)} {s : SV} {hpO : List (Nat × Ob)} {n2 : Nat} (hw : Wt all o fin true) (hc : cl (ev fin) o.op = some (f, args0))
    (hg : gdP (memP bs) hin bs = true) (hn : ndP bs = true) (hF : FnP E.P f ((args0.map nzS).map (rnS (ixP bs))) (inP (ixP bs) hin 0 bs) bs.length kp s hpO n2) (ha : (args0.map nzS).all (gkS (memP bs) (fun _ => true)) = true) (hn2 : Nat.ble bs.length n2 = true) (hn3 : Nat.ble n2 (bs.length + 1) = true)
    (hkn : (kp.all fun p => Nat.blt p.1 bs.length) = true) (ho : outP (okP bs.length n2 kp) (okR bs.length kp) hpO = true) (hos : gkS (okP bs.length n2 kp) (okR bs.length kp) s = true) (un : List Nat) (hun : (un.map fun i => lk hin (exP nn bs i)) = un.map fun i => (lk hpO i).map (rnO (exP nn bs))) (hus : (un.all fun i => (lk hin (exP nn bs i)).isSome) = true) {v' : SV} (hv' : ∀ x u, RS x (rnS (exP nn bs) s) u → RS x v' u) :
    Vld E cur all o nn ⟨fin, hin, v', chU un (exP nn bs) hpO 0 n2⟩ := by
  intro w0 hp nm η a w fr hH hFr hnn hs hbh K Q hK
  have hFr' := hFr.part hs
  rw [if_pos (hw _ _ _ hFr')]
  left
  obtain ⟨⟨fn, hf1, hf2, hf3⟩, hF⟩ := hF
  obtain ⟨vs, hvs, hrun⟩ := run_call (E := E) (ev_sound hFr') hc hf1 hf2 hf3
  have hvs := nzs_sound hvs
  have hgd : ∀ l : List Nat, gdP (memP bs) hin l = true → gdP (memP bs) hp l = true ∧ ∀ i, inP (ixP bs) hp i l = inP (ixP bs) hin i l := by
    intro l
    induction l with
    | nil => intro _; exact ⟨rfl, fun _ => rfl⟩
    | cons b r ih =>
      intro h
      simp only [gdP, Bool.and_eq_true] at h
      obtain ⟨i1, i2⟩ := ih h.2
      have h1 := h.1
      split at h1
      · rename_i o hb
        have hb' := hbh b o hb
        refine ⟨?_, fun i => ?_⟩
        · simp only [gdP, hb', h1, i1, Bool.and_self]
        · simp only [inP, hb, hb', i2]
      · cases h1
  obtain ⟨hg', hin'⟩ := hgd bs hg
  unfold Oper.wp
  rw [hrun, Oper.upon_enter]
  rw [← hin' 0] at hF
  have hlen2 := Nat.le_of_ble_eq_true hn2
  have hlen3 := Nat.le_of_ble_eq_true hn3
  refine (hF (inWP w0 hp η w bs) (etP η bs) vs (rep_inP hH hg' hn) (rnSs_sound (rn_in hg' hn) ha hvs)).mono ?_
  rintro e w' ⟨v, ηe, rfl, hkp, hE, hv⟩
  obtain ⟨η', h1, h2, h3⟩ := rep_outP (nn := nn) hH hg' hn hlen2 (fun i h1 h2 h3 => by
    have : i = nn := by omega
    subst this; exact hnn h3) hkn ho hos hkp hE hv
  have hbm : ∀ b ∈ bs, nm b := fun b hb => by
    obtain ⟨o, ho, _⟩ := gdP_in hg' b hb
    exact hH.nxt b (by rw [ho]; simp)
  have hcon := apU (un := un) (hp := hp) (hpO := hpO) (exP_inj (nn := nn) (n2 := n2) hn hbm (fun i k1 k2 k3 => by
    have e : i = nn := by omega
    exact hnn (e ▸ k3))) (fun i hi => by
      have e := List.map_inj_left.1 hun i hi
      have s := List.all_eq_true.1 hus i hi
      cases hl : lk hin (exP nn bs i) with
      | none => rw [hl] at s; cases s
      | some ob => rw [← e, hl]; exact hbh _ _ hl)
  have h1 := h1.congr hcon
  have ecx : ∀ x w', cxS w0 (apC hp (chP (exP nn bs) hpO 0 n2)) x η' w' = cxS w0 (apC hp (chU un (exP nn bs) hpO 0 n2)) x η' w' := fun x w' => by
    unfold cxS; rw [okS_congr hcon]
  rw [ecx] at h2 h3
  obtain ⟨g1, g2⟩ := RepH.wider (nm' := nmE nm nn (nn + 1)) (fun b hb => by
    rcases hb with hb | ⟨h1, h2⟩
    · exact .inl hb
    · exact .inr ⟨h1, by omega⟩) h1
  exact hK η' w' v g1 (h2.trans g2) (RS.mono g2 (hv' _ _ h3))
theorem callrp_rule {E : En} {cur : FI} {f : Nat} {args : List SV} {all : Array Oper} {o : Oper} {l : List Oper} {r : List It} {stk : List Fm} {n0 j : Nat} {recs : List Rec} {fin fr : List (Nat × SV)} {hin0 hin hp : List (Nat × Ob)} (bs : List Nat) {kp : List (Nat × Bool)} {s : SV} {hpO : List (Nat × Ob)} {n2 : Nat} (hE : EnOk E) (hh : hin = kh hp bs)
    (hg : gdP (memP bs) hin bs = true) (hn : ndP bs = true) (hF : FnP E.P f (args.map (rnS (ixP bs))) (inP (ixP bs) hin 0 bs) bs.length kp s hpO n2) (ha : args.all (gkS (memP bs) (fun _ => true)) = true) (hn2 : Nat.ble bs.length n2 = true) (hn3 : Nat.ble n2 (bs.length + 1) = true)
    (hkn : (kp.all fun p => Nat.blt p.1 bs.length) = true) (ho : outP (okP bs.length n2 kp) (okR bs.length kp) hpO = true) (hos : gkS (okP bs.length n2 kp) (okR bs.length kp) s = true) (un : List Nat) (hun : (un.map fun i => lk hin (exP (n0 + j) bs i)) = un.map fun i => (lk hpO i).map (rnO (exP (n0 + j) bs))) (hus : (un.all fun i => (lk hin (exP (n0 + j) bs i)).isSome) = true)
    (hk : putR all j cur.nt o fin hin (chU un (exP (n0 + j) bs) hpO 0 n2) fr hp (fun rc => goR E cur all r stk n0 1000 (j + 1) l (recs ++ [rc])) (rnS (exP (n0 + j) bs) s)) : CallR E cur f args all o l r stk n0 j recs fin hin0 fr hp := by
  refine ⟨?_⟩
  rintro ⟨args0, hc, rfl⟩ hw hs _
  have hbh : ∀ b ob, lk hin b = some ob → lk hp b = some ob := fun b ob h => by rw [hh] at h; exact kh_sub h
  obtain ⟨v', h1, h2⟩ := putR_out hk
  exact ⟨_, vld_callp hw hc hg hn hF ha hn2 hn3 hkn ho hos un hun hus h1, hs, hbh, goR_sound hE 1000 h2⟩

/-- an own row goes into a call (in a region that does not draw) and is given away; data come out -/
theorem callm_rule {E : En} {cur : FI} {f : Nat} {args : List SV} {all : Array Oper} {o : Oper} {l : List Oper} {r : List It} {fr : List (Nat × SV)} {hp : List (Nat × Ob)} {nx : Nat} {stk : List Fm} {s : SV} (b : Nat) {T : TypeId} {d : D} {xs : List d.T} (hb : lk hp b = some (.row T d xs))
    (hF : FnM E.P f (args.map (hmS b)) T d xs s) (hd : (args.map (hmS b)).all okM = true) (hsd : isDs s = true)
    (hk : Mean E cur (.ops all l :: r) ⟨putF cur.nt fr o.dst s, rm hp b, nx⟩ stk) : CallOk E cur f args all o l r ⟨fr, hp, nx⟩ stk := by
  refine ⟨?_⟩
  rintro ⟨args0, hcl, rfl⟩ z η S a w hS hR
  obtain ⟨⟨fn, hf1, hf2, hf3⟩, hF⟩ := hF
  obtain ⟨vs, hvs, hrun⟩ := run_call (E := E) (ev_sound hR.2.1) hcl hf1 hf2 hf3
  have hvs := nzs_sound hvs
  simp only [TW, wpList, Region.wanted, if_true]
  left
  unfold Oper.wp
  have hexec : execOp a.eval ⟨o.dst, o.op, o.type, o.pos, o.after, none⟩ = execOp a.eval o := rfl
  rw [hexec, hrun, Oper.upon_enter]
  have hH : RepH z hp (lt nx) η w := hR.1.1
  refine (hF (inM z hp η w b) (fun _ => η b) vs (rep_inm hH hb) (rls_inm hb hvs hd)).mono ?_
  rintro e w' ⟨v, rfl, hE, hv⟩
  obtain ⟨g1, g2, g3⟩ := rep_outm hH hb hsd hE hv
  have hR' : RepA z cur ⟨fr, rm hp b, nx⟩ S η a w' := hR.heap g1 g2
  exact hk z η S _ w' hS (hR'.fr (putF_sound hR'.2.1 g3))
end OE
