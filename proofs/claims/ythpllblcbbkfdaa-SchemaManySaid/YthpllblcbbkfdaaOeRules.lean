/- OE, part 7: the prover's rules: a function's contract, a call, a loop, a state made weaker. Own work; generic over the program. -/
import Derived.Test.YthpllblcbbkfdaaOeSound
namespace OE
open Go Go.RowKit

/-- data alone: nothing that names a block of the call's own -/
def isDC : C → Bool
  | .ptr _ _ | .prw _ _ _ _ | .row _ | .mp _ | .csl _ _ | .sub _ _ _ _ _ | .bm _ _ _ => false
  | .fn _ l => l.isEmpty
  | _ => true
def isDs : SV → Bool
  | .c x => isDC x
  | .agg l => l.all isDC
  | .tup l => l.all fun p => p.2.all isDC
  | .un => true

def DX (w : World) (ok : Nat → Prop) : Cx := ⟨w, fun _ => (none, undef), ok, fun _ => False⟩

theorem rc_data {x y : Cx} (ho : ∀ k, x.ok k → y.ok k) (hh : ∀ k, x.ok k → y.w.heap[k]? = x.w.heap[k]?) : ∀ {c : C} {v : Value}, isDC c = true → RC x c v → RC y c v
  | .int _ _, _, _, h => h
  | .bool _, _, _, h => h
  | .str _, _, _, h => h
  | .pel _ _ _, _, _, ⟨k, o, cells, T, fz, cs, h1, h2, h3, h4, h5⟩ => ⟨k, o, cells, T, fz, cs, h1, ho k h2, (hh k h2).trans h3, Rd.mono ho hh h4, h5⟩
  | .dat _ _, _, _, h => by
    have h : Rd x.w x.ok (.list _) _ _ := h
    exact (Rd.mono ho hh h : Rd y.w y.ok (.list _) _ _)
  | .val _, _, _, h => h
  | .fn f l, _, hd, ⟨vs, e, h⟩ => by
    cases l with
    | nil => exact ⟨vs, e, by cases hv : vs.toList with | nil => trivial | cons _ _ => rw [hv] at h; exact h.elim⟩
    | cons _ _ => simp [isDC] at hd
  | .ptr _ _, _, hd, _ => by simp [isDC] at hd
  | .prw _ _ _ _, _, hd, _ => by simp [isDC] at hd
  | .row _, _, hd, _ => by simp [isDC] at hd
  | .mp _, _, hd, _ => by simp [isDC] at hd
  | .bm _ _ _, _, hd, _ => by simp [isDC] at hd
  | .csl _ _, _, hd, _ => by simp [isDC] at hd
  | .sub _ _ _ _ _, _, hd, _ => by simp [isDC] at hd

theorem rl_data {x y : Cx} (ho : ∀ k, x.ok k → y.ok k) (hh : ∀ k, x.ok k → y.w.heap[k]? = x.w.heap[k]?) : ∀ {l : List C} {m : List Value}, l.all isDC = true → RL (RC x) l m → RL (RC y) l m
  | [], [], _, _ => trivial
  | c :: l, v :: m, hd, ⟨h1, h2⟩ => by
    simp only [List.all_cons, Bool.and_eq_true] at hd
    exact ⟨rc_data ho hh hd.1 h1, rl_data ho hh hd.2 h2⟩
  | [], _ :: _, _, h => h.elim
  | _ :: _, [], _, h => h.elim

theorem rp_data {x y : Cx} (ho : ∀ k, x.ok k → y.ok k) (hh : ∀ k, x.ok k → y.w.heap[k]? = x.w.heap[k]?) {p : Bool × List C} {v : Value} (hd : p.2.all isDC = true) (h : RP x p v) : RP y p v := by
  unfold RP at *
  by_cases hp : p.1 = true
  · rw [if_pos hp] at h ⊢
    obtain ⟨vs, e, hl⟩ := h
    exact ⟨vs, e, rl_data ho hh hd hl⟩
  · rw [if_neg hp] at h ⊢
    obtain ⟨z, e, hl⟩ := h
    rw [e] at hd
    simp at hd
    exact ⟨z, e, rc_data ho hh hd hl⟩

theorem rps_data {x y : Cx} (ho : ∀ k, x.ok k → y.ok k) (hh : ∀ k, x.ok k → y.w.heap[k]? = x.w.heap[k]?) : ∀ {l : List (Bool × List C)} {m : List Value}, (l.all fun p => p.2.all isDC) = true → RL (RP x) l m → RL (RP y) l m
  | [], [], _, _ => trivial
  | c :: l, v :: m, hd, ⟨h1, h2⟩ => by
    simp only [List.all_cons, Bool.and_eq_true] at hd
    exact ⟨rp_data ho hh hd.1 h1, rps_data ho hh hd.2 h2⟩
  | [], _ :: _, _, h => h.elim
  | _ :: _, [], _, h => h.elim

theorem rs_data {x y : Cx} (ho : ∀ k, x.ok k → y.ok k) (hh : ∀ k, x.ok k → y.w.heap[k]? = x.w.heap[k]?) : ∀ {s : SV} {v : Value}, isDs s = true → RS x s v → RS y s v
  | .c _, _, hd, h => rc_data (x := x) ho hh hd h
  | .agg _, _, hd, ⟨vs, e, h⟩ => ⟨vs, e, rl_data ho hh hd h⟩
  | .tup _, _, hd, ⟨vs, e, h⟩ => ⟨vs, e, rps_data ho hh hd h⟩
  | .un, _, _, _ => trivial

theorem rls_data {x y : Cx} (ho : ∀ k, x.ok k → y.ok k) (hh : ∀ k, x.ok k → y.w.heap[k]? = x.w.heap[k]?) : ∀ {l : List SV} {m : List Value}, l.all isDs = true → RL (RS x) l m → RL (RS y) l m
  | [], [], _, _ => trivial
  | c :: l, v :: m, hd, ⟨h1, h2⟩ => by
    simp only [List.all_cons, Bool.and_eq_true] at hd
    exact ⟨rs_data ho hh hd.1 h1, rls_data ho hh hd.2 h2⟩
  | [], _ :: _, _, h => h.elim
  | _ :: _, [], _, h => h.elim

/-- A FUNCTION's CONTRACT: from data to data; what was there stays. -/
def FnD (P : Program) (f : Nat) (args : List SV) (post : SV → Prop) : Prop :=
  (∃ fn, P.funcs[f]? = some fn ∧ fn.body.isSome = true ∧ (fn.name == "runtime.NumGoroutine") = false) ∧
  ∀ w ok (vs : Array Value), (∀ k, ok k → k < w.heap.size) → RL (RS (DX w ok)) args vs.toList →
    Calls P f vs w fun e w' => ∃ r v, e = .returned v ∧ post r ∧ RS (DX w' fun k => (ok k ∨ w.heap.size ≤ k) ∧ k < w'.heap.size) r v ∧ Below w.heap.size w w'

theorem FnD.mono {P : Program} {f : Nat} {args : List SV} {post post' : SV → Prop} (h : FnD P f args post) (hp : ∀ r, post r → post' r) : FnD P f args post' :=
  ⟨h.1, fun w ok vs ho hv => (h.2 w ok vs ho hv).mono fun _ _ ⟨r, v, e, h1, h2⟩ => ⟨r, v, e, hp r h1, h2⟩⟩

/-- a result, as data: a row of the call's own is a list -/
def cvC (hp : List (Nat × Ob)) : C → Option C
  | .row b => match lk hp b with
    | some (.row _ d xs) => some (.dat d xs)
    | _ => none
  | .ptr _ _ => none
  | .prw _ _ _ _ => none
  | .mp _ => none
  | .bm _ _ _ => none
  | .csl _ _ => none
  | .sub _ _ _ _ _ => none
  | .fn f [] => some (.fn f [])
  | .fn _ _ => none
  | .bool .tt => some (.bool (.sym true))
  | .bool .ff => some (.bool (.sym false))
  | c => some c
def cvL (hp : List (Nat × Ob)) : List C → Option (List C)
  | [] => some []
  | c :: l => match cvC hp c, cvL hp l with
    | some c, some l => some (c :: l)
    | _, _ => none
def cvT (hp : List (Nat × Ob)) : List (Bool × List C) → Option (List (Bool × List C))
  | [] => some []
  | (b, c) :: l => match cvL hp c, cvT hp l with
    | some c, some l => some ((b, c) :: l)
    | _, _ => none
def cvS (hp : List (Nat × Ob)) : SV → Option SV
  | .c x => match cvC hp x with | some y => some (.c y) | none => none
  | .agg l => match cvL hp l with | some m => some (.agg m) | none => none
  | .tup l => match cvT hp l with | some m => some (.tup m) | none => none
  | .un => some .un

/-- the same, where parts of rows come out, too -/
def cwC (hp : List (Nat × Ob)) (K : C → Prop) : C → Prop
  | .sub b o sz n _ => match lk hp b with
    | some (.wid _ d xs _) => sz = d.sz ∧ o + n ≤ xs.length ∧ K (.dat d ((xs.drop o).take n))
    | _ => False
  | c => match cvC hp c with
    | some y => K y
    | none => False
def cwL (hp : List (Nat × Ob)) : (List C → Prop) → List C → Prop
  | K, [] => K []
  | K, c :: l => cwC hp (fun y => cwL hp (fun m => K (y :: m)) l) c
def cwT (hp : List (Nat × Ob)) : (List (Bool × List C) → Prop) → List (Bool × List C) → Prop
  | K, [] => K []
  | K, (b, c) :: l => cwL hp (fun m => cwT hp (fun r => K ((b, m) :: r)) l) c
def cwS (hp : List (Nat × Ob)) (K : SV → Prop) : SV → Prop
  | .c x => cwC hp (fun y => K (.c y)) x
  | .agg l => cwL hp (fun m => K (.agg m)) l
  | .tup l => cwT hp (fun m => K (.tup m)) l
  | .un => K .un

def Post (post : SV → Prop) (r : SV) (st : St) : Prop := match cvS st.hp r with
  | some s => post s
  | none => cwS st.hp post r

section
variable {w0 : W0} {hp : List (Nat × Ob)} {nx : Nat → Prop} {η : Nat → Option Nat × Value} {w : World} {ok : Nat → Prop}

theorem cvC_sound (hH : RepH w0 hp nx η w) (hok : ∀ k, okS w0 hp η w k → ok k) (hnew : ∀ k, w0.w.heap.size ≤ k → k < w.heap.size → ok k) {c c' : C} {v : Value} (h : cvC hp c = some c') (hv : RC (cxS w0 hp nx η w) c v) : RC (DX w ok) c' v := by
  have keep : isDC c = true → c = c' → RC (DX w ok) c' v := fun hd e => by
    subst e
    exact rc_data (x := cxS w0 hp nx η w) (y := DX w ok) hok (fun _ _ => rfl) hd hv
  cases c <;> simp only [cvC, Option.some.injEq, reduceCtorEq] at h
  case row b =>
    split at h
    · rename_i T d xs hlk
      simp only [Option.some.injEq] at h
      subst h
      obtain ⟨hb, e, _⟩ := hv
      obtain ⟨cs, r1, r2, r3⟩ := hH.obs b _ hlk
      have r1 : (η b).1 = (η b).2.ownBlock := r1
      have e : v = (η b).2 := e
      show Rd w ok (.list d) xs [v]
      simp only [Rd]
      rcases r2.2 with ⟨hv, hn⟩ | ⟨g, cap, cur, hv, _, hg, hc1, hc2, hc3, hc4⟩
      · have hv : (η b).2 = .slice none 0 0 := hv
        have : xs = [] := List.eq_nil_of_length_eq_zero hn
        subst this
        exact ⟨none, 0, by rw [e, hv]; rfl, by simp, by simp [maxLen], fun _ => rfl, .inl rfl⟩
      · have hv : (η b).2 = .slice (some ⟨g, 0, none⟩) xs.length cap := hv
        have hk := hH.new b g (by rw [hlk]; simp) (by rw [r1, hv]; rfl)
        refine ⟨some ⟨g, 0, none⟩, cap, by rw [e, hv], hc1, hc2, (fun h => by cases h), .inr ⟨g, 0, cur, T, (0, 0), rfl, hnew g hk.1 hk.2, hg, ?_⟩⟩
        rw [List.drop_zero, hc4]
        exact RdF.imp (fun _ _ h => Rd.mono hok (fun _ _ => rfl) h) r3
    · cases h
  case bool b =>
    cases b <;> simp only [Option.some.injEq] at h
    case sym b => exact keep rfl h
    all_goals
      subst h
      have hv : v = .bool _ := hv
      subst hv
      exact rfl
  case fn f l =>
    cases l with
    | nil => simp only [Option.some.injEq] at h; exact keep rfl h
    | cons _ _ => simp at h
  all_goals exact keep rfl h

theorem cvW_sound (hH : RepH w0 hp nx η w) (hok : ∀ k, okS w0 hp η w k → ok k) (hnew : ∀ k, w0.w.heap.size ≤ k → k < w.heap.size → ok k) {b o n c : Nat} {T : TypeId} {d : D} {xs : List d.T} {c0 : Nat} {v : Value} (hlk : lk hp b = some (.wid T d xs c0)) (hle : o + n ≤ xs.length)
    (hv : RC (cxS w0 hp nx η w) (.sub b o d.sz n c) v) : RC (DX w ok) (.dat d ((xs.drop o).take n)) v := by
  obtain ⟨hb, hnc, hcm, k2, o', hk, e, ho'⟩ := hv
  obtain ⟨k3, cur, hk3, hcur, hcs, hlc, hcm', hf⟩ := hH.obs b _ hlk
  have hkk : k3 = k2 := by have : some k3 = some k2 := hk3.symm.trans hk; simpa using this
  subst hkk
  have hlen : ((xs.drop o).take n).length = n := by rw [List.length_take, List.length_drop]; omega
  have hnw := hH.new b k3 (by rw [hlk]; simp) hk
  show Rd w ok (.list d) _ [v]
  simp only [Rd]
  refine ⟨some ⟨k3, o', none⟩, c, by rw [hlen, e], by rw [hlen]; exact hnc, hcm, (fun h => by cases h), ?_⟩
  by_cases h0 : n = 0
  · left; apply List.eq_nil_of_length_eq_zero; rw [hlen]; exact h0
  · right
    refine ⟨k3, o', cur, T, (0, 0), rfl, hnew k3 hnw.1 hnw.2, hcur, ?_⟩
    rw [ho' (by omega), hlen]
    have r := RdF.take (fun _ _ => Rd.len) n (RdF.drop (fun _ _ => Rd.len) o hf)
    have e3 : ((cur.toList.take (xs.length * d.sz)).drop (o * d.sz)).take (n * d.sz) = (cur.toList.drop (o * d.sz)).take (n * d.sz) := by
      have : (o + n) * d.sz ≤ xs.length * d.sz := Nat.mul_le_mul_right _ hle
      rw [Nat.add_mul] at this
      rw [List.drop_take, List.take_take, Nat.min_eq_left (by omega)]
    rw [e3] at r
    exact RdF.imp (fun _ _ h => Rd.mono hok (fun _ _ => rfl) h) r

theorem cvL_sound (hH : RepH w0 hp nx η w) (hok : ∀ k, okS w0 hp η w k → ok k) (hnew : ∀ k, w0.w.heap.size ≤ k → k < w.heap.size → ok k) : ∀ {l l' : List C} {m : List Value}, cvL hp l = some l' → RL (RC (cxS w0 hp nx η w)) l m → RL (RC (DX w ok)) l' m
  | [], l', m, h, hl => by
    simp only [cvL, Option.some.injEq] at h
    subst h
    cases m with | nil => trivial | cons _ _ => exact hl.elim
  | c :: l, l', m, h, hl => by
    obtain ⟨v, m', rfl, h1, h2⟩ := rl_cons hl
    simp only [cvL] at h
    split at h
    · rename_i c' l'' hc hl'
      simp only [Option.some.injEq] at h
      subst h
      exact ⟨cvC_sound hH hok hnew hc h1, cvL_sound hH hok hnew hl' h2⟩
    · cases h

theorem cvT_sound (hH : RepH w0 hp nx η w) (hok : ∀ k, okS w0 hp η w k → ok k) (hnew : ∀ k, w0.w.heap.size ≤ k → k < w.heap.size → ok k) : ∀ {l l' : List (Bool × List C)} {m : List Value}, cvT hp l = some l' → RL (RP (cxS w0 hp nx η w)) l m → RL (RP (DX w ok)) l' m
  | [], l', m, h, hl => by
    simp only [cvT, Option.some.injEq] at h
    subst h
    cases m with | nil => trivial | cons _ _ => exact hl.elim
  | (b, c) :: l, l', m, h, hl => by
    obtain ⟨v, m', rfl, h1, h2⟩ := rl_cons hl
    simp only [cvT] at h
    split at h
    · rename_i c' l'' hc hl'
      simp only [Option.some.injEq] at h
      subst h
      refine ⟨?_, cvT_sound hH hok hnew hl' h2⟩
      unfold RP at *
      cases b with
      | true =>
        simp only [if_true] at h1 ⊢
        obtain ⟨vs, e, hvs⟩ := h1
        exact ⟨vs, e, cvL_sound hH hok hnew hc hvs⟩
      | false =>
        simp only [Bool.false_eq_true, if_false] at h1 ⊢
        obtain ⟨z, rfl, hz⟩ := h1
        simp only [cvL] at hc
        split at hc
        · rename_i z' l3 hz' hl3
          simp only [Option.some.injEq] at hc hl3
          subst hc; subst hl3
          exact ⟨z', rfl, cvC_sound hH hok hnew hz' hz⟩
        · cases hc
    · cases h

theorem cvS_sound (hH : RepH w0 hp nx η w) (hok : ∀ k, okS w0 hp η w k → ok k) (hnew : ∀ k, w0.w.heap.size ≤ k → k < w.heap.size → ok k) {s s' : SV} {v : Value} (h : cvS hp s = some s') (hv : RS (cxS w0 hp nx η w) s v) : RS (DX w ok) s' v := by
  unfold cvS at h
  split at h
  · split at h
    · rename_i y hy
      cases h
      exact cvC_sound hH hok hnew hy hv
    · cases h
  · split at h
    · rename_i m hm
      cases h
      obtain ⟨vs, e, hl⟩ := hv
      exact ⟨vs, e, cvL_sound hH hok hnew hm hl⟩
    · cases h
  · split at h
    · rename_i m hm
      cases h
      obtain ⟨vs, e, hl⟩ := hv
      exact ⟨vs, e, cvT_sound hH hok hnew hm hl⟩
    · cases h
  · cases h
    trivial
end

section
variable {w0 : W0} {hp : List (Nat × Ob)} {nx : Nat → Prop} {η : Nat → Option Nat × Value} {w : World} {ok : Nat → Prop}
theorem cwC_sound (hH : RepH w0 hp nx η w) (hok : ∀ k, okS w0 hp η w k → ok k) (hnew : ∀ k, w0.w.heap.size ≤ k → k < w.heap.size → ok k) {K : C → Prop} {c : C} {v : Value} (h : cwC hp K c) (hv : RC (cxS w0 hp nx η w) c v) : ∃ y, K y ∧ RC (DX w ok) y v := by
  unfold cwC at h
  split at h
  · split at h
    · rename_i hlk
      obtain ⟨rfl, h1, h2⟩ := h
      exact ⟨_, h2, cvW_sound hH hok hnew hlk h1 hv⟩
    · exact h.elim
  · split at h
    · rename_i hy
      exact ⟨_, h, cvC_sound hH hok hnew hy hv⟩
    · exact h.elim
theorem cwL_sound (hH : RepH w0 hp nx η w) (hok : ∀ k, okS w0 hp η w k → ok k) (hnew : ∀ k, w0.w.heap.size ≤ k → k < w.heap.size → ok k) : ∀ {K : List C → Prop} {l : List C} {m : List Value}, cwL hp K l → RL (RC (cxS w0 hp nx η w)) l m → ∃ l', K l' ∧ RL (RC (DX w ok)) l' m
  | K, [], [], h, _ => ⟨[], h, trivial⟩
  | K, c :: l, v :: m, h, ⟨h1, h2⟩ => by
    obtain ⟨y, hy, hy2⟩ := cwC_sound hH hok hnew h h1
    obtain ⟨l', hl, hl2⟩ := cwL_sound hH hok hnew hy h2
    exact ⟨y :: l', hl, hy2, hl2⟩
  | K, [], _ :: _, _, h => h.elim
  | K, _ :: _, [], _, h => h.elim
theorem cwT_sound (hH : RepH w0 hp nx η w) (hok : ∀ k, okS w0 hp η w k → ok k) (hnew : ∀ k, w0.w.heap.size ≤ k → k < w.heap.size → ok k) : ∀ {K : List (Bool × List C) → Prop} {l : List (Bool × List C)} {m : List Value}, cwT hp K l → RL (RP (cxS w0 hp nx η w)) l m → ∃ l', K l' ∧ RL (RP (DX w ok)) l' m
  | K, [], [], h, _ => ⟨[], h, trivial⟩
  | K, (b, c) :: l, v :: m, h, ⟨h1, h2⟩ => by
    have key : ∀ {K2 : List C → Prop}, cwL hp K2 c → ∃ c', K2 c' ∧ RP (DX w ok) (b, c') v := fun {K2} hc => by
      unfold RP at h1 ⊢
      cases b with
      | true =>
        simp only [if_true] at h1 ⊢
        obtain ⟨vs, e, hl⟩ := h1
        obtain ⟨c', g1, g2⟩ := cwL_sound hH hok hnew hc hl
        exact ⟨c', g1, vs, e, g2⟩
      | false =>
        simp only [Bool.false_eq_true, if_false] at h1 ⊢
        obtain ⟨z, e, hz⟩ := h1
        subst e
        obtain ⟨c', g1, g2⟩ := cwL_sound hH hok hnew hc (m := [v]) ⟨hz, trivial⟩
        cases c' with
        | nil => exact g2.elim
        | cons y c' => cases c' with
          | nil => exact ⟨[y], g1, y, rfl, g2.1⟩
          | cons _ _ => exact g2.2.elim
    obtain ⟨c', g1, g2⟩ := key h
    obtain ⟨l', hl, hl2⟩ := cwT_sound hH hok hnew g1 h2
    exact ⟨(b, c') :: l', hl, g2, hl2⟩
  | K, [], _ :: _, _, h => h.elim
  | K, _ :: _, [], _, h => h.elim
theorem cwS_sound (hH : RepH w0 hp nx η w) (hok : ∀ k, okS w0 hp η w k → ok k) (hnew : ∀ k, w0.w.heap.size ≤ k → k < w.heap.size → ok k) {K : SV → Prop} {s : SV} {v : Value} (h : cwS hp K s) (hv : RS (cxS w0 hp nx η w) s v) : ∃ s', K s' ∧ RS (DX w ok) s' v := by
  cases s with
  | c x => obtain ⟨y, h1, h2⟩ := cwC_sound (K := fun y => K (.c y)) hH hok hnew h hv; exact ⟨.c y, h1, h2⟩
  | agg l =>
    obtain ⟨vs, e, hl⟩ := hv
    obtain ⟨l', h1, h2⟩ := cwL_sound (K := fun m => K (.agg m)) hH hok hnew h hl
    exact ⟨.agg l', h1, vs, e, h2⟩
  | tup l =>
    obtain ⟨vs, e, hl⟩ := hv
    obtain ⟨l', h1, h2⟩ := cwT_sound (K := fun m => K (.tup m)) hH hok hnew h hl
    exact ⟨.tup l', h1, vs, e, h2⟩
  | un => exact ⟨.un, h, trivial⟩
end

/-- A CONTRACT, BY A RUN over abstract states. -/
theorem fn_of {E : En} {fi : FI} {f : Nat} {c : Code} {args : List SV} {post : SV → Prop} (hf : E.P.funcs[f]? = some fi.fn) (hb : fi.fn.body = some c) (hn : (fi.fn.name == "runtime.NumGoroutine") = false) (ht : fi.fn.ntmps = fi.nt)
    (hr : fi.fn.results.toList = fi.res) (hl : args.length ≤ fi.nt) (hp : E.post = Post post) (hm : Mean E fi [.code c] ⟨num args 0, [], 0⟩ []) : FnD E.P f args post := by
  refine ⟨⟨fi.fn, hf, by rw [hb]; rfl, hn⟩, fun w ok vs hok hvs => ?_⟩
  refine calls_of_wp hf hb ?_
  have hle : (DX w ok).le (cxS ⟨w, ok⟩ [] (lt 0) (fun _ => (none, undef)) w) :=
    ⟨fun _ h => h.elim, fun _ h => h.elim, fun k hk => ⟨⟨hok k hk, fun _ => hk⟩, fun b h => absurd rfl h⟩, fun _ _ => rfl⟩
  have hF := enter_rep (x := cxS ⟨w, ok⟩ [] (lt 0) (fun _ => (none, undef)) w) (RL.imp (fun _ _ => RS.mono hle) hvs) hl
  rw [← ht] at hF
  refine wp_mono (hm ⟨w, ok⟩ (fun _ => (none, undef)) [] _ w rfl ⟨⟨⟨fun _ _ h => by simp [lk] at h, fun _ _ _ h => absurd rfl h, fun _ _ h => absurd rfl h, fun _ h => absurd rfl h, Below.refl _ _⟩, hr⟩, by rw [← ht]; exact hF, fun _ h => by cases h⟩) ?_
  intro e a' w' hq
  have fin : RR E.P ⟨w, ok⟩ (Fin ⟨w, ok⟩ E.post) fi [] a' w' → a'.defers = [] ∧ ∃ v, (results fi.fn a'.tmps).run E.P w' = .ok v w' ∧
      (∃ r v', (Ending.returned v : Ending) = .returned v' ∧ post r ∧ RS (DX w' fun k => (ok k ∨ w.heap.size ≤ k) ∧ k < w'.heap.size) r v' ∧ Below w.heap.size w w') := by
    rintro ⟨h1, v, h2, η, sv, st, h3, h4, h5⟩
    refine ⟨h1, v, h2, ?_⟩
    rw [hp] at h5
    unfold Post at h5
    split at h5
    · rename_i s hs
      refine ⟨s, v, rfl, h5, cvS_sound h3 (fun k hk => ⟨?_, hk.1.1⟩) (fun k h1 h2 => ⟨.inr h1, h2⟩) hs h4, h3.bel⟩
      by_cases hlt : k < w.heap.size
      · exact .inl (hk.1.2 hlt)
      · exact .inr (by omega)
    · obtain ⟨s, h6, h7⟩ := cwS_sound (ok := fun k => (ok k ∨ w.heap.size ≤ k) ∧ k < w'.heap.size) h3 (fun k hk => ⟨by
        by_cases hlt : k < w.heap.size
        · exact .inl (hk.1.2 hlt)
        · exact .inr (by omega), hk.1.1⟩) (fun k h1 h2 => ⟨.inr h1, h2⟩) h5 h4
      exact ⟨s, v, rfl, h6, h7, h3.bel⟩
  cases e with
  | normal => exact fin hq
  | ret => exact fin hq
  | exit id => exact hq.elim
  | goto l => exact hq.elim
  | panic ch => exact hq.elim
  | outgrown => exact hq.elim

/-- A CALL, by the callee's contract: data go in. -/
theorem call_rule {E : En} {cur : FI} {f : Nat} {args : List SV} {all : Array Oper} {o : Oper} {l : List Oper} {r : List It} {st : St} {stk : List Fm} {post : SV → Prop} (hF : FnD E.P f args post) (hd : args.all isDs = true)
    (hk : ∀ s, post s → Mean E cur (.ops all l :: r) ⟨putF cur.nt st.fr o.dst s, st.hp, st.nx⟩ stk) : CallOk E cur f args all o l r st stk := by
  refine ⟨?_⟩
  rintro ⟨args0, hcl, rfl⟩ z η S a w hS hR
  obtain ⟨⟨fn, hf1, hf2, hf3⟩, hF⟩ := hF
  obtain ⟨vs, hvs, hrun⟩ := run_call (E := E) (ev_sound hR.2.1) hcl hf1 hf2 hf3
  have hvs := nzs_sound hvs
  simp only [TW, wpList, Region.wanted, if_true]
  left
  unfold Oper.wp
  have hexec : execOp a.eval ⟨o.dst, o.op, o.type, o.pos, o.after, none⟩ = execOp a.eval o := rfl
  rw [hexec, hrun, Oper.upon_enter]
  have hargs : RL (RS (DX w (okS z st.hp η w))) (args0.map nzS) vs.toList := rls_data (x := cxS z st.hp (lt st.nx) η w) (y := DX w (okS z st.hp η w)) (fun _ h => h) (fun _ _ => rfl) hd hvs
  refine (hF w (okS z st.hp η w) vs (fun k hk => hk.1.1) hargs).mono ?_
  rintro e w' ⟨s, v, rfl, hs, hv, hb⟩
  have hle := cx_below (w0 := z) (hp := st.hp) (nx := lt st.nx) (η := η) hb
  have hR' := hR.heap (hR.1.1.below hb) hle
  have hres : RS (cxS z st.hp (lt st.nx) η w') s v := by
    refine RS.mono (x := DX w' fun k => (okS z st.hp η w k ∨ w.heap.size ≤ k) ∧ k < w'.heap.size) (y := cxS z st.hp (lt st.nx) η w') ⟨fun _ h => h.elim, fun _ h => h.elim, fun k hk => ?_, fun _ _ => rfl⟩ hv
    have hk : (okS z st.hp η w k ∨ w.heap.size ≤ k) ∧ k < w'.heap.size := hk
    refine ⟨⟨hk.2, fun hlt => ?_⟩, fun b hb he => ?_⟩
    · rcases hk.1 with h | h
      · exact h.1.2 hlt
      · have := hR.1.1.bel.size; omega
    · rcases hk.1 with h | h
      · exact h.2 b hb he
      · have := (hR.1.1.new b k hb he).2; omega
  exact hk s hs z η S _ w' hS (hR'.fr (putF_sound hR'.2.1 hres))

/-- a call that is made only if C, by the callee's contract -/
theorem cg_of {P : Program} {f : Nat} {args : List SV} {pf : SV → Prop} (hF : FnD P f args pf) (hd : args.all isDs = true) : CG P f args pf := by
  obtain ⟨hfn, hF⟩ := hF
  refine ⟨hfn, fun w0 hp nx η w vs hH hvs => ?_⟩
  have hargs : RL (RS (DX w (okS w0 hp η w))) args vs.toList := rls_data (x := cxS w0 hp (lt nx) η w) (y := DX w (okS w0 hp η w)) (fun _ h => h) (fun _ _ => rfl) hd hvs
  refine (hF w (okS w0 hp η w) vs (fun k hk => hk.1.1) hargs).mono ?_
  rintro e w' ⟨r, v, rfl, hs, hv, hb⟩
  refine ⟨r, v, rfl, hs, ?_, hb⟩
  refine RS.mono (x := DX w' fun k => (okS w0 hp η w k ∨ w.heap.size ≤ k) ∧ k < w'.heap.size) (y := cxS w0 hp (lt nx) η w') ⟨fun _ h => h.elim, fun _ h => h.elim, fun k hk => ?_, fun _ _ => rfl⟩ hv
  have hk : (okS w0 hp η w k ∨ w.heap.size ≤ k) ∧ k < w'.heap.size := hk
  refine ⟨⟨hk.2, fun hlt => ?_⟩, fun b hb' he => ?_⟩
  · rcases hk.1 with h | h
    · exact h.1.2 hlt
    · have := hH.bel.size; omega
  · rcases hk.1 with h | h
    · exact h.2 b hb' he
    · have := (hH.new b k hb' he).2; omega
theorem callg_rule {E : En} {C : Prop} {f : Nat} {args : List SV} {s : SV} {K : SV → Prop} (hF : C → FnD E.P f args (· = s)) (hd : args.all isDs = true) (hk : K s) : CallG E C f args K :=
  ⟨(· = s), ⟨s, rfl⟩, fun _ h => h ▸ hk, fun c => cg_of (hF c) hd⟩
theorem callgp_rule {E : En} {C : Prop} {f : Nat} {args : List SV} {pf : SV → Prop} {K : SV → Prop} (hF : C → FnD E.P f args pf) (hd : args.all isDs = true) (hs : ∃ s, pf s) (hk : ∀ s, pf s → K s) : CallG E C f args K :=
  ⟨pf, hs, hk, fun c => cg_of (hF c) hd⟩

/-! ### own rows are lent: what comes back holds no address -/

def ldC (hp : List (Nat × Ob)) : C → C
  | .row b => match lk hp b with
    | some (.row _ d xs) => .dat d xs
    | _ => .row b
  | c => c
def ldS (hp : List (Nat × Ob)) : SV → SV
  | .c x => .c (ldC hp x)
  | .agg l => .agg (l.map (ldC hp))
  | s => s
def scC : C → Bool
  | .int _ _ | .bool _ | .str _ => true
  | _ => false
def scL : List C → Bool
  | [] => true
  | c :: l => match scC c with | true => scL l | false => false
def scT : List (Bool × List C) → Bool
  | [] => true
  | (_, l) :: r => match scL l with | true => scT r | false => false
def scS : SV → Bool
  | .c x => scC x
  | .agg l => scL l
  | .tup l => scT l
  | .un => false
theorem sc_rc {x y : Cx} : ∀ {c : C} {v : Value}, scC c = true → RC x c v → RC y c v
  | .int _ _, _, _, h => h
  | .bool _, _, _, h => h
  | .str _, _, _, h => h
  | .ptr _ _, _, h, _ => by simp [scC] at h
  | .pel _ _ _, _, h, _ => by simp [scC] at h
  | .prw _ _ _ _, _, h, _ => by simp [scC] at h
  | .row _, _, h, _ => by simp [scC] at h
  | .dat _ _, _, h, _ => by simp [scC] at h
  | .val _, _, h, _ => by simp [scC] at h
  | .fn _ _, _, h, _ => by simp [scC] at h
  | .mp _, _, h, _ => by simp [scC] at h
  | .bm _ _ _, _, h, _ => by simp [scC] at h
  | .csl _ _, _, h, _ => by simp [scC] at h
  | .sub _ _ _ _ _, _, h, _ => by simp [scC] at h
theorem sc_rl {x y : Cx} : ∀ {l : List C} {m : List Value}, scL l = true → RL (RC x) l m → RL (RC y) l m
  | [], [], _, _ => trivial
  | c :: l, v :: m, hs, ⟨h1, h2⟩ => by
    unfold scL at hs
    split at hs
    · rename_i hc; exact ⟨sc_rc hc h1, sc_rl hs h2⟩
    · cases hs
  | [], _ :: _, _, h => h.elim
  | _ :: _, [], _, h => h.elim
theorem sc_rt {x y : Cx} : ∀ {l : List (Bool × List C)} {m : List Value}, scT l = true → RL (RP x) l m → RL (RP y) l m
  | [], [], _, _ => trivial
  | (g, c) :: l, v :: m, hs, ⟨h1, h2⟩ => by
    unfold scT at hs
    split at hs
    · rename_i hc
      refine ⟨?_, sc_rt hs h2⟩
      unfold RP at *
      cases g with
      | true =>
        simp only [if_true] at h1 ⊢
        obtain ⟨vs, e, h⟩ := h1
        exact ⟨vs, e, sc_rl hc h⟩
      | false =>
        simp only [Bool.false_eq_true, if_false] at h1 ⊢
        obtain ⟨z, rfl, h⟩ := h1
        exact ⟨z, rfl, (sc_rl (m := [v]) hc ⟨h, trivial⟩).1⟩
    · cases hs
  | [], _ :: _, _, h => h.elim
  | _ :: _, [], _, h => h.elim
theorem sc_rs {x y : Cx} : ∀ {s : SV} {v : Value}, scS s = true → RS x s v → RS y s v
  | .c c, _, h, hv => sc_rc (x := x) h hv
  | .agg l, _, h, ⟨vs, e, hv⟩ => ⟨vs, e, sc_rl h hv⟩
  | .tup l, _, h, ⟨vs, e, hv⟩ => ⟨vs, e, sc_rt h hv⟩
  | .un, _, h, _ => by simp [scS] at h

section
variable {w0 : W0} {hp hin : List (Nat × Ob)} {nx : Nat → Prop} {η : Nat → Option Nat × Value} {w : World}
theorem ldC_sound (hH : RepH w0 hp nx η w) (hs : ∀ b o, lk hin b = some o → lk hp b = some o) {c : C} {v : Value} (hd : isDC (ldC hin c) = true) (hv : RC (cxS w0 hp nx η w) c v) : RC (DX w fun k => k < w.heap.size) (ldC hin c) v := by
  have hle : ∀ k, okS w0 hp η w k → k < w.heap.size := fun k hk => hk.1.1
  have other : isDC c = true → ldC hin c = c → RC (DX w fun k => k < w.heap.size) (ldC hin c) v := fun hd e => by
    rw [e]
    exact rc_data (x := cxS w0 hp nx η w) (y := DX w fun k => k < w.heap.size) hle (fun _ _ => rfl) hd hv
  cases c with
  | row b =>
    cases hlk : lk hin b with
    | none => simp [ldC, hlk, isDC] at hd
    | some ob =>
      cases ob with
      | row T d xs =>
        simp only [ldC, hlk]
        obtain ⟨hb, e, _⟩ := hv
        obtain ⟨cs, r1, r2, r3⟩ := hH.obs b _ (hs _ _ hlk)
        have r1 : (η b).1 = (η b).2.ownBlock := r1
        have e : v = (η b).2 := e
        show Rd w (fun k => k < w.heap.size) (.list d) xs [v]
        simp only [Rd]
        rcases r2.2 with ⟨hv, hn⟩ | ⟨g, cap, cur, hv, _, hg, hc1, hc2, hc3, hc4⟩
        · have hv : (η b).2 = .slice none 0 0 := hv
          have : xs = [] := List.eq_nil_of_length_eq_zero hn
          subst this
          exact ⟨none, 0, by rw [e, hv]; rfl, by simp, by simp [maxLen], fun _ => rfl, .inl rfl⟩
        · have hv : (η b).2 = .slice (some ⟨g, 0, none⟩) xs.length cap := hv
          have hk := hH.new b g (by rw [hs _ _ hlk]; simp) (by rw [r1, hv]; rfl)
          refine ⟨some ⟨g, 0, none⟩, cap, by rw [e, hv], hc1, hc2, (fun h => by cases h), .inr ⟨g, 0, cur, T, (0, 0), rfl, hk.2, hg, ?_⟩⟩
          rw [List.drop_zero, hc4]
          exact RdF.imp (fun _ _ h => Rd.mono hle (fun _ _ => rfl) h) r3
      | _ => simp [ldC, hlk, isDC] at hd
  | _ => exact other hd rfl
theorem ldL_sound (hH : RepH w0 hp nx η w) (hs : ∀ b o, lk hin b = some o → lk hp b = some o) : ∀ {l : List C} {m : List Value}, (l.map (ldC hin)).all isDC = true → RL (RC (cxS w0 hp nx η w)) l m → RL (RC (DX w fun k => k < w.heap.size)) (l.map (ldC hin)) m
  | [], [], _, _ => trivial
  | c :: l, v :: m, hd, ⟨h1, h2⟩ => by
    simp only [List.map_cons, List.all_cons, Bool.and_eq_true] at hd
    exact ⟨ldC_sound hH hs hd.1 h1, ldL_sound hH hs hd.2 h2⟩
  | [], _ :: _, _, h => h.elim
  | _ :: _, [], _, h => h.elim
theorem ldS_sound (hH : RepH w0 hp nx η w) (hs : ∀ b o, lk hin b = some o → lk hp b = some o) : ∀ {s : SV} {v : Value}, isDs (ldS hin s) = true → RS (cxS w0 hp nx η w) s v → RS (DX w fun k => k < w.heap.size) (ldS hin s) v
  | .c _, _, hd, h => ldC_sound hH hs hd h
  | .agg _, _, hd, ⟨vs, e, h⟩ => ⟨vs, e, ldL_sound hH hs hd h⟩
  | .tup _, _, hd, ⟨vs, e, h⟩ => ⟨vs, e, rps_data (x := cxS w0 hp nx η w) (y := DX w fun k => k < w.heap.size) (fun _ hk => hk.1.1) (fun _ _ => rfl) hd h⟩
  | .un, _, _, _ => trivial
theorem lds_sound (hH : RepH w0 hp nx η w) (hs : ∀ b o, lk hin b = some o → lk hp b = some o) : ∀ {l : List SV} {m : List Value}, (l.map (ldS hin)).all isDs = true → RL (RS (cxS w0 hp nx η w)) l m → RL (RS (DX w fun k => k < w.heap.size)) (l.map (ldS hin)) m
  | [], [], _, _ => trivial
  | c :: l, v :: m, hd, ⟨h1, h2⟩ => by
    simp only [List.map_cons, List.all_cons, Bool.and_eq_true] at hd
    exact ⟨ldS_sound hH hs hd.1 h1, lds_sound hH hs hd.2 h2⟩
  | [], _ :: _, _, h => h.elim
  | _ :: _, [], _, h => h.elim
end

/-- A CALL to which own rows are lent. -/
theorem lend_rule {E : En} {cur : FI} {f : Nat} {args : List SV} {all : Array Oper} {o : Oper} {l : List Oper} {r : List It} {st : St} {stk : List Fm} {post : SV → Prop} (hF : FnD E.P f (args.map (ldS st.hp)) post) (hd : (args.map (ldS st.hp)).all isDs = true) (hsc : ∀ s, post s → scS s = true)
    (hk : ∀ s, post s → Mean E cur (.ops all l :: r) ⟨putF cur.nt st.fr o.dst s, st.hp, st.nx⟩ stk) : CallOk E cur f args all o l r st stk := by
  refine ⟨?_⟩
  rintro ⟨args0, hcl, rfl⟩ z η S a w hS hR
  obtain ⟨⟨fn, hf1, hf2, hf3⟩, hF⟩ := hF
  obtain ⟨vs, hvs, hrun⟩ := run_call (E := E) (ev_sound hR.2.1) hcl hf1 hf2 hf3
  have hvs := nzs_sound hvs
  simp only [TW, wpList, Region.wanted, if_true]
  left
  unfold Oper.wp
  have hexec : execOp a.eval ⟨o.dst, o.op, o.type, o.pos, o.after, none⟩ = execOp a.eval o := rfl
  rw [hexec, hrun, Oper.upon_enter]
  refine (hF w (fun k => k < w.heap.size) vs (fun _ hk => hk) (lds_sound hR.1.1 (fun _ _ h => h) hd hvs)).mono ?_
  rintro e w' ⟨s, v, rfl, hs, hv, hb⟩
  have hle := cx_below (w0 := z) (hp := st.hp) (nx := lt st.nx) (η := η) hb
  have hR' := hR.heap (hR.1.1.below hb) hle
  exact hk s hs z η S _ w' hS (hR'.fr (putF_sound hR'.2.1 (sc_rs (hsc s hs) hv)))

/-! ### own rows become data -/

def fzC (b : Nat) (d : D) (xs : List d.T) : C → C
  | .row b' => match Nat.beq b' b with | true => .dat d xs | false => .row b'
  | c => c
def fzT (b : Nat) (d : D) (xs : List d.T) : List (Bool × List C) → List (Bool × List C)
  | [] => []
  | (g, l) :: r => (g, l.map (fzC b d xs)) :: fzT b d xs r
def fzS (b : Nat) (d : D) (xs : List d.T) : SV → SV
  | .c x => .c (fzC b d xs x)
  | .agg l => .agg (l.map (fzC b d xs))
  | .tup l => .tup (fzT b d xs l)
  | .un => .un
def fzF (b : Nat) (d : D) (xs : List d.T) : List (Nat × SV) → List (Nat × SV)
  | [] => []
  | (t, s) :: r => (t, fzS b d xs s) :: fzF b d xs r
def fzH (b : Nat) (d : D) (xs : List d.T) : List (Nat × Ob) → List (Nat × Ob)
  | [] => []
  | (c, .cells T l) :: r => (c, .cells T (l.map (fzC b d xs))) :: fzH b d xs r
  | p :: r => p :: fzH b d xs r

theorem lk_fzF {b : Nat} {d : D} {xs : List d.T} : ∀ (fr : List (Nat × SV)) (t : Nat), lk (fzF b d xs fr) t = (lk fr t).map (fzS b d xs)
  | [], _ => rfl
  | (c, s) :: r, t => by
    simp only [fzF, lk]
    split
    · rfl
    · exact lk_fzF r t
theorem lk_fzH {b : Nat} {d : D} {xs : List d.T} {o : Ob} : ∀ {hp : List (Nat × Ob)} {t : Nat}, lk (fzH b d xs hp) t = some o → ∃ o', lk hp t = some o' ∧ (o = o' ∨ ∃ T l, o' = .cells T l ∧ o = .cells T (l.map (fzC b d xs)))
  | [], t, h => by simp [fzH, lk] at h
  | (c, o1) :: r, t, h => by
    by_cases hc : t = c
    · subst hc
      cases o1 <;> simp only [fzH, lk, if_true, Option.some.injEq] at h <;> subst h <;> refine ⟨_, by simp only [lk, if_true]; rfl, ?_⟩
      · exact .inr ⟨_, _, rfl, rfl⟩
      all_goals exact .inl rfl
    · have : lk (fzH b d xs r) t = some o := by
        cases o1 <;> simpa only [fzH, lk, if_neg hc] using h
      obtain ⟨o', h1, h2⟩ := lk_fzH this
      exact ⟨o', by simp only [lk, if_neg hc]; exact h1, h2⟩

section
variable {w0 : W0} {hp : List (Nat × Ob)} {nx : Nat → Prop} {η : Nat → Option Nat × Value} {w : World}

theorem fz_le (b : Nat) : (cxS w0 hp nx η w).le (cxS w0 (rm hp b) nx η w) :=
  ⟨fun _ _ => rfl, fun _ h => h, fun k ⟨h1, h2⟩ => ⟨h1, fun c hc => h2 c (fun e => hc (by rw [lk_rm]; split <;> simp_all))⟩, fun _ _ => rfl⟩

theorem fzC_sound {b : Nat} {T : TypeId} {d : D} {xs : List d.T} (hH : RepH w0 hp nx η w) (hb : lk hp b = some (.row T d xs)) {c : C} {v : Value} (h : RC (cxS w0 hp nx η w) c v) : RC (cxS w0 (rm hp b) nx η w) (fzC b d xs c) v := by
  unfold fzC
  split
  · rename_i b'
    split
    · rename_i e
      have e := Nat.eq_of_beq_eq_true e
      subst e
      obtain ⟨_, hv, _⟩ := h
      obtain ⟨cs, r1, r2, r3⟩ := hH.obs b' _ hb
      have r1 : (η b').1 = (η b').2.ownBlock := r1
      have hv : v = (η b').2 := hv
      show Rd w (okS w0 (rm hp b') η w) (.list d) xs [v]
      simp only [Rd]
      rcases r2.2 with ⟨h0, hn⟩ | ⟨g, cap, cur, h0, _, hg, hc1, hc2, hc3, hc4⟩
      · have h0 : (η b').2 = .slice none 0 0 := h0
        have : xs = [] := List.eq_nil_of_length_eq_zero hn
        subst this
        exact ⟨none, 0, by rw [hv, h0]; rfl, by simp, by simp [maxLen], fun _ => rfl, .inl rfl⟩
      · have h0 : (η b').2 = .slice (some ⟨g, 0, none⟩) xs.length cap := h0
        have hg1 : (η b').1 = some g := by rw [r1, h0]; rfl
        have hk := hH.new b' g (by rw [hb]; simp) hg1
        refine ⟨some ⟨g, 0, none⟩, cap, by rw [hv, h0], hc1, hc2, (fun h => by cases h), .inr ⟨g, 0, cur, T, (0, 0), rfl, ⟨⟨hk.2, fun hlt => by omega⟩, fun c hc he => ?_⟩, hg, ?_⟩⟩
        · rw [lk_rm] at hc
          split at hc
          · exact hc rfl
          · rename_i hne
            exact hne (hH.sep c b' g hc (by rw [hb]; simp) he hg1)
        · rw [List.drop_zero, hc4]
          exact RdF.imp (fun _ _ h => Rd.mono (fz_le (hp := hp) (nx := nx) (w0 := w0) (η := η) (w := w) b').ok (fun _ _ => rfl) h) r3
    · exact RC.mono (fz_le b) h
  · exact RC.mono (fz_le b) h

theorem fzL_sound {b : Nat} {T : TypeId} {d : D} {xs : List d.T} (hH : RepH w0 hp nx η w) (hb : lk hp b = some (.row T d xs)) : ∀ {l : List C} {m : List Value}, RL (RC (cxS w0 hp nx η w)) l m → RL (RC (cxS w0 (rm hp b) nx η w)) (l.map (fzC b d xs)) m
  | [], [], _ => trivial
  | _ :: _, _ :: _, ⟨h1, h2⟩ => ⟨fzC_sound hH hb h1, fzL_sound hH hb h2⟩
  | [], _ :: _, h => h.elim
  | _ :: _, [], h => h.elim
theorem fzT_sound {b : Nat} {T : TypeId} {d : D} {xs : List d.T} (hH : RepH w0 hp nx η w) (hb : lk hp b = some (.row T d xs)) : ∀ {l : List (Bool × List C)} {m : List Value}, RL (RP (cxS w0 hp nx η w)) l m → RL (RP (cxS w0 (rm hp b) nx η w)) (fzT b d xs l) m
  | [], [], _ => trivial
  | (g, l) :: _, _ :: _, ⟨h1, h2⟩ => by
    refine ⟨?_, fzT_sound hH hb h2⟩
    unfold RP at *
    cases g with
    | true =>
      simp only [if_true] at h1 ⊢
      obtain ⟨vs, e, h⟩ := h1
      exact ⟨vs, e, fzL_sound hH hb h⟩
    | false =>
      simp only [Bool.false_eq_true, if_false] at h1 ⊢
      obtain ⟨y, rfl, h⟩ := h1
      exact ⟨_, rfl, fzC_sound hH hb h⟩
  | [], _ :: _, h => h.elim
  | _ :: _, [], h => h.elim
theorem fzS_sound {b : Nat} {T : TypeId} {d : D} {xs : List d.T} (hH : RepH w0 hp nx η w) (hb : lk hp b = some (.row T d xs)) {s : SV} {v : Value} (h : RS (cxS w0 hp nx η w) s v) : RS (cxS w0 (rm hp b) nx η w) (fzS b d xs s) v := by
  cases s with
  | c x => exact fzC_sound hH hb h
  | agg l => obtain ⟨vs, e, h⟩ := h; exact ⟨vs, e, fzL_sound hH hb h⟩
  | tup l => obtain ⟨vs, e, h⟩ := h; exact ⟨vs, e, fzT_sound hH hb h⟩
  | un => trivial
end

/-- AN OWN ROW IS DATA FROM HERE ON. -/
theorem freeze_rule {E : En} {cur : FI} {t : List It} {fr : List (Nat × SV)} {hp : List (Nat × Ob)} {nx : Nat} {stk : List Fm} {b : Nat} {T : TypeId} {d : D} {xs : List d.T} (hb : lk hp b = some (.row T d xs))
    (hm : Mean E cur t ⟨fzF b d xs fr, fzH b d xs (rm hp b), nx⟩ stk) : Mean E cur t ⟨fr, hp, nx⟩ stk := by
  intro w0 η S a w hS hR
  have hle := fz_le (w0 := w0) (hp := hp) (nx := lt nx) (η := η) (w := w) b
  have hok : okS w0 (fzH b d xs (rm hp b)) η w = okS w0 (rm hp b) η w := by
    have : ∀ c, (lk (fzH b d xs (rm hp b)) c ≠ none) = (lk (rm hp b) c ≠ none) := fun c => by
      rw [eq_iff_iff]
      generalize rm hp b = h2
      induction h2 with
      | nil => simp [fzH]
      | cons p r ih =>
        obtain ⟨c', o⟩ := p
        cases o <;> simp only [fzH, lk] <;> split <;> simp_all
    funext k
    simp only [okS, this]
  have hcx : cxS w0 (fzH b d xs (rm hp b)) (lt nx) η w = cxS w0 (rm hp b) (lt nx) η w := by unfold cxS; rw [hok]
  have hdom : ∀ c o, lk (fzH b d xs (rm hp b)) c = some o → lk hp c ≠ none := fun c o h => by
    obtain ⟨o', h1, _⟩ := lk_fzH h
    rw [lk_rm] at h1
    split at h1
    · cases h1
    · rw [h1]; simp
  have hdom' : ∀ c, lk (fzH b d xs (rm hp b)) c ≠ none → lk hp c ≠ none := fun c h => by
    cases ho : lk (fzH b d xs (rm hp b)) c with
    | none => exact (h ho).elim
    | some o => exact hdom c o ho
  have hH := hR.1.1
  refine hm w0 η S a w hS ⟨⟨⟨fun c o ho => ?_, fun c e k h1 h2 => hH.sep c e k (hdom' c h1) (hdom' e h2), fun c k h1 => hH.new c k (hdom' c h1), fun c h1 => hH.nxt c (hdom' c h1), hH.bel⟩, hR.1.2⟩, ?_, fun p hp => ⟨?_, (hR.2.2 p hp).2⟩⟩
  · rw [hcx]
    obtain ⟨o', h1, h2⟩ := lk_fzH ho
    rw [lk_rm] at h1
    split at h1
    · cases h1
    · have hob := hH.obs c o' h1
      have hc : lt nx c := hH.nxt c (by rw [h1]; simp)
      rcases h2 with rfl | ⟨T', l, rfl, rfl⟩
      · exact RO.mono hle hc (fun _ _ => rfl) hob
      · obtain ⟨k, vs, g1, g2, g3⟩ := hob
        exact ⟨k, vs, g1, g2, fzL_sound hH hb g3⟩
  · rw [hcx]
    refine ⟨fun t' sv ht => ?_, hR.2.1.siz, hR.2.1.dfr⟩
    rw [lk_fzF] at ht
    cases h : lk fr t' with
    | none => rw [h] at ht; cases ht
    | some s =>
      rw [h] at ht
      simp only [Option.map_some, Option.some.injEq] at ht
      subst ht
      obtain ⟨v, h1, h2⟩ := hR.2.1.sl t' s h
      exact ⟨v, h1, fzS_sound hH hb h2⟩
  · rw [hcx]
    exact RepF.mono hle (hR.2.2 p hp).1

/-! ### a state made weaker: slots forgotten, blocks named anew -/

abbrev Ren := List (Nat × Option Nat)

def mB (ρ : Ren) (b : Nat) (x : Option Nat) : Option Ren :=
  match lk ρ b with
  | some y => if y = x then some ρ else none
  | none => some ((b, x) :: ρ)

def mP (ρ : Ren) : List (Nat × Nat) → List (Nat × Nat) → Option (Ren × Prop)
  | [], [] => some (ρ, True)
  | (b, o) :: l, (b', o') :: l' => match mB ρ b (some b') with
    | some ρ => match mP ρ l l' with
      | some (ρ, p) => some (ρ, o = o' ∧ p)
      | none => none
    | none => none
  | _, _ => none
def mC (ρ : Ren) : C → C → Option (Ren × Prop)
  | .int k n, .int k' n' => if k = k' then some (ρ, n = n') else none
  | .bool b, .bool b' => some (ρ, b.v = b'.v)
  | .str s, .str s' => some (ρ, s = s')
  | .dat d xs, .dat d' xs' => if h : d' = d then some (ρ, xs = h ▸ xs') else none
  | .dat _ xs, .val (.slice none 0 0) => some (ρ, xs = [])
  | .pel d x o, .pel d' x' o' => if h : d' = d then some (ρ, x = h ▸ x' ∧ o = o') else none
  | .row b, .row b' => match mB ρ b (some b') with | some ρ => some (ρ, True) | none => none
  | .row b, .val (.slice none 0 0) => match mB ρ b none with | some ρ => some (ρ, True) | none => none
  | .ptr b o, .ptr b' o' => match mB ρ b (some b') with | some ρ => some (ρ, o = o') | none => none
  | .csl b n, .csl b' n' => match mB ρ b (some b') with | some ρ => some (ρ, n = n') | none => none
  | .sub b o sz n c, .sub b' o' sz' n' c' => match mB ρ b (some b') with | some ρ => some (ρ, o = o' ∧ sz = sz' ∧ n = n' ∧ c = c') | none => none
  | .mp b, .mp b' => match mB ρ b (some b') with | some ρ => some (ρ, True) | none => none
  | .bm f b o, .bm f' b' o' => match mB ρ b (some b') with | some ρ => some (ρ, f = f' ∧ o = o') | none => none
  | .val v, .val v' => some (ρ, v = v')
  | .fn f l, .fn f' l' => match mP ρ l l' with
    | some (ρ, p) => some (ρ, f = f' ∧ p)
    | none => none
  | _, _ => none

theorem mC_dat (ρ : Ren) (d : D) (xs xs' : List d.T) : mC ρ (.dat d xs) (.dat d xs') = some (ρ, xs = xs') := by simp [mC]
theorem mC_pel (ρ : Ren) (d : D) (x x' : d.T) (o o' : Nat) : mC ρ (.pel d x o) (.pel d x' o') = some (ρ, x = x' ∧ o = o') := by simp [mC]

def mL (ρ : Ren) : List C → List C → Option (Ren × Prop)
  | [], [] => some (ρ, True)
  | c :: l, c' :: l' => match mC ρ c c' with
    | some (ρ, p) => match mL ρ l l' with
      | some (ρ, q) => some (ρ, p ∧ q)
      | none => none
    | none => none
  | _, _ => none

def mT (ρ : Ren) : List (Bool × List C) → List (Bool × List C) → Option (Ren × Prop)
  | [], [] => some (ρ, True)
  | (b, c) :: l, (b', c') :: l' => if b = b' then (match mL ρ c c' with
    | some (ρ, p) => match mT ρ l l' with
      | some (ρ, q) => some (ρ, p ∧ q)
      | none => none
    | none => none) else none
  | _, _ => none

def mS (ρ : Ren) : SV → SV → Option (Ren × Prop)
  | .c x, .c y => mC ρ x y
  | .agg l, .agg l' => mL ρ l l'
  | .tup l, .tup l' => mT ρ l l'
  | .un, _ => some (ρ, True)
  | _, _ => none

def mF (ρ : Ren) : List (Nat × SV) → List (Nat × SV) → Option (Ren × Prop)
  | [], _ => some (ρ, True)
  | (t, s) :: l, fr => match lk fr t with
    | some s' => match mS ρ s s' with
      | some (ρ, p) => match mF ρ l fr with
        | some (ρ, q) => some (ρ, p ∧ q)
        | none => none
      | none => none
    | none => none

def mK (ρ : Ren) : List Fm → Option (Ren × Prop)
  | [] => some (ρ, True)
  | f :: s => match mF ρ f.fr f.fr with
    | some (ρ, p) => match mK ρ s with
      | some (ρ, q) => some (ρ, p ∧ q)
      | none => none
    | none => none

def mO (ρ : Ren) : Ob → Ob → Option (Ren × Prop)
  | .cells T l, .cells T' l' => if T = T' then mL ρ l l' else none
  | .row T d xs, .row T' d' xs' => if T = T' then (if h : d' = d then some (ρ, xs = h ▸ xs') else none) else none
  | .wid T d xs c, .wid T' d' xs' c' => if T = T' then (if h : d' = d then some (ρ, xs = h ▸ xs' ∧ c = c') else none) else none
  | .itr m n seen, .itr m' n' seen' => match mB ρ m (some m') with | some ρ => some (ρ, n = n' ∧ seen = seen') | none => none
  | .dmp T kd vd es, .dmp T' kd' vd' es' => if T = T' then (if h : kd' = kd ∧ vd' = vd then some (ρ, es = h.1 ▸ h.2 ▸ es') else none) else none
  | _, _ => none

theorem mO_row (ρ : Ren) (T : TypeId) (d : D) (xs xs' : List d.T) : mO ρ (.row T d xs) (.row T d xs') = some (ρ, xs = xs') := by simp [mO]

def mH (ρ : Ren) : List (Nat × Ob) → List (Nat × Ob) → Option (Ren × Prop)
  | [], _ => some (ρ, True)
  | (b, o) :: l, hp => match lk ρ b with
    | some (some b') => match lk hp b' with
      | some o' => match mO ρ o o' with
        | some (ρ, p) => match mH ρ l hp with
          | some (ρ, q) => some (ρ, p ∧ q)
          | none => none
        | none => none
      | none => none
    | some none => match o with
      | .row _ _ xs => match mH ρ l hp with
        | some (ρ, q) => some (ρ, xs = [] ∧ q)
        | none => none
      | _ => none
    | none => none

def small (n : Nat) : Ren → Bool
  | [] => true
  | (b, _) :: ρ => decide (b < n) && small n ρ

def dist : Ren → Bool
  | [] => true
  | (_, none) :: ρ => dist ρ
  | (_, some b) :: ρ => (ρ.all fun p => match p.2 with | some c => decide (c ≠ b) | none => true) && dist ρ

/-- the first state says no more than the second one -/
def sub (st st' : St) (stk : List Fm) : Prop :=
  match mF [] st.fr st'.fr with
  | some (ρ, p) => match mK ρ stk with
    | some (ρ, p2) => match mH ρ st.hp st'.hp with
      | some (ρ, q) => (small st.nx ρ && dist ρ) = true ∧ p ∧ p2 ∧ q
      | none => False
    | none => False
  | none => False

end OE
