/- Several texts of the proof, one behind the other; put together by a program of the session (mrg.py). Own work. -/
import Derived.Test.YtnldokebmfojeaaPart6
/- A reply's bytes: what was encoded is decoded as it was, what was decoded is encoded as it stood; the two ways of reading are one; no program in sight. Own work. -/
set_option linter.unusedVariables false
set_option maxRecDepth 100000
namespace Go.Proofs.Ytnldokebmfojeaa
open Go Go.RowKit OE

/-! what is bad stays so -/
theorem rdN_nb {s : List UInt8} {m : Int} {q : Int × Bool} (h : (rdN s m q).2.2 = false) : q.2 = false := by
  cases hq : q.2 with
  | false => rfl
  | true => rw [rdN, if_pos (.inl hq)] at h; cases h
theorem rdT_nb {s : List UInt8} {m : Int} {q : Int × Bool} (h : (rdT s m q).2.2 = false) : q.2 = false := by
  cases hq : q.2 with
  | false => rfl
  | true => rw [rdT, if_pos (.inl hq)] at h; cases h
theorem rdP_nb {s : List UInt8} {q : Int × Bool} (h : (rdP s q).2.2 = false) : q.2 = false := by
  cases hq : q.2 with
  | false => rfl
  | true => rw [rdP, if_pos (.inl hq)] at h; cases h
theorem oneN_nb {s : List UInt8} {q : Int × Bool} (h : (oneN s q).2.2 = false) : q.2 = false := rdN_nb (rdT_nb (rdP_nb h))
theorem oneE_nb {s : List UInt8} {q : Int × Bool} (h : (oneE s q).2.2 = false) : q.2 = false := rdN_nb (rdT_nb (rdN_nb (rdN_nb (rdP_nb h))))
theorem oneI_nb {s : List UInt8} {q : Int × Bool} (h : (oneI s q).2.2 = false) : q.2 = false := rdN_nb h
theorem lstA_nb {α : Type} {one : Int × Bool → α × Int × Bool} (h1 : ∀ q, (one q).2.2 = false → q.2 = false) : ∀ {n : Nat} {acc : List α} {q : Int × Bool}, (lstA one n acc q).2.2 = false → q.2 = false
  | 0, acc, q, h => h
  | n + 1, acc, q, h => by
    unfold lstA at h
    split at h
    · exact h
    · exact h1 q (lstA_nb h1 h)
theorem listA_nb {α : Type} {s : List UInt8} {one : Int × Bool → α × Int × Bool} (h1 : ∀ q, (one q).2.2 = false → q.2 = false) {q : Int × Bool} (h : (listA s one q).2.2 = false) : q.2 = false := rdN_nb (lstA_nb h1 h)
theorem lst_same {α : Type} {one : Int × Bool → α × Int × Bool} : ∀ {n : Nat} {acc : List α} {q : Int × Bool}, (lstR one n acc q).2 = (lstA one n acc q).2 ∧ ((lstA one n acc q).2.2 = false → lstR one n acc q = lstA one n acc q)
  | 0, acc, q => ⟨rfl, fun _ => rfl⟩
  | n + 1, acc, q => by
    unfold lstR lstA
    by_cases hq : q.2 = true
    · rw [if_pos hq, if_pos hq]
      refine ⟨rfl, fun h => ?_⟩
      have h : q.2 = false := h
      rw [hq] at h; cases h
    · rw [if_neg hq, if_neg hq]
      exact lst_same
theorem list_same {α : Type} (s : List UInt8) (one : Int × Bool → α × Int × Bool) (q : Int × Bool) : (listR s one q).2 = (listA s one q).2 ∧ ((listA s one q).2.2 = false → listR s one q = listA s one q) := lst_same
theorem rdT_most {s : List UInt8} (hs : s.length ≤ 1073741824) (q : Int × Bool) : rdT s 1073741824 q = rdT s s.length q := by
  have e : Num.getT s q.1 1073741824 = Num.getT s q.1 s.length := by
    unfold Num.getT
    cases g : Num.getN s q.1 with
    | none => rfl
    | some p =>
      obtain ⟨n, k⟩ := p
      dsimp only
      by_cases h : q.1.toNat + k + n > s.length
      · rw [if_pos (.inr (.inr h)), if_pos (.inr (.inr h))]
      · rw [if_neg (by omega), if_neg (by omega)]
  unfold rdT tS
  rw [e]
theorem pN_q (s : List UInt8) : (pN s).2 = (qN s).2 := (list_same s _ _).1
theorem pE_q (s : List UInt8) : (pE s).2 = (qE s).2 := by
  unfold pE qE
  rw [pN_q]
  exact (list_same s _ _).1
theorem pD_q (s : List UInt8) : (pD s).2 = (qD s).2 := by
  unfold pD qD
  rw [pE_q]
  exact (list_same s _ _).1
theorem pT_q {s : List UInt8} (hs : s.length ≤ 1073741824) : pT s = qT s := by
  unfold pT qT
  rw [pD_q, rdT_most hs]
theorem raw_same {s : List UInt8} (hs : s.length ≤ 1073741824) (h : badA s = false) : rawR s = rawA s := by
  unfold badA at h
  rw [Bool.or_eq_false_iff] at h
  have hD := rdT_nb h.1
  have hE := listA_nb (fun _ => oneI_nb) hD
  have hN := listA_nb (fun _ => oneE_nb) hE
  have e1 : pN s = qN s := (list_same s _ _).2 hN
  have e2 : pE s = qE s := by
    unfold pE qE
    rw [e1]
    exact (list_same s _ _).2 hE
  have e3 : pD s = qD s := by
    unfold pD qD
    rw [e2]
    exact (list_same s _ _).2 hD
  unfold rawR rawA
  rw [e1, e2, e3, pT_q hs]
theorem bad_same {s : List UInt8} (hs : s.length ≤ 1073741824) : badR s = badA s := by
  unfold badR badA
  rw [pT_q hs]
theorem ok_same {s : List UInt8} (hs : s.length ≤ 1073741824) : okR' s = okA s := by
  unfold okR' okA
  rw [bad_same hs, pT_q hs]
  cases hb : badA s with
  | true => rfl
  | false => rw [raw_same hs hb]
theorem dec_same {s : List UInt8} (hs : s.length ≤ 1073741824) : (if okR' s = true then rawR s else A0) = repA s := by
  unfold repA
  rw [ok_same hs]
  by_cases h : okA s = true
  · rw [if_pos h, if_pos h]
    refine raw_same hs ?_
    unfold okA at h
    cases hb : badA s with
    | true => rw [hb] at h; cases h
    | false => rfl
  · rw [if_neg h, if_neg h]

/-! there -/
theorem nS_of {s : List UInt8} {k : Int} {p : Nat × Nat} (h : Num.getN s k = some p) : nS s k = p := by unfold nS; rw [h]; rfl
theorem tS_of {s : List UInt8} {k m : Int} {p : List UInt8 × Nat} (h : Num.getT s k m = some p) : tS s k m = p := by unfold tS; rw [h]; rfl
theorem pS_of {s : List UInt8} {k : Int} {p : List PD.T × Nat} (h : decPs s k = some p) : pS s k = p := by unfold pS; rw [h]; rfl
theorem u64_id {n : Int} (h0 : 0 ≤ n) (h1 : n ≤ 4611686018427387903) : ((u64 n : Nat) : Int) = n := by
  rw [u64_of h0 (by omega)]
  omega
theorem rdN_at {s : List UInt8} (p r : List UInt8) (n most : Int) (hs : s = p ++ Num.putN (u64 n) ++ r) (h0 : 0 ≤ n) (h1 : n ≤ most) (hm : most ≤ 4611686018427387903) : rdN s most ((p.length : Int), false) = (n, (((p ++ Num.putN (u64 n)).length : Nat) : Int), false) := by
  have hu := u64_id h0 (by omega)
  have hg := Num.getN_put (u64 n) p r (by omega)
  rw [← hs] at hg
  unfold rdN
  rw [nS_of hg, hg, if_neg]
  · dsimp only
    rw [hu, wr64 _ (by omega) (by omega), List.length_append]
    rfl
  · rintro (h | h | h)
    · cases h
    · cases h
    · dsimp only at h
      omega
theorem rdT_at {s : List UInt8} (p r t : List UInt8) (most : Int) (hs : s = p ++ Num.putT t ++ r) (h1 : (t.length : Int) ≤ most) (hm : most ≤ 4611686018427387903) : rdT s most ((p.length : Int), false) = (t, (((p ++ Num.putT t).length : Nat) : Int), false) := by
  have hg := Num.getT_put t p r most h1 (by omega)
  rw [← hs] at hg
  unfold rdT
  rw [tS_of hg, hg, if_neg]
  · dsimp only
    rw [List.length_append]
    rfl
  · rintro (h | h)
    · cases h
    · cases h
theorem rdP_at {s : List UInt8} (p r : List UInt8) {l : List PD.T} (hl : Wf (.list PD) l) (h : propsS l = true) (hs : s = p ++ encPs l ++ r) : rdP s ((p.length : Int), false) = (l, (((p ++ encPs l).length : Nat) : Int), false) := by
  have hg := decPs_enc hl h p r hs rfl
  unfold rdP
  rw [pS_of hg, hg, if_neg]
  · dsimp only
    rw [List.length_append]
    rfl
  · rintro (h | h)
    · cases h
    · cases h
theorem okId_out {n : Int} (h : okId n = true) : 0 ≤ n ∧ n ≤ 4611686018427387903 := by
  unfold okId at h
  rwa [Bool.and_eq_true, decide_eq_true_eq, decide_eq_true_eq] at h
theorem oneN_at {s : List UInt8} (p r : List UInt8) (n : ND.T) (hw : Wf ND n) (hg : goodN n = true) (hs : s = p ++ encN n ++ r) : oneN s ((p.length : Int), false) = (n, (((p ++ encN n).length : Nat) : Int), false) := by
  obtain ⟨i, t, l⟩ := n
  unfold goodN at hg
  simp only [Bool.and_eq_true] at hg
  obtain ⟨⟨g1, g2⟩, g3⟩ := hg
  obtain ⟨i0, i1⟩ := okId_out g1
  have e : encN (i, t, l) = Num.putN (u64 i) ++ Num.putT t ++ encPs l := rfl
  rw [e] at hs ⊢
  unfold oneN
  rw [rdN_at p (Num.putT t ++ encPs l ++ r) i mxI (by rw [hs]; simp only [List.append_assoc]) i0 i1 (by decide)]
  dsimp only
  rw [rdT_at (p ++ Num.putN (u64 i)) (encPs l ++ r) t 16 (by rw [hs]; simp only [List.append_assoc]) (by have : t.length ≤ 16 := nameS_len g2; omega) (by decide)]
  dsimp only
  rw [rdP_at (p ++ Num.putN (u64 i) ++ Num.putT t) r hw.2.2 g3 (by rw [hs]; simp only [List.append_assoc])]
  simp only [List.append_assoc]
theorem oneE_at {s : List UInt8} (p r : List UInt8) (n : ED.T) (hw : Wf ED n) (hg : goodE n = true) (hs : s = p ++ encE n ++ r) : oneE s ((p.length : Int), false) = (n, (((p ++ encE n).length : Nat) : Int), false) := by
  obtain ⟨i, t, a, b, l⟩ := n
  unfold goodE at hg
  simp only [Bool.and_eq_true] at hg
  obtain ⟨⟨⟨⟨g1, ga⟩, gb⟩, g2⟩, g3⟩ := hg
  obtain ⟨i0, i1⟩ := okId_out g1
  obtain ⟨a0, a1⟩ := okId_out ga
  obtain ⟨b0, b1⟩ := okId_out gb
  have e : encE (i, t, a, b, l) = Num.putN (u64 i) ++ Num.putT t ++ Num.putN (u64 a) ++ Num.putN (u64 b) ++ encPs l := rfl
  rw [e] at hs ⊢
  unfold oneE
  rw [rdN_at p (Num.putT t ++ Num.putN (u64 a) ++ Num.putN (u64 b) ++ encPs l ++ r) i mxI (by rw [hs]; simp only [List.append_assoc]) i0 i1 (by decide)]
  dsimp only
  rw [rdT_at (p ++ Num.putN (u64 i)) (Num.putN (u64 a) ++ Num.putN (u64 b) ++ encPs l ++ r) t 16 (by rw [hs]; simp only [List.append_assoc]) (by have : t.length ≤ 16 := nameS_len g2; omega) (by decide)]
  dsimp only
  rw [rdN_at (p ++ Num.putN (u64 i) ++ Num.putT t) (Num.putN (u64 b) ++ encPs l ++ r) a mxI (by rw [hs]; simp only [List.append_assoc]) a0 a1 (by decide)]
  dsimp only
  rw [rdN_at (p ++ Num.putN (u64 i) ++ Num.putT t ++ Num.putN (u64 a)) (encPs l ++ r) b mxI (by rw [hs]; simp only [List.append_assoc]) b0 b1 (by decide)]
  dsimp only
  rw [rdP_at (p ++ Num.putN (u64 i) ++ Num.putT t ++ Num.putN (u64 a) ++ Num.putN (u64 b)) r hw.2.2.2.2 g3 (by rw [hs]; simp only [List.append_assoc])]
  simp only [List.append_assoc]
theorem oneI_at {s : List UInt8} (p r : List UInt8) (n : Int) (hg : okId n = true) (hs : s = p ++ encI n ++ r) : oneI s ((p.length : Int), false) = (n, (((p ++ encI n).length : Nat) : Int), false) :=
  rdN_at p r n mxI hs (okId_out hg).1 (okId_out hg).2 (by decide)
theorem lst_at {α : Type} {s : List UInt8} {one : Int × Bool → α × Int × Bool} {enc : α → List UInt8} : ∀ {l : List α} {acc : List α} (p r : List UInt8), (∀ x ∈ l, ∀ p r, s = p ++ enc x ++ r → one ((p.length : Int), false) = (x, (((p ++ enc x).length : Nat) : Int), false)) → s = p ++ flB enc l ++ r →
    lstA one l.length acc ((p.length : Int), false) = (acc ++ l, (((p ++ flB enc l).length : Nat) : Int), false)
  | [], acc, p, r, h1, hs => by
    show (acc, _) = _
    rw [List.append_nil, show flB enc [] = [] from rfl, List.append_nil]
  | x :: l, acc, p, r, h1, hs => by
    have e : flB enc (x :: l) = enc x ++ flB enc l := rfl
    rw [e] at hs ⊢
    have hx := h1 x (by simp) p (flB enc l ++ r) (by rw [hs]; simp only [List.append_assoc])
    show lstA one (l.length + 1) acc _ = _
    unfold lstA
    rw [if_neg (show ¬ (((p.length : Int), false) : Int × Bool).2 = true from fun h => by cases h), hx]
    dsimp only
    rw [lst_at (p ++ enc x) r (fun y hy => h1 y (by simp [hy])) (by rw [hs]; simp only [List.append_assoc])]
    simp only [List.append_assoc, List.singleton_append]
theorem list_at {α : Type} {s : List UInt8} {one : Int × Bool → α × Int × Bool} {enc : α → List UInt8} {l : List α} (p r : List UInt8) (h1 : ∀ x ∈ l, ∀ p r, s = p ++ enc x ++ r → one ((p.length : Int), false) = (x, (((p ++ enc x).length : Nat) : Int), false)) (hl : l.length ≤ 1024) (hs : s = p ++ Num.putN (u64 l.length) ++ flB enc l ++ r) :
    listA s one ((p.length : Int), false) = (l, (((p ++ Num.putN (u64 l.length) ++ flB enc l).length : Nat) : Int), false) := by
  unfold listA
  rw [rdN_at p (flB enc l ++ r) (l.length : Int) 1024 (by rw [hs]; simp only [List.append_assoc]) (by omega) (by omega) (by decide)]
  dsimp only
  rw [Int.toNat_natCast, lst_at (p ++ Num.putN (u64 l.length)) r h1 hs, List.nil_append]
theorem empty_C0 {c : CD.T} (h : emptyC c = true) : c = C0 ∧ encCS c = [] := by
  unfold emptyC at h
  rw [Bool.and_eq_true, decide_eq_true_eq, decide_eq_true_eq] at h
  obtain ⟨l1, l2, rs, is, nx⟩ := c
  obtain ⟨h1, h2⟩ := h
  have h1 : nx = 0 := h1
  subst h1
  have h2 : l1.length + l2.length + rs.length + is.length = 0 := h2
  cases l1 with
  | cons _ _ => rw [List.length_cons] at h2; omega
  | nil =>
  cases l2 with
  | cons _ _ => rw [List.length_cons] at h2; omega
  | nil =>
  cases rs with
  | cons _ _ => rw [List.length_cons] at h2; omega
  | nil =>
  cases is with
  | cons _ _ => rw [List.length_cons] at h2; omega
  | nil => exact ⟨rfl, by rfl⟩
theorem encCS_C0 : encCS C0 = [] := by rfl
theorem catB_ne (c : CD.T) : catB' c ≠ [] := by
  intro h
  have : Num.putN (Int.toNat c.2.2.2.2) = [] := by
    unfold catB' at h
    exact (List.append_eq_nil_iff.1 h).2
  rw [Num.putN] at this
  split at this <;> cases this
theorem cat_at {c : CD.T} (h : (emptyC c || goodC c) = true) : catOf (encCS c) = (c, false) := by
  unfold catOf
  by_cases g : goodC c = true
  · have e : encCS c = catB' c := if_pos g
    rw [if_neg (by rw [e]; exact catB_ne c), decCS, decCE, dec_enc g]
    rfl
  · rw [Bool.or_eq_true] at h
    have h := empty_C0 (h.resolve_right g)
    rw [h.2, if_pos rfl, h.1]
theorem rep_encA {r : AD.T} (hw : Wf AD r) (h : goodA r = true) : rawA (encA r) = r ∧ okA (encA r) = true := by
  have hg := goodA_out h
  obtain ⟨c, i, u, ns, es, is, k⟩ := r
  obtain ⟨w1, w2, w3, w4, w5, w6, w7⟩ := hw
  obtain ⟨c0, c1, gi, u0, u1, n1, n2, n3, g1, g2, g3, gk⟩ := hg
  dsimp only at c0 c1 gi u0 u1 n1 n2 n3 g1 g2 g3 gk
  obtain ⟨i0, i1⟩ := okId_out gi
  have gk : (emptyC k || goodC k) = true := gk
  generalize hs0 : encA (c, i, u, ns, es, is, k) = s
  have hs : Num.putN (u64 c) ++ Num.putN (u64 i) ++ Num.putN (u64 u) ++ Num.putN (u64 ns.length) ++ flB encN ns ++ Num.putN (u64 es.length) ++ flB encE es ++ Num.putN (u64 is.length) ++ flB (α := Int) encI is ++ Num.putT (encCS k) = s := hs0
  have x1 : qC s = (c, (((Num.putN (u64 c)).length : Nat) : Int), false) :=
    rdN_at (s := s) [] (Num.putN (u64 i) ++ Num.putN (u64 u) ++ Num.putN (u64 ns.length) ++ flB encN ns ++ Num.putN (u64 es.length) ++ flB encE es ++ Num.putN (u64 is.length) ++ flB (α := Int) encI is ++ Num.putT (encCS k)) c 1000 (by rw [← hs]; simp only [List.append_assoc, List.nil_append]) c0 c1 (by decide)
  have x2 : qI s = (i, (((Num.putN (u64 c) ++ Num.putN (u64 i)).length : Nat) : Int), false) := by
    unfold qI
    rw [x1]
    exact rdN_at (s := s) (Num.putN (u64 c)) (Num.putN (u64 u) ++ Num.putN (u64 ns.length) ++ flB encN ns ++ Num.putN (u64 es.length) ++ flB encE es ++ Num.putN (u64 is.length) ++ flB (α := Int) encI is ++ Num.putT (encCS k)) i mxI (by rw [← hs]; simp only [List.append_assoc]) i0 i1 (by decide)
  have x3 : qR s = (u, (((Num.putN (u64 c) ++ Num.putN (u64 i) ++ Num.putN (u64 u)).length : Nat) : Int), false) := by
    unfold qR
    rw [x2]
    exact rdN_at (s := s) (Num.putN (u64 c) ++ Num.putN (u64 i)) (Num.putN (u64 ns.length) ++ flB encN ns ++ Num.putN (u64 es.length) ++ flB encE es ++ Num.putN (u64 is.length) ++ flB (α := Int) encI is ++ Num.putT (encCS k)) u 1000000 (by rw [← hs]; simp only [List.append_assoc]) u0 u1 (by decide)
  have x4 : qN s = (ns, (((Num.putN (u64 c) ++ Num.putN (u64 i) ++ Num.putN (u64 u) ++ Num.putN (u64 ns.length) ++ flB encN ns).length : Nat) : Int), false) := by
    unfold qN
    rw [x3]
    exact list_at (s := s) (one := oneN s) (enc := encN) (Num.putN (u64 c) ++ Num.putN (u64 i) ++ Num.putN (u64 u)) (Num.putN (u64 es.length) ++ flB encE es ++ Num.putN (u64 is.length) ++ flB (α := Int) encI is ++ Num.putT (encCS k)) (fun x hx p r e => oneN_at p r x (w4.2 x hx) (g1 x hx) e) n1 (by rw [← hs]; simp only [List.append_assoc])
  have x5 : qE s = (es, (((Num.putN (u64 c) ++ Num.putN (u64 i) ++ Num.putN (u64 u) ++ Num.putN (u64 ns.length) ++ flB encN ns ++ Num.putN (u64 es.length) ++ flB encE es).length : Nat) : Int), false) := by
    unfold qE
    rw [x4]
    exact list_at (s := s) (one := oneE s) (enc := encE) (Num.putN (u64 c) ++ Num.putN (u64 i) ++ Num.putN (u64 u) ++ Num.putN (u64 ns.length) ++ flB encN ns) (Num.putN (u64 is.length) ++ flB (α := Int) encI is ++ Num.putT (encCS k)) (fun x hx p r e => oneE_at p r x (w5.2 x hx) (g2 x hx) e) n2 (by rw [← hs]; simp only [List.append_assoc])
  have x6 : qD s = (is, (((Num.putN (u64 c) ++ Num.putN (u64 i) ++ Num.putN (u64 u) ++ Num.putN (u64 ns.length) ++ flB encN ns ++ Num.putN (u64 es.length) ++ flB encE es ++ Num.putN (u64 is.length) ++ flB (α := Int) encI is).length : Nat) : Int), false) := by
    unfold qD
    rw [x5]
    exact list_at (s := s) (one := oneI s) (enc := encI) (l := is) (Num.putN (u64 c) ++ Num.putN (u64 i) ++ Num.putN (u64 u) ++ Num.putN (u64 ns.length) ++ flB encN ns ++ Num.putN (u64 es.length) ++ flB encE es) (Num.putT (encCS k)) (fun x hx p r e => oneI_at p r x (g3 x hx) e) n3 (by rw [← hs])
  have hbig : s.length ≤ 100000000 := by
    rw [← hs0]
    exact encA_len ⟨w1, w2, w3, w4, w5, w6, w7⟩ h
  have hlen : (encCS k).length ≤ s.length := by
    have e := congrArg List.length hs
    simp only [List.length_append, Num.putT] at e
    omega
  have x7 : qT s = (encCS k, ((s.length : Nat) : Int), false) := by
    unfold qT
    rw [x6]
    dsimp only
    rw [rdT_at (s := s) (Num.putN (u64 c) ++ Num.putN (u64 i) ++ Num.putN (u64 u) ++ Num.putN (u64 ns.length) ++ flB encN ns ++ Num.putN (u64 es.length) ++ flB encE es ++ Num.putN (u64 is.length) ++ flB (α := Int) encI is) [] (encCS k) s.length (by rw [← hs]; simp only [List.append_assoc, List.append_nil]) (by omega) (by omega)]
    rw [hs]
  have e : rawA s = (c, i, u, ns, es, is, k) := by
    unfold rawA
    rw [x1, x2, x3, x4, x5, x6, x7]
    dsimp only
    rw [cat_at gk]
  refine ⟨e, ?_⟩
  unfold okA badA
  rw [e, h, x7]
  dsimp only
  rw [cat_at gk]
  simp

/-! back -/
def cut (s : List UInt8) (q : Int × Bool) : List UInt8 := s.take q.1.toNat
theorem cut_add {s : List UInt8} {a : Int} {k : Nat} (h : 0 ≤ a) {X : List UInt8} (e : (s.drop a.toNat).take k = X) (b : Bool) : cut s (a + k, b) = s.take a.toNat ++ X := by
  unfold cut
  dsimp only
  rw [show (a + (k : Int)).toNat = a.toNat + k by omega, List.take_add, e]
theorem rdN_back {s : List UInt8} {m : Int} {q : Int × Bool} (hi : inS s q) (hm : m ≤ 4611686018427387903) (h : (rdN s m q).2.2 = false) : cut s (rdN s m q).2 = cut s q ++ Num.putN (u64 (rdN s m q).1) := by
  have hq := rdN_nb h
  unfold rdN at h ⊢
  split at h
  · cases h
  rename_i hc
  rw [if_neg hc]
  dsimp only
  obtain ⟨p, hp⟩ := Option.isSome_iff_exists.1 (not_false' fun h => hc (.inr (.inl h)))
  have hn : ¬ m < ((nS s q.1).1 : Int) := fun h => hc (.inr (.inr h))
  rw [nS_of hp] at hn ⊢
  have e : IntKind.wrap .i64 ((p.1 : Nat) : Int) = (p.1 : Int) := wr64 _ (by omega) (by omega)
  rw [e, u64_of (by omega) (by omega), Int.toNat_natCast, hq]
  exact cut_add hi.1 (Num.getN_take (m := p.1) (k := p.2) hp) _
theorem rdT_back {s : List UInt8} {m : Int} {q : Int × Bool} (hi : inS s q) (h : (rdT s m q).2.2 = false) : cut s (rdT s m q).2 = cut s q ++ Num.putT (rdT s m q).1 := by
  have hq := rdT_nb h
  unfold rdT at h ⊢
  split at h
  · cases h
  rename_i hc
  rw [if_neg hc]
  dsimp only
  obtain ⟨p, hp⟩ := Option.isSome_iff_exists.1 (not_false' fun h => hc (.inr h))
  rw [tS_of hp, hq]
  exact cut_add hi.1 (gtS_take (t := p.1) (i := p.2) hp _ rfl).1 _
theorem decPs_take' {s : List UInt8} {k : Int} (hk : 0 ≤ k) {l : List PD.T} {m : Nat} (h : decPs s k = some (l, m)) : (s.drop k.toNat).take m = encPs l := by
  unfold decPs at h
  cases g1 : Num.getN s k with
  | none => rw [g1] at h; cases h
  | some p1 =>
  rw [g1] at h; dsimp only at h
  split at h
  · cases h
  cases g2 : decL p1.1 s (k + p1.2) with
  | none => rw [g2] at h; cases h
  | some p2 =>
  rw [g2] at h; dsimp only at h
  split at h
  case isFalse => cases h
  rename_i hp
  simp only [Option.some.injEq, Prod.mk.injEq] at h
  obtain ⟨rfl, rfl⟩ := h
  have t1 := Num.getN_take (m := p1.1) (k := p1.2) g1
  have t2 := decL_take (l := p2.1) (m := p2.2) (by omega) g2
  rw [show (k + (p1.2 : Int)).toNat = k.toNat + p1.2 by omega] at t2
  unfold encPs
  rw [if_pos hp, List.take_add, List.drop_drop, t1, t2.1, t2.2.1]
theorem rdP_back {s : List UInt8} {q : Int × Bool} (hi : inS s q) (h : (rdP s q).2.2 = false) : cut s (rdP s q).2 = cut s q ++ encPs (rdP s q).1 := by
  have hq := rdP_nb h
  unfold rdP at h ⊢
  split at h
  · cases h
  rename_i hc
  rw [if_neg hc]
  dsimp only
  obtain ⟨p, hp⟩ := Option.isSome_iff_exists.1 (not_false' fun h => hc (.inr h))
  rw [pS_of hp, hq]
  exact cut_add hi.1 (decPs_take' hi.1 (l := p.1) (m := p.2) hp) _
theorem oneN_back {s : List UInt8} {q : Int × Bool} (hi : inS s q) (h : (oneN s q).2.2 = false) : cut s (oneN s q).2 = cut s q ++ encN (oneN s q).1 := by
  have h : (rdP s (rdT s 16 (rdN s mxI q).2).2).2.2 = false := h
  have b2 := rdP_nb h
  have b1 := rdT_nb b2
  show cut s (rdP s (rdT s 16 (rdN s mxI q).2).2).2 = _
  rw [rdP_back (rdT_in (rdN_in hi)) h, rdT_back (rdN_in hi) b2, rdN_back hi (by decide) b1]
  show _ = cut s q ++ (Num.putN (u64 (rdN s mxI q).1) ++ Num.putT (rdT s 16 (rdN s mxI q).2).1 ++ encPs (rdP s (rdT s 16 (rdN s mxI q).2).2).1)
  simp only [List.append_assoc]
theorem oneE_back {s : List UInt8} {q : Int × Bool} (hi : inS s q) (h : (oneE s q).2.2 = false) : cut s (oneE s q).2 = cut s q ++ encE (oneE s q).1 := by
  have h : (rdP s (rdN s mxI (rdN s mxI (rdT s 16 (rdN s mxI q).2).2).2).2).2.2 = false := h
  have b4 := rdP_nb h
  have b3 := rdN_nb b4
  have b2 := rdN_nb b3
  have b1 := rdT_nb b2
  have i1 := rdN_in (most := mxI) hi
  have i2 := rdT_in (most := 16) i1
  have i3 := rdN_in (most := mxI) i2
  have i4 := rdN_in (most := mxI) i3
  show cut s (rdP s (rdN s mxI (rdN s mxI (rdT s 16 (rdN s mxI q).2).2).2).2).2 = _
  rw [rdP_back i4 h, rdN_back i3 (by decide) b4, rdN_back i2 (by decide) b3, rdT_back i1 b2, rdN_back hi (by decide) b1]
  show _ = cut s q ++ (Num.putN (u64 (rdN s mxI q).1) ++ Num.putT (rdT s 16 (rdN s mxI q).2).1 ++ Num.putN (u64 (rdN s mxI (rdT s 16 (rdN s mxI q).2).2).1) ++ Num.putN (u64 (rdN s mxI (rdN s mxI (rdT s 16 (rdN s mxI q).2).2).2).1) ++ encPs (rdP s (rdN s mxI (rdN s mxI (rdT s 16 (rdN s mxI q).2).2).2).2).1)
  simp only [List.append_assoc]
theorem lst_back {α : Type} {s : List UInt8} {one : Int × Bool → α × Int × Bool} {enc : α → List UInt8} (hn : ∀ q, (one q).2.2 = false → q.2 = false) (hin : ∀ q, inS s q → inS s (one q).2) (hb : ∀ q, inS s q → (one q).2.2 = false → cut s (one q).2 = cut s q ++ enc (one q).1) : ∀ {n : Nat} {acc : List α} {q : Int × Bool}, inS s q → (lstA one n acc q).2.2 = false →
    ∃ l, (lstA one n acc q).1 = acc ++ l ∧ l.length = n ∧ cut s (lstA one n acc q).2 = cut s q ++ flB enc l
  | 0, acc, q, hi, h => ⟨[], by rw [List.append_nil]; rfl, rfl, by rw [show flB enc [] = [] from rfl, List.append_nil]; rfl⟩
  | n + 1, acc, q, hi, h => by
    unfold lstA at h ⊢
    by_cases hq : q.2 = true
    · rw [if_pos hq] at h
      have h : q.2 = false := h
      rw [hq] at h; cases h
    · rw [if_neg hq] at h ⊢
      have h1 := lstA_nb hn h
      obtain ⟨l, e1, e2, e3⟩ := lst_back hn hin hb (hin q hi) h
      refine ⟨(one q).1 :: l, by rw [e1]; simp only [List.append_assoc, List.singleton_append], by rw [List.length_cons, e2], ?_⟩
      rw [e3, hb q hi h1, show flB enc ((one q).1 :: l) = enc (one q).1 ++ flB enc l from rfl]
      simp only [List.append_assoc]
theorem list_back {α : Type} {s : List UInt8} {one : Int × Bool → α × Int × Bool} {enc : α → List UInt8} (hn : ∀ q, (one q).2.2 = false → q.2 = false) (hin : ∀ q, inS s q → inS s (one q).2) (hb : ∀ q, inS s q → (one q).2.2 = false → cut s (one q).2 = cut s q ++ enc (one q).1) {q : Int × Bool} (hi : inS s q) (h : (listA s one q).2.2 = false) :
    cut s (listA s one q).2 = cut s q ++ Num.putN (u64 (listA s one q).1.length) ++ flB enc (listA s one q).1 := by
  have hv := rdN_val s q (most := 1024) (by decide) (by decide)
  unfold listA at h ⊢
  obtain ⟨l, e1, e2, e3⟩ := lst_back hn hin hb (rdN_in hi) h
  rw [e3, e1, List.nil_append, e2, rdN_back hi (by decide) (lstA_nb hn h)]
  rw [show (((rdN s 1024 q).1.toNat : Nat) : Int) = (rdN s 1024 q).1 by omega]
theorem cat_back {t : List UInt8} (h : (catOf t).2 = false) : encCS (catOf t).1 = t := by
  unfold catOf at h ⊢
  by_cases ht : t = []
  · rw [if_pos ht, ht]
    exact encCS_C0
  · rw [if_neg ht] at h ⊢
    dsimp only at h ⊢
    cases hd : decO t with
    | none => rw [decCE, hd] at h; cases h
    | some d =>
      rw [decCS, hd]
      obtain ⟨g1, g2⟩ := enc_dec hd
      show encCS d = t
      rw [show encCS d = catB' d from if_pos g1, g2]
theorem enc_repA {s : List UInt8} (h : okA s = true) : goodA (rawA s) = true ∧ encA (rawA s) = s := by
  unfold okA badA at h
  simp only [Bool.and_eq_true, Bool.not_eq_true', Bool.or_eq_false_iff, decide_eq_true_eq] at h
  obtain ⟨⟨hT, hc⟩, hl, hg⟩ := h
  refine ⟨hg, ?_⟩
  have hD : (qD s).2.2 = false := rdT_nb hT
  have hE : (qE s).2.2 = false := listA_nb (fun _ => oneI_nb) hD
  have hN : (qN s).2.2 = false := listA_nb (fun _ => oneE_nb) hE
  have hR : (qR s).2.2 = false := listA_nb (fun _ => oneN_nb) hN
  have hI : (qI s).2.2 = false := rdN_nb hR
  have hC : (qC s).2.2 = false := rdN_nb hI
  have e1 : cut s (qC s).2 = Num.putN (u64 (qC s).1) := rdN_back (in0 s) (by decide) hC
  have e2 : cut s (qI s).2 = cut s (qC s).2 ++ Num.putN (u64 (qI s).1) := rdN_back (inC s) (by decide) hI
  have e3 : cut s (qR s).2 = cut s (qI s).2 ++ Num.putN (u64 (qR s).1) := rdN_back (inI s) (by decide) hR
  have e4 : cut s (qN s).2 = cut s (qR s).2 ++ Num.putN (u64 (qN s).1.length) ++ flB encN (qN s).1 := list_back (fun _ => oneN_nb) (fun _ h => oneN_in h) (fun _ => oneN_back) (inR s) hN
  have e5 : cut s (qE s).2 = cut s (qN s).2 ++ Num.putN (u64 (qE s).1.length) ++ flB encE (qE s).1 := list_back (fun _ => oneE_nb) (fun _ h => oneE_in h) (fun _ => oneE_back) (inN s) hE
  have e6 : cut s (qD s).2 = cut s (qE s).2 ++ Num.putN (u64 (qD s).1.length) ++ flB (α := Int) encI (qD s).1 := list_back (one := oneI s) (enc := encI) (fun _ => oneI_nb) (fun _ h => oneI_in h) (fun q hi h => rdN_back (m := mxI) hi (by decide) h) (inE s) hD
  have e7 : cut s (qT s).2 = cut s (qD s).2 ++ Num.putT (qT s).1 := rdT_back (inD s) hT
  have e8 : cut s (qT s).2 = s := by
    unfold cut
    rw [hl, Int.toNat_natCast, List.take_length]
  have e9 : encCS (aC (rawA s)) = (qT s).1 := cat_back hc
  rw [e8, e6, e5, e4, e3, e2, e1] at e7
  unfold encA enc6 enc5 enc4
  rw [e9]
  exact e7.symm
end Go.Proofs.Ytnldokebmfojeaa
/- The walks of answer.lacks, Next, and of the reference's Next at the length of a reply. Own work. -/
set_option linter.unusedVariables false
set_option maxRecDepth 100000
namespace Go.Proofs.Ytnldokebmfojeaa
open Go Go.RowKit OE

/-- may bytes become a message's length? -/
def lackA (s : List UInt8) : Bool := decide (s.length ≤ 3) && s.all fun c => decide (128 ≤ c.toNat)
theorem all_lt {s : List UInt8} {i : Nat} (h : i < s.length) (hb : s[i].toNat < 128) : lackA s = false := by
  unfold lackA
  rw [Bool.and_eq_false_iff]
  right
  rw [List.all_eq_false]
  exact ⟨s[i], List.getElem_mem h, by simp; omega⟩
theorem all_ge {s : List UInt8} {i : Nat} (hi : s.length ≤ i) (h : ∀ j (hj : j < s.length), j < i → 128 ≤ s[j].toNat) (h3 : s.length ≤ 3) : lackA s = true := by
  unfold lackA
  rw [Bool.and_eq_true, decide_eq_true_eq, List.all_eq_true]
  refine ⟨h3, fun c hc => ?_⟩
  obtain ⟨j, hj, rfl⟩ := List.mem_iff_getElem.1 hc
  simpa using h j hj (by omega)
theorem long_no {s : List UInt8} (h : 3 < s.length) : lackA s = false := by
  unfold lackA
  rw [decide_eq_false (by omega)]; rfl
theorem pow_le3 {i : Nat} (h : i ≤ 3) : 128 ^ i ≤ 2097152 := Nat.pow_le_pow_right (n := 128) (by decide) h
theorem ans_lacks (s : List UInt8) (hs : s.length ≤ 100000000) : FnD Try.prog 44 [.c (.str s)] (· = .c (.bool (.sym (lackA s)))) := by
  refine fn0 Try.func44 rfl rfl rfl ?_
  conv => whnf
  refine loop0 (α := Nat × Nat) (fun p => p.1 ≤ 3 ∧ p.2 < 128 ^ p.1 ∧ p.1 ≤ s.length ∧ ∀ j (hj : j < s.length), j < p.1 → 128 ≤ s[j].toNat)
    (fun p => ⟨[(0, .c (.str s)), (3, .c (.int .u64 p.2)), (6, .c (.int .i64 s.length)), (7, .c (.int .i64 p.1))], [], 0⟩) (fun p => 4 - p.1) ⟨(0, 0), ⟨by dsimp only; omega, by decide, Nat.zero_le _, fun _ _ h => by cases h⟩, ?_⟩ ?_
  · (conv => whnf); refine ⟨rfl, ?_, ?_, ?_⟩ <;> (repeat' apply And.intro) <;> first | exact trivial | rfl | exact wr_succ _ (by omega) | assumption | exact decide_eq_false (by assumption) | exact decide_eq_true (by assumption)
  rintro ⟨i, n⟩ ⟨hI1, hI2, hI3, hI4⟩
  dsimp only at hI1 hI2 hI3 hI4 ⊢
  conv => whnf
  refine ⟨fun h4 => ?_, fun h4 => ?_⟩
  · have h4 : i < s.length := by rw [decide_eq_true_eq] at h4; omega
    have hb : bt s (i : Int) = ((s[i]).toNat : Int) := bt_nat s i h4
    conv => whnf
    refine ⟨by omega, ?_⟩
    conv => whnf
    rw [hb]
    refine ⟨fun h5 => ?_, fun h5 => ?_⟩
    · have h6 : s[i].toNat < 128 := by
        rw [Bool.or_eq_true, decide_eq_true_eq, decide_eq_true_eq] at h5
        omega
      rw [all_lt h4 h6]
      conv => whnf
    have h6 : 128 ≤ s[i].toNat := by
      rw [Bool.or_eq_false_iff, decide_eq_false_iff_not, decide_eq_false_iff_not] at h5
      omega
    have hc := (s[i]).toNat_lt
    have hg := get_bits n s[i].toNat i hI2 (by omega) hc (by omega)
    have e7 : IntKind.wrap .i64 (7 * (i : Int)) = ((7 * i : Nat) : Int) := by rw [wr64 _ (by omega) (by omega)]; omega
    have e8 : IntKind.wrap .i64 (IntKind.wrap .i64 (7 * (i : Int)) + 7) = ((7 * i + 7 : Nat) : Int) := by rw [e7, wr64 _ (by omega) (by omega)]; omega
    conv => whnf
    refine ⟨by omega, ?_⟩
    conv => whnf
    rw [hb]
    refine ⟨by rw [e7]; omega, ?_⟩
    conv => whnf
    refine ⟨by rw [e8]; omega, ?_⟩
    conv => whnf
    rw [hg, e8]
    have hpw := pow_le3 hI1
    have hp7 : (2 : Nat) ^ (7 * i + 7) = 128 ^ i * 128 := by rw [Nat.pow_add, Nat.pow_mul]
    have hle : s[i].toNat % 128 * 128 ^ i ≤ 127 * 128 ^ i := Nat.mul_le_mul_right _ (by omega)
    have hT : IntKind.wrap .u64 (((n + s[i].toNat % 128 * 128 ^ i : Nat) : Int) + IntKind.wrap .u64 (1 * 2 ^ min (((7 * i + 7 : Nat) : Int)).toNat IntKind.u64.bits)) = ((n + s[i].toNat % 128 * 128 ^ i + 128 ^ i * 128 : Nat) : Int) := by
      have hm : min (((7 * i + 7 : Nat) : Int)).toNat IntKind.u64.bits = 7 * i + 7 := by
        show min (7 * i + 7) 64 = _
        omega
      rw [hm]
      have e : (1 : Int) * 2 ^ (7 * i + 7) = ((128 ^ i * 128 : Nat) : Int) := by rw [← hp7, Int.one_mul, Int.natCast_pow]; rfl
      rw [e, wru64 ((128 ^ i * 128 : Nat) : Int) (by omega) (by omega), wru64 _ (by omega) (by omega)]
      omega
    rw [hT]
    have h3 : i = 3 ∧ 128 ^ i = 2097152 ∨ i ≤ 2 ∧ 128 ^ i ≤ 16384 := by
      rcases Nat.lt_or_ge i 3 with h | h
      · have h' : i ≤ 2 := by omega
        have hp : 128 ^ i ≤ 128 ^ 2 := Nat.pow_le_pow_right (by decide) h'
        exact .inr ⟨h', Nat.le_trans hp (by decide)⟩
      · have : i = 3 := by omega
        subst this
        exact .inl ⟨rfl, rfl⟩
    refine ⟨fun h7 => ?_, fun h7 => ?_⟩
    · have h7 : 16777216 ≤ n + s[i].toNat % 128 * 128 ^ i + 128 ^ i * 128 := by rw [decide_eq_true_eq] at h7; omega
      rw [long_no (s := s) (by omega)]
      conv => whnf
    have h7 : ¬ 16777216 ≤ n + s[i].toNat % 128 * 128 ^ i + 128 ^ i * 128 := by rw [decide_eq_false_iff_not] at h7; omega
    conv => whnf
    refine ⟨(i + 1, n + s[i].toNat % 128 * 128 ^ i), ⟨⟨by dsimp only; omega, by dsimp only; rw [Nat.pow_succ]; omega, by dsimp only; omega, fun j hj hji => ?_⟩, by dsimp only; omega⟩, ?_⟩
    · dsimp only at hji
      rcases Nat.lt_or_ge j i with h | h
      · exact hI4 j hj h
      · have : j = i := by omega
        subst this
        exact h6
    (conv => whnf); refine ⟨rfl, ?_, ?_, ?_⟩ <;> (repeat' apply And.intro) <;> first | exact trivial | rfl | exact wr_succ _ (by omega) | assumption | exact decide_eq_false (by assumption) | exact decide_eq_true (by assumption)
  · have h4 : s.length ≤ i := by rw [decide_eq_false_iff_not] at h4; omega
    rw [all_ge h4 (fun j hj h => hI4 j hj h) (by omega)]
    conv => whnf
/-- the message with which bytes begin: its body, its size, an error -/
def nextA (s : List UInt8) : List UInt8 × Int × Int :=
  if (Num.getN s 0).isSome = false ∧ lackA s = true then ([], 0, 0)
  else if (Num.getN s 0).isSome = false ∨ (16777216 : Int) ≤ (nS s 0).1 then ([], 0, 11)
  else if s.length < (nS s 0).1 + (nS s 0).2 then ([], 0, 0)
  else ((s.drop (nS s 0).2).take (nS s 0).1, ((nS s 0).2 + (nS s 0).1 : Nat), 0)
theorem ans_Next (s : List UInt8) (hs : s.length ≤ 100000000) : FnD Try.prog 13 [.c (.str s)] (· = .tup [(false, [.str (nextA s).1]), (false, [.int .i64 (nextA s).2.1]), (false, [.int .i64 (nextA s).2.2])]) := by
  refine fn0 Try.func13 rfl rfl rfl ?_
  conv => whnf
  refine call1 (num_Get s 0 (Nat.le_trans hs (by decide))) rfl ?_
  conv => whnf
  refine callg0 (fun _ => ans_lacks s hs) rfl ?_
  conv => whnf
  refine ⟨fun a => ?_, fun a => ?_⟩
  · rw [show nextA s = ([], 0, 0) from if_pos (by simpa using a)]
    conv => whnf
  have a : ¬ ((Num.getN s 0).isSome = false ∧ lackA s = true) := fun h => by rw [h.1, h.2] at a; cases a
  conv => whnf
  refine ⟨fun b => ?_, fun b => ?_⟩
  · rw [show nextA s = ([], 0, 11) by
      unfold nextA; rw [if_neg a, if_pos]
      rw [Bool.or_eq_true, decide_eq_true_eq, Bool.not_eq_true'] at b
      exact b]
    conv => whnf
  have b' : ¬ ((Num.getN s 0).isSome = false ∨ (16777216 : Int) ≤ (nS s 0).1) := by
    rw [Bool.or_eq_false_iff, decide_eq_false_iff_not, Bool.not_eq_false'] at b
    rintro (h | h)
    · rw [b.1] at h; cases h
    · exact b.2 h
  have b1 : (nS s 0).1 < 16777216 := by
    have : ¬ (16777216 : Int) ≤ (nS s 0).1 := fun h => b' (.inr h)
    omega
  have b2 : (nS s 0).2 ≤ s.length := by
    have := nS_bd (s := s) (k := 0) (by
      cases h : (Num.getN s 0).isSome with
      | true => rfl
      | false => exact (b' (.inl h)).elim)
    omega
  clear b
  conv => whnf
  rw [show ((Num.getN s 0).getD (0, 0)) = nS s 0 from rfl]
  generalize hn : nS s 0 = p at b1 b2 b'
  rw [wr64 ((s.length : Int) - (p.2 : Int)) (by omega) (by omega), wru64 ((s.length : Int) - (p.2 : Int)) (by omega) (by omega)]
  refine ⟨fun c => ?_, fun c => ?_⟩
  · rw [show nextA s = ([], 0, 0) by
      unfold nextA; rw [if_neg a, hn, if_neg b', if_pos (by simp at c; omega)]]
    conv => whnf
  have c : p.1 + p.2 ≤ s.length := by simp at c; omega
  rw [show nextA s = ((s.drop p.2).take p.1, ((p.2 + p.1 : Nat) : Int), 0) by
    unfold nextA; rw [if_neg a, hn, if_neg b', if_neg (by omega)]]
  conv => whnf
  have hw : IntKind.wrap .i64 ((p.2 : Int) + IntKind.wrap .i64 (p.1 : Int)) = ((p.2 + p.1 : Nat) : Int) := by
    rw [wr64 (p.1 : Int) (by omega) (by omega), wr64 _ (by omega) (by omega)]; omega
  rw [hw]
  refine ⟨⟨⟨by omega, by omega⟩, by omega, by omega⟩, ?_⟩
  conv => whnf
  rw [Int.toNat_natCast, Int.toNat_natCast, List.drop_take, show p.2 + p.1 - p.2 = p.1 by omega]
end Go.Proofs.Ytnldokebmfojeaa
/- The walks of hedgerowkeep.Longs, Reply, of the law's Large and copied. Own work. -/
set_option linter.unusedVariables false
set_option maxRecDepth 100000
namespace Go.Proofs.Ytnldokebmfojeaa
open Go Go.RowKit OE

theorem keep_Longs (a b : List LD.T) : FnD Try.prog 34 [.c (.dat LD a), .c (.dat LD b)] (· = .c (.bool (.sym (eqL LD.eqb a b)))) := by
  refine fn0 Try.func34 rfl rfl rfl ?_
  conv => whnf
  intro ha
  conv => whnf
  intro hb
  refine ⟨fun h1 => ?_, fun h1 => ?_⟩
  · conv => whnf
    rw [eqL_len (by simp at h1; omega)]
  have h1 : a.length = b.length := by simp at h1; omega
  conv => whnf
  refine loop0 (α := Nat) (fun i => i ≤ a.length ∧ eqL LD.eqb (a.drop i) (b.drop i) = eqL LD.eqb a b)
    (fun i => ⟨[(0, .c (.dat LD a)), (1, .c (.dat LD b)), (5, .c (.int .i64 i))], [], 0⟩) (fun i => a.length - i) ⟨0, ⟨by omega, rfl⟩, ?_⟩ ?_
  · (conv => whnf); refine ⟨rfl, ?_, ?_, ?_⟩ <;> (repeat' apply And.intro) <;> first | exact trivial | rfl | exact wr_succ _ (by omega) | assumption | exact decide_eq_false (by assumption) | exact decide_eq_true (by assumption)
  · rintro i ⟨hI1, hI2⟩
    conv => whnf
    intro _
    refine ⟨fun h2 => ?_, fun h2 => ?_⟩
    · have h2 : i < a.length := by simp at h2; omega
      conv => whnf
      have hb2 : i < b.length := by omega
      rw [eqL_step h2 hb2] at hI2
      refine any0 ?_
      conv => whnf
      try (intro _; conv => whnf)
      refine ⟨by omega, ?_⟩
      rw [gt_nat (d := LD) a i h2]
      conv => whnf
      try (intro _; conv => whnf)
      refine ⟨by omega, ?_⟩
      rw [gt_nat (d := LD) b i hb2]
      conv => whnf
      refine ⟨.inl (by kernel_rfl), after0 ?_⟩
      conv => whnf
      refine ⟨fun h4 => ?_, fun h4 => ?_⟩
      · conv => whnf
        have : LD.eqb a[i] b[i] = false := by simpa [D.eqb] using h4
        simp only [← hI2, this, Bool.false_and]
      · conv => whnf
        have : LD.eqb a[i] b[i] = true := by simpa [D.eqb] using h4
        refine ⟨i + 1, ⟨⟨by omega, ?_⟩, by omega⟩, ?_⟩
        · rw [← hI2, this]; simp
        · (conv => whnf); refine ⟨rfl, ?_, ?_, ?_⟩ <;> (repeat' apply And.intro) <;> first | exact trivial | rfl | exact wr_succ _ (by omega) | assumption | exact decide_eq_false (by assumption) | exact decide_eq_true (by assumption)
    · conv => whnf
      rw [← hI2, eqL_end (by simp at h2; omega) (by simp at h2; omega)]
theorem keep_Reply (a b : AD.T) : FnD Try.prog 9 [.agg (ac a), .agg (ac b)] (· = .c (.bool (.sym (AD.eqb a b)))) := by
  refine fn0 Try.func9 rfl rfl rfl ?_
  conv => whnf
  refine callg0 (fun _ => keep_Nodes a.2.2.2.1 b.2.2.2.1) rfl ?_
  conv => whnf
  refine callg0 (fun _ => keep_Edges a.2.2.2.2.1 b.2.2.2.2.1) rfl ?_
  conv => whnf
  refine callg0 (fun _ => keep_Longs a.2.2.2.2.2.1 b.2.2.2.2.2.1) rfl ?_
  conv => whnf
  refine callg0 (fun _ => keep_Cats (aC a) (aC b)) rfl ?_
  conv => whnf
  rw [show AD.eqb a b = (decide (a.1 = b.1) && (decide (a.2.1 = b.2.1) && (decide (a.2.2.1 = b.2.2.1) && (eqL ND.eqb a.2.2.2.1 b.2.2.2.1 && (eqL ED.eqb a.2.2.2.2.1 b.2.2.2.2.1 && (eqL LD.eqb a.2.2.2.2.2.1 b.2.2.2.2.2.1 && CD.eqb (aC a) (aC b))))))) from rfl]
  simp only [Bool.and_assoc]
theorem eqA_same (r : AD.T) : AD.eqb r r = true := (D.eqb_iff AD r r).2 rfl
def largeA (r : AD.T) : Bool := largeGraph r.2.2.2.1 r.2.2.2.2.1 || decide ((3000 : Int) < r.2.2.2.2.2.1.length) || largeCat (aC r)
theorem law_Large (r : AD.T) : FnD Try.prog 4 [.agg (ac r)] (· = .c (.bool (.sym (largeA r)))) := by
  refine fn0 Try.func4 rfl rfl rfl ?_
  conv => whnf
  refine call1 (keep_LargeGraph r.2.2.2.1 r.2.2.2.2.1) rfl ?_
  conv => whnf
  intro _
  conv => whnf
  refine callg0 (fun _ => keep_LargeCat (aC r)) rfl ?_
  conv => whnf
  rfl
/-- what of a reply is small -/
structure SmallA (r : AD.T) : Prop where
  n : r.2.2.2.1.length ≤ 300
  e : r.2.2.2.2.1.length ≤ 300
  i : r.2.2.2.2.2.1.length ≤ 3000
  c1 : (aC r).1.length ≤ 1000
  c2 : (aC r).2.1.length ≤ 1000
  c3 : (aC r).2.2.1.length ≤ 1000
  c4 : (aC r).2.2.2.1.length ≤ 1000
  pn : ∀ x ∈ r.2.2.2.1, x.2.2.length ≤ 60
  pe : ∀ x ∈ r.2.2.2.2.1, x.2.2.2.2.length ≤ 60
theorem smallA {r : AD.T} (h : largeA r = false) : SmallA r := by
  unfold largeA largeGraph largeCat at h
  simp only [Bool.or_eq_false_iff, decide_eq_false_iff_not, List.any_eq_false] at h
  obtain ⟨⟨⟨⟨h1, h2⟩, h3, h4⟩, h5⟩, ⟨⟨⟨h6, h7⟩, h8⟩, h9⟩, _⟩ := h
  refine ⟨by omega, by omega, by omega, by omega, by omega, by omega, by omega, fun x hx => ?_, fun x hx => ?_⟩
  · have := h3 x hx
    simp only [largeN, largeProps, Bool.or_eq_true, not_or, decide_eq_true_eq] at this
    omega
  · have := h4 x hx
    simp only [largeE, largeProps, Bool.or_eq_true, not_or, decide_eq_true_eq] at this
    omega
theorem law_copied (r : AD.T) (h : SmallA r) : FnD Try.prog 7 [.agg (ac r)] (· = .agg (ac r)) := by
  refine fn0 Try.func7 rfl rfl rfl ?_
  conv => whnf
  refine any0 ?_
  conv => whnf
  refine callr0 (keep_CopyNodes r.2.2.2.1 (by have := h.n; omega) (fun n hn => by have := h.pn n hn; omega)) rfl ?_
  conv => whnf
  refine callr0 (keep_CopyEdges r.2.2.2.2.1 (by have := h.e; omega) (fun n hn => by have := h.pe n hn; omega)) rfl ?_
  conv => whnf
  refine ⟨.inl (by kernel_rfl), after0 ?_⟩
  conv => whnf
  have hi := h.i
  refine ⟨by show (0 + r.2.2.2.2.2.1.length) * 8 ≤ 140737488355328; omega, ?_⟩
  conv => whnf
  refine fzc 13 rfl ?_
  conv => whnf
  refine call1 (keep_CopyCat (aC r) h.c1 h.c2 h.c3 h.c4) rfl ?_
  conv => whnf
  rfl
end Go.Proofs.Ytnldokebmfojeaa
/- The walk of the law's wakes. Own work. -/
set_option linter.unusedVariables false
set_option maxRecDepth 100000
namespace Go.Proofs.Ytnldokebmfojeaa
open Go Go.RowKit OE

def rK (n : Int) : AD.T := (n, 0, 0, [], [], [], C0)
theorem rK_wf (n : Int) (h0 : 0 ≤ n) (h1 : n ≤ 1000000) : Wf AD (rK n) :=
  ⟨lit_ok n h0 h1, lit_ok 0 (by decide) (by decide), lit_ok 0 (by decide) (by decide), ⟨Nat.zero_le _, fun _ h => by cases h⟩, ⟨Nat.zero_le _, fun _ h => by cases h⟩, ⟨Nat.zero_le _, fun _ h => by cases h⟩, (catOf_wf []).1⟩
theorem rK60 : goodA (rK 60) = true := by rfl
theorem rK_enc : encA (rK 60) = [60, 0, 0, 0, 0, 0, 0] := by
  have h : encA (rK 60) = Num.putN 60 ++ Num.putN 0 ++ Num.putN 0 ++ Num.putN 0 ++ [] ++ Num.putN 0 ++ [] ++ Num.putN 0 ++ [] ++ (Num.putN 0 ++ []) := by rfl
  rw [h, Num.putN_lt (n := 60) (by decide), Num.putN_lt (n := 0) (by decide)]
  rfl
theorem nilReply {w : World} {ok : Nat → Prop} {n : Int} (v : Value) (h : RS (DX w ok) (.agg [.int .i64 n, .int .i64 0, .int .i64 0, .val (.slice none 0 0), .val (.slice none 0 0), .val (.slice none 0 0), .val (.slice none 0 0), .val (.slice none 0 0), .val (.slice none 0 0), .val (.slice none 0 0), .int .i64 0]) v) : RS (DX w ok) (.agg (ac (rK n))) v := by
  obtain ⟨vs, e, hl⟩ := h
  refine ⟨vs, e, ?_⟩
  generalize vs.toList = m at hl
  match m, hl with
  | [a, b, c, d, e, f, g, h, i, j, k], ⟨h1, h2, h3, h4, h5, h6, h7, h8, h9, h10, h11, _⟩ => exact ⟨h1, h2, h3, nilC h4, nilC h5, nilC h6, nilC h7, nilC h8, nilC h9, nilC h10, h11, trivial⟩
theorem rK_next : nextA (7 :: [60, 0, 0, 0, 0, 0, 0]) = ([60, 0, 0, 0, 0, 0, 0], 8, 0) := by rfl
theorem ans_wakes : FnD Try.prog 5 [] (· = .c (.bool (.sym true))) := by
  obtain ⟨d1, d2⟩ := rep_encA (rK_wf 60 (by decide) (by decide)) rK60
  have e1 : encAS (rK 60) = [60, 0, 0, 0, 0, 0, 0] := by rw [← rK_enc]; exact if_pos rK60
  have e2 : errA (rK 60) = 0 := if_pos rK60
  rw [rK_enc] at d1 d2
  refine fn0 Try.func5 rfl rfl rfl ?_
  conv => whnf
  refine call1 ((ans_Encode (rK 60) (rK_wf 60 (by decide) (by decide)) (by decide)).args fun w ok => ⟨nilReply, trivial⟩) rfl ?_
  conv => whnf
  rw [e1, e2]
  refine call1 (ans_Decode [60, 0, 0, 0, 0, 0, 0] (by decide)) rfl ?_
  conv => whnf
  rw [show repA [60, 0, 0, 0, 0, 0, 0] = rK 60 from (if_pos d2).trans d1, show repE [60, 0, 0, 0, 0, 0, 0] = 0 from if_pos d2]
  conv => whnf
  refine ⟨by decide, ?_⟩
  conv => whnf
  refine call1 (ans_Next (7 :: [60, 0, 0, 0, 0, 0, 0]) (by decide)) rfl ?_
  conv => whnf
  rw [rK_next]
  conv => whnf
  rfl
end Go.Proofs.Ytnldokebmfojeaa
