/- A catalog's bytes: what was encoded is decoded as it was, what was decoded is encoded as it stood; no program in sight. Own work. -/
import Derived.Test.YthpllblcbbkfdaaRuleTurn
import Derived.Test.YthpllblcbbkfdaaCatDecode
set_option linter.unusedVariables false
set_option maxRecDepth 100000
namespace Go.Proofs.Ythpllblcbbkfdaa
open Go Go.RowKit OE

theorem back1g (p q : List UInt8) (r : RD.T) (h : okS r = true) : decS (p ++ encS r ++ q) p.length = some (r, (encS r).length) := by
  obtain ⟨i0, i1, k0, k1, n0, n1, s0, s1, t0, t1, t2, t3⟩ := okR h
  have k1 : r.2.1 ≤ 1000000 := Int.le_trans k1 (by decide)
  have n1 : r.2.2.2.2.2.2.1 ≤ 1000000 := Int.le_trans n1 (by decide)
  have s1 : r.2.2.2.2.2.2.2 ≤ 1000000 := Int.le_trans s1 (by decide)
  have k0 : 0 ≤ r.2.1 := Int.le_trans (by decide) k0
  have e : encS r = bytS r := by unfold encS; rw [if_pos h]
  rw [e]
  have hd : decP (p ++ bytS r ++ q) p.length = some (r, (bytS r).length) := by
    obtain ⟨x1, x2, x3, x4, x5, x6, x7, x8⟩ := r
    dsimp only at *
    unfold bytS
    dsimp only
    have y1 := Int.toNat_of_nonneg i0
    have y2 := Int.toNat_of_nonneg k0
    have y7 := Int.toNat_of_nonneg n0
    have y8 := Int.toNat_of_nonneg s0
    generalize hS : (p ++ (Num.putN x1.toNat ++ Num.putN x2.toNat ++ Num.putN x8.toNat ++ Num.putN x7.toNat ++ Num.putT x3 ++ Num.putT x4 ++ Num.putT x5 ++ Num.putT x6) ++ q : List UInt8) = S
    have g1 := gnS_at (s := S) (k := (p.length : Int)) p x1.toNat (Num.putN x2.toNat ++ Num.putN x8.toNat ++ Num.putN x7.toNat ++ Num.putT x3 ++ Num.putT x4 ++ Num.putT x5 ++ Num.putT x6 ++ q) (toNat_le _ i1) (by rw [← hS]; simp only [List.append_assoc]) rfl
    have g2 := gnS_at (s := S) (k := (p.length : Int) + ((Num.putN x1.toNat).length : Int)) (p ++ Num.putN x1.toNat) x2.toNat (Num.putN x8.toNat ++ Num.putN x7.toNat ++ Num.putT x3 ++ Num.putT x4 ++ Num.putT x5 ++ Num.putT x6 ++ q) (toNat_le _ k1) (by rw [← hS]; simp only [List.append_assoc]) (by simp only [List.length_append]; omega)
    have g3 := gnS_at (s := S) (k := (p.length : Int) + ((Num.putN x1.toNat).length : Int) + ((Num.putN x2.toNat).length : Int)) (p ++ Num.putN x1.toNat ++ Num.putN x2.toNat) x8.toNat (Num.putN x7.toNat ++ Num.putT x3 ++ Num.putT x4 ++ Num.putT x5 ++ Num.putT x6 ++ q) (toNat_le _ s1) (by rw [← hS]; simp only [List.append_assoc]) (by simp only [List.length_append]; omega)
    have g4 := gnS_at (s := S) (k := (p.length : Int) + ((Num.putN x1.toNat).length : Int) + ((Num.putN x2.toNat).length : Int) + ((Num.putN x8.toNat).length : Int)) (p ++ Num.putN x1.toNat ++ Num.putN x2.toNat ++ Num.putN x8.toNat) x7.toNat (Num.putT x3 ++ Num.putT x4 ++ Num.putT x5 ++ Num.putT x6 ++ q) (toNat_le _ n1) (by rw [← hS]; simp only [List.append_assoc]) (by simp only [List.length_append]; omega)
    have g5 := gtS_at (s := S) (k := (p.length : Int) + ((Num.putN x1.toNat).length : Int) + ((Num.putN x2.toNat).length : Int) + ((Num.putN x8.toNat).length : Int) + ((Num.putN x7.toNat).length : Int)) (p ++ Num.putN x1.toNat ++ Num.putN x2.toNat ++ Num.putN x8.toNat ++ Num.putN x7.toNat) x3 (Num.putT x4 ++ Num.putT x5 ++ Num.putT x6 ++ q) t0 (by rw [← hS]; simp only [List.append_assoc]) (by simp only [List.length_append]; omega)
    have g6 := gtS_at (s := S) (k := (p.length : Int) + ((Num.putN x1.toNat).length : Int) + ((Num.putN x2.toNat).length : Int) + ((Num.putN x8.toNat).length : Int) + ((Num.putN x7.toNat).length : Int) + ((Num.putT x3).length : Int)) (p ++ Num.putN x1.toNat ++ Num.putN x2.toNat ++ Num.putN x8.toNat ++ Num.putN x7.toNat ++ Num.putT x3) x4 (Num.putT x5 ++ Num.putT x6 ++ q) t1 (by rw [← hS]; simp only [List.append_assoc]) (by simp only [List.length_append]; omega)
    have g7 := gtS_at (s := S) (k := (p.length : Int) + ((Num.putN x1.toNat).length : Int) + ((Num.putN x2.toNat).length : Int) + ((Num.putN x8.toNat).length : Int) + ((Num.putN x7.toNat).length : Int) + ((Num.putT x3).length : Int) + ((Num.putT x4).length : Int)) (p ++ Num.putN x1.toNat ++ Num.putN x2.toNat ++ Num.putN x8.toNat ++ Num.putN x7.toNat ++ Num.putT x3 ++ Num.putT x4) x5 (Num.putT x6 ++ q) t2 (by rw [← hS]; simp only [List.append_assoc]) (by simp only [List.length_append]; omega)
    have g8 := gtS_at (s := S) (k := (p.length : Int) + ((Num.putN x1.toNat).length : Int) + ((Num.putN x2.toNat).length : Int) + ((Num.putN x8.toNat).length : Int) + ((Num.putN x7.toNat).length : Int) + ((Num.putT x3).length : Int) + ((Num.putT x4).length : Int) + ((Num.putT x5).length : Int)) (p ++ Num.putN x1.toNat ++ Num.putN x2.toNat ++ Num.putN x8.toNat ++ Num.putN x7.toNat ++ Num.putT x3 ++ Num.putT x4 ++ Num.putT x5) x6 q t3 (by rw [← hS]; simp only [List.append_assoc]) (by simp only [List.length_append]; omega)
    simp only [decP, g1, g2, g3, g4, g5, g6, g7, g8, List.length_append]
    rw [y1, y2, y7, y8]
  simp only [decS, hd, h, if_true]

/-! there: what was encoded is decoded -/
theorem numK_at {s : List UInt8} {most a n : Nat} {K : Nat → Nat → Option CD.T} (p r : List UInt8) (hs : s = p ++ Num.putN n ++ r) (ha : a = p.length) (hn : n ≤ most) (hb : n ≤ 1000000) : numK s most a K = K n (p ++ Num.putN n).length := by
  unfold numK
  rw [hs, ha, Num.getN_put n p r (by omega)]
  dsimp only
  rw [if_pos hn, List.length_append]
theorem namK_at {s : List UInt8} {K : List SD.T → Nat → Option CD.T} : ∀ {l : List SD.T} {acc : List SD.T} {a : Nat} (p r : List UInt8), s = p ++ txtB l ++ r → a = p.length → (∀ t ∈ l, nameS t = true) → namK s l.length a acc K = K (acc ++ l) (p ++ txtB l).length
  | [], acc, a, p, r, hs, ha, ht => by
    show K acc a = _
    rw [List.append_nil, ha, show txtB [] = [] from rfl, List.append_nil]
  | t :: l, acc, a, p, r, hs, ha, ht => by
    have e : txtB (t :: l) = Num.putT t ++ txtB l := rfl
    rw [e] at hs ⊢
    have hg := gtS_at (s := s) (k := (a : Int)) p t (txtB l ++ r) (nameS_len (ht t (by simp))) (by rw [hs]; simp only [List.append_assoc]) (by rw [ha])
    show namK s (l.length + 1) a acc K = _
    unfold namK
    rw [hg]
    dsimp only
    rw [namK_at (l := l) (p ++ Num.putT t) r (by rw [hs]; simp only [List.append_assoc]) (by rw [ha, List.length_append]) (fun x hx => ht x (by simp [hx]))]
    simp only [List.append_assoc, List.singleton_append]
theorem rulK_at {s : List UInt8} {K : List RD.T → Nat → Option CD.T} : ∀ {l : List RD.T} {acc : List RD.T} {a : Nat} (p r : List UInt8), s = p ++ flB encS l ++ r → a = p.length → (∀ t ∈ l, okS t = true) → rulK s l.length a acc K = K (acc ++ l) (p ++ flB encS l).length
  | [], acc, a, p, r, hs, ha, ht => by
    show K acc a = _
    rw [List.append_nil, ha, show flB encS [] = [] from rfl, List.append_nil]
  | t :: l, acc, a, p, r, hs, ha, ht => by
    have e : flB encS (t :: l) = encS t ++ flB encS l := rfl
    rw [e] at hs ⊢
    have hg := back1g p (flB encS l ++ r) t (ht t (by simp))
    rw [show p ++ encS t ++ (flB encS l ++ r) = s by rw [hs]; simp only [List.append_assoc], ← ha] at hg
    show rulK s (l.length + 1) a acc K = _
    unfold rulK
    rw [hg]
    dsimp only
    rw [rulK_at (l := l) (p ++ encS t) r (by rw [hs]; simp only [List.append_assoc]) (by rw [ha, List.length_append]) (fun x hx => ht x (by simp [hx]))]
    simp only [List.append_assoc, List.singleton_append]
theorem ixK_at {s : List UInt8} {K : List ID.T → Nat → Option CD.T} : ∀ {l : List ID.T} {acc : List ID.T} {a : Nat} (p r : List UInt8), s = p ++ flB ixB l ++ r → a = p.length → (∀ t ∈ l, t.1.length ≤ 16 ∧ t.2.length ≤ 16) → ixK s l.length a acc K = K (acc ++ l) (p ++ flB ixB l).length
  | [], acc, a, p, r, hs, ha, ht => by
    show K acc a = _
    rw [List.append_nil, ha, show flB ixB [] = [] from rfl, List.append_nil]
  | t :: l, acc, a, p, r, hs, ha, ht => by
    have e : flB ixB (t :: l) = Num.putT t.1 ++ Num.putT t.2 ++ flB ixB l := rfl
    rw [e] at hs ⊢
    have hg := gtS_at (s := s) (k := (a : Int)) p t.1 (Num.putT t.2 ++ flB ixB l ++ r) (ht t (by simp)).1 (by rw [hs]; simp only [List.append_assoc]) (by rw [ha])
    have hg2 := gtS_at (s := s) (k := ((a + (Num.putT t.1).length : Nat) : Int)) (p ++ Num.putT t.1) t.2 (flB ixB l ++ r) (ht t (by simp)).2 (by rw [hs]; simp only [List.append_assoc]) (by rw [ha, List.length_append])
    show ixK s (l.length + 1) a acc K = _
    unfold ixK
    rw [hg]
    dsimp only
    rw [hg2]
    dsimp only
    rw [ixK_at (l := l) (p ++ Num.putT t.1 ++ Num.putT t.2) r (by rw [hs]; simp only [List.append_assoc]) (by rw [ha, List.length_append, List.length_append]) (fun x hx => ht x (by simp [hx]))]
    simp only [List.append_assoc, List.singleton_append]
theorem good_okS {c : CD.T} (h : GoodC c) : ∀ r ∈ c.2.2.1, okS r = true := fun r hr => by
  obtain ⟨h1, h2⟩ := h.r r hr
  simp only [goodR, Bool.and_eq_true, decide_eq_true_eq] at h2
  obtain ⟨g1, g2, g3, g4, g5⟩ := h2
  have hx := h.x1
  simp only [okS, Bool.and_eq_true, decide_eq_true_eq]
  exact ⟨⟨⟨⟨g2, Int.le_of_lt h1⟩, Int.le_trans (Int.le_of_lt g1) hx⟩, Int.le_trans (by decide) g4⟩, g5⟩
theorem dec_enc {c : CD.T} (h : goodC c = true) : decO (encCS c) = some c := by
  have hg := goodC_out h
  have ho := good_okS hg
  rw [show encCS c = catB' c from if_pos h]
  obtain ⟨l1, l2, rs, is, nx⟩ := c
  generalize hs : catB' (l1, l2, rs, is, nx) = s
  have hs : Num.putN l1.length ++ txtB l1 ++ (Num.putN l2.length ++ txtB l2) ++ Num.putN rs.length ++ flB encS rs ++ Num.putN is.length ++ flB ixB is ++ Num.putN (Int.toNat nx) = s := hs
  have b1 : l1.length ≤ 16 := hg.n1
  have b2 : l2.length ≤ 16 := hg.n2
  have b3 : rs.length ≤ 16 := hg.n3
  have b4 : is.length ≤ 16 := hg.n4
  have x0 : (1 : Int) ≤ nx := hg.x0
  have x1 : Int.toNat nx ≤ 1000000 := toNat_le _ hg.x1
  have x2 : ((Int.toNat nx : Nat) : Int) = nx := Int.toNat_of_nonneg (Int.le_trans (by decide) x0)
  generalize Int.toNat nx = m at hs x1 x2
  unfold decO
  rw [numK_at (a := 0) (n := l1.length) [] (txtB l1 ++ (Num.putN l2.length ++ txtB l2) ++ Num.putN rs.length ++ flB encS rs ++ Num.putN is.length ++ flB ixB is ++ Num.putN m) (by rw [← hs]; simp only [List.append_assoc, List.nil_append]) rfl b1 (by omega)]
  unfold k2
  rw [namK_at (l := l1) ([] ++ Num.putN l1.length) (Num.putN l2.length ++ txtB l2 ++ Num.putN rs.length ++ flB encS rs ++ Num.putN is.length ++ flB ixB is ++ Num.putN m) (by rw [← hs]; simp only [List.append_assoc, List.nil_append]) rfl hg.t1]
  unfold k3
  rw [numK_at (n := l2.length) ([] ++ Num.putN l1.length ++ txtB l1) (txtB l2 ++ Num.putN rs.length ++ flB encS rs ++ Num.putN is.length ++ flB ixB is ++ Num.putN m) (by rw [← hs]; simp only [List.append_assoc, List.nil_append]) rfl b2 (by omega)]
  unfold k4
  rw [namK_at (l := l2) ([] ++ Num.putN l1.length ++ txtB l1 ++ Num.putN l2.length) (Num.putN rs.length ++ flB encS rs ++ Num.putN is.length ++ flB ixB is ++ Num.putN m) (by rw [← hs]; simp only [List.append_assoc, List.nil_append]) rfl hg.t2]
  unfold k5
  rw [numK_at (n := rs.length) ([] ++ Num.putN l1.length ++ txtB l1 ++ Num.putN l2.length ++ txtB l2) (flB encS rs ++ Num.putN is.length ++ flB ixB is ++ Num.putN m) (by rw [← hs]; simp only [List.append_assoc, List.nil_append]) rfl b3 (by omega)]
  unfold k6
  rw [rulK_at (l := rs) ([] ++ Num.putN l1.length ++ txtB l1 ++ Num.putN l2.length ++ txtB l2 ++ Num.putN rs.length) (Num.putN is.length ++ flB ixB is ++ Num.putN m) (by rw [← hs]; simp only [List.append_assoc, List.nil_append]) rfl ho]
  unfold k7
  rw [numK_at (n := is.length) ([] ++ Num.putN l1.length ++ txtB l1 ++ Num.putN l2.length ++ txtB l2 ++ Num.putN rs.length ++ flB encS rs) (flB ixB is ++ Num.putN m) (by rw [← hs]; simp only [List.append_assoc, List.nil_append]) rfl b4 (by omega)]
  unfold k8
  rw [ixK_at (l := is) ([] ++ Num.putN l1.length ++ txtB l1 ++ Num.putN l2.length ++ txtB l2 ++ Num.putN rs.length ++ flB encS rs ++ Num.putN is.length) (Num.putN m) (by rw [← hs]; simp only [List.append_assoc, List.nil_append]) rfl (fun x hx => hg.il hx)]
  unfold k9
  rw [numK_at (n := m) ([] ++ Num.putN l1.length ++ txtB l1 ++ Num.putN l2.length ++ txtB l2 ++ Num.putN rs.length ++ flB encS rs ++ Num.putN is.length ++ flB ixB is) [] (by rw [← hs]; simp only [List.append_assoc, List.nil_append, List.append_nil]) rfl x1 x1]
  unfold finK
  simp only [List.nil_append]
  rw [x2, if_pos]
  exact ⟨by rw [← hs]; simp only [List.append_assoc], h⟩

/-! back: what was decoded is encoded -/
theorem getN_sh {s : List UInt8} {a : Nat} (ha : a ≤ s.length) {x y : Int} (hy : 0 ≤ y) (hx : x = a + y) : Num.getN s x = Num.getN (s.drop a) y := by
  unfold Num.getN
  rw [List.length_drop, List.drop_drop, show a + y.toNat = x.toNat by omega]
  by_cases h : x > s.length
  · rw [if_pos (.inr h), if_pos (.inr (by omega))]
  · rw [if_neg (by omega), if_neg (by omega)]
theorem getT_sh {s : List UInt8} {a : Nat} (ha : a ≤ s.length) {x y m : Int} (hy : 0 ≤ y) (hx : x = a + y) : Num.getT s x m = Num.getT (s.drop a) y m := by
  unfold Num.getT
  rw [getN_sh ha hy hx]
  cases Num.getN (s.drop a) y with
  | none => rfl
  | some p =>
    obtain ⟨n, k⟩ := p
    dsimp only
    rw [List.length_drop, List.drop_drop (i := y.toNat), show a + y.toNat = x.toNat by omega]
    by_cases h : m < 0 ∨ (n : Int) > m ∨ x.toNat + k + n > s.length
    · rw [if_pos h, if_pos (by omega)]
    · rw [if_neg h, if_neg (by omega)]
theorem decS_sh {s : List UInt8} {a : Nat} (ha : a ≤ s.length) : decS s a = decS (s.drop a) 0 := by
  have g : ∀ x y : Int, 0 ≤ y → x = a + y → gnS s x = gnS (s.drop a) y := fun x y h1 h2 => by unfold gnS; rw [getN_sh ha h1 h2]
  have t : ∀ x y : Int, 0 ≤ y → x = a + y → Num.getT s x 16 = Num.getT (s.drop a) y 16 := fun x y h1 h2 => getT_sh ha h1 h2
  have e : decP s a = decP (s.drop a) 0 := by
    unfold decP
    rw [g a 0 (by omega) (by omega)]
    cases gnS (s.drop a) (0) with
    | none => rfl
    | some p1 =>
    dsimp only
    rw [g ((a : Int) + p1.2) ((0 : Int) + p1.2) (by omega) (by omega)]
    cases gnS (s.drop a) (0 + p1.2) with
    | none => rfl
    | some p2 =>
    dsimp only
    rw [g ((a : Int) + p1.2 + p2.2) ((0 : Int) + p1.2 + p2.2) (by omega) (by omega)]
    cases gnS (s.drop a) (0 + p1.2 + p2.2) with
    | none => rfl
    | some p3 =>
    dsimp only
    rw [g ((a : Int) + p1.2 + p2.2 + p3.2) ((0 : Int) + p1.2 + p2.2 + p3.2) (by omega) (by omega)]
    cases gnS (s.drop a) (0 + p1.2 + p2.2 + p3.2) with
    | none => rfl
    | some p4 =>
    dsimp only
    rw [t ((a : Int) + p1.2 + p2.2 + p3.2 + p4.2) ((0 : Int) + p1.2 + p2.2 + p3.2 + p4.2) (by omega) (by omega)]
    cases Num.getT (s.drop a) (0 + p1.2 + p2.2 + p3.2 + p4.2) 16 with
    | none => rfl
    | some p5 =>
    dsimp only
    rw [t ((a : Int) + p1.2 + p2.2 + p3.2 + p4.2 + p5.2) ((0 : Int) + p1.2 + p2.2 + p3.2 + p4.2 + p5.2) (by omega) (by omega)]
    cases Num.getT (s.drop a) (0 + p1.2 + p2.2 + p3.2 + p4.2 + p5.2) 16 with
    | none => rfl
    | some p6 =>
    dsimp only
    rw [t ((a : Int) + p1.2 + p2.2 + p3.2 + p4.2 + p5.2 + p6.2) ((0 : Int) + p1.2 + p2.2 + p3.2 + p4.2 + p5.2 + p6.2) (by omega) (by omega)]
    cases Num.getT (s.drop a) (0 + p1.2 + p2.2 + p3.2 + p4.2 + p5.2 + p6.2) 16 with
    | none => rfl
    | some p7 =>
    dsimp only
    rw [t ((a : Int) + p1.2 + p2.2 + p3.2 + p4.2 + p5.2 + p6.2 + p7.2) ((0 : Int) + p1.2 + p2.2 + p3.2 + p4.2 + p5.2 + p6.2 + p7.2) (by omega) (by omega)]
  unfold decS
  rw [e]
theorem numK_back {s : List UInt8} {most a : Nat} {K : Nat → Nat → Option CD.T} {d : CD.T} (h : numK s most a K = some d) : ∃ n k, n ≤ most ∧ K n (a + k) = some d ∧ s.take (a + k) = s.take a ++ Num.putN n := by
  unfold numK at h
  cases hg : Num.getN s a with
  | none => rw [hg] at h; cases h
  | some p =>
    rw [hg] at h
    dsimp only at h
    split at h
    · rename_i hle
      have ht := Num.getN_take (m := p.1) (k := p.2) hg
      exact ⟨p.1, p.2, hle, h, by rw [List.take_add]; exact congrArg (s.take a ++ ·) ht⟩
    · cases h
theorem namK_back {s : List UInt8} {K : List SD.T → Nat → Option CD.T} {d : CD.T} : ∀ {n a : Nat} {acc : List SD.T}, namK s n a acc K = some d → ∃ l a', l.length = n ∧ K (acc ++ l) a' = some d ∧ s.take a' = s.take a ++ txtB l
  | 0, a, acc, h => ⟨[], a, rfl, by rw [List.append_nil]; exact h, by rw [show txtB [] = [] from rfl, List.append_nil]⟩
  | n + 1, a, acc, h => by
    unfold namK at h
    cases hg : Num.getT s a 16 with
    | none => rw [hg] at h; cases h
    | some p =>
      rw [hg] at h
      dsimp only at h
      have ht := (gtS_take (t := p.1) (i := p.2) hg a rfl).1
      obtain ⟨l, a', h1, h2, h3⟩ := namK_back h
      refine ⟨p.1 :: l, a', by rw [List.length_cons, h1], by rw [← h2]; simp only [List.append_assoc, List.singleton_append], ?_⟩
      rw [h3, List.take_add, ht, show txtB (p.1 :: l) = Num.putT p.1 ++ txtB l from rfl]
      simp only [List.append_assoc]
theorem rulK_back {s : List UInt8} {K : List RD.T → Nat → Option CD.T} {d : CD.T} : ∀ {n a : Nat} {acc : List RD.T}, rulK s n a acc K = some d → ∃ l a', l.length = n ∧ K (acc ++ l) a' = some d ∧ s.take a' = s.take a ++ flB encS l
  | 0, a, acc, h => ⟨[], a, rfl, by rw [List.append_nil]; exact h, by rw [show flB encS [] = [] from rfl, List.append_nil]⟩
  | n + 1, a, acc, h => by
    unfold rulK at h
    cases hg : decS s a with
    | none => rw [hg] at h; cases h
    | some p =>
      rw [hg] at h
      dsimp only at h
      have hb := decS_bd (r := p.1) (n := p.2) hg
      rw [decS_sh (by omega)] at hg
      have ht := (back2 (q := p.1) (n := p.2) hg).2.1
      obtain ⟨l, a', h1, h2, h3⟩ := rulK_back h
      refine ⟨p.1 :: l, a', by rw [List.length_cons, h1], by rw [← h2]; simp only [List.append_assoc, List.singleton_append], ?_⟩
      rw [h3, List.take_add, ← ht, show flB encS (p.1 :: l) = encS p.1 ++ flB encS l from rfl]
      simp only [List.append_assoc]
theorem ixK_back {s : List UInt8} {K : List ID.T → Nat → Option CD.T} {d : CD.T} : ∀ {n a : Nat} {acc : List ID.T}, ixK s n a acc K = some d → ∃ l a', l.length = n ∧ K (acc ++ l) a' = some d ∧ s.take a' = s.take a ++ flB ixB l
  | 0, a, acc, h => ⟨[], a, rfl, by rw [List.append_nil]; exact h, by rw [show flB ixB [] = [] from rfl, List.append_nil]⟩
  | n + 1, a, acc, h => by
    unfold ixK at h
    cases hg : Num.getT s a 16 with
    | none => rw [hg] at h; cases h
    | some p =>
      rw [hg] at h
      dsimp only at h
      cases hg2 : Num.getT s (a + p.2 : Nat) 16 with
      | none => rw [hg2] at h; cases h
      | some q =>
        rw [hg2] at h
        dsimp only at h
        have ht := (gtS_take (t := p.1) (i := p.2) hg a rfl).1
        have ht2 := (gtS_take (t := q.1) (i := q.2) hg2 (a + p.2) rfl).1
        obtain ⟨l, a', h1, h2, h3⟩ := ixK_back h
        refine ⟨(p.1, q.1) :: l, a', by rw [List.length_cons, h1], by rw [← h2]; simp only [List.append_assoc, List.singleton_append], ?_⟩
        rw [h3, List.take_add, List.take_add, ht, ht2, show flB ixB ((p.1, q.1) :: l) = Num.putT p.1 ++ Num.putT q.1 ++ flB ixB l from rfl]
        simp only [List.append_assoc]
theorem enc_dec {s : List UInt8} {d : CD.T} (h : decO s = some d) : goodC d = true ∧ catB' d = s := by
  unfold decO at h
  obtain ⟨n1, x1, _, h, e1⟩ := numK_back h
  obtain ⟨l1, y1, f1, h, e2⟩ := namK_back h
  obtain ⟨n2, x2, _, h, e3⟩ := numK_back h
  obtain ⟨l2, y2, f2, h, e4⟩ := namK_back h
  obtain ⟨n3, x3, _, h, e5⟩ := numK_back h
  obtain ⟨rs, y3, f3, h, e6⟩ := rulK_back h
  obtain ⟨n4, x4, _, h, e7⟩ := numK_back h
  obtain ⟨is, y4, f4, h, e8⟩ := ixK_back h
  obtain ⟨nx, x5, _, h, e9⟩ := numK_back h
  unfold finK at h
  split at h
  · rename_i hc
    obtain ⟨hc1, hc2⟩ := hc
    cases h
    refine ⟨hc2, ?_⟩
    rw [hc1, List.take_length] at e9
    rw [e9, e8, e7, e6, e5, e4, e3, e2, e1, ← f1, ← f2, ← f3, ← f4]
    unfold catB'
    simp only [List.nil_append, List.append_assoc, Int.toNat_natCast, List.take_zero]
  · cases h
theorem good_wf {c : CD.T} (h : goodC c = true) : Wf CD c := by
  have hg := goodC_out h
  have nm : ∀ {l : List SD.T}, l.length ≤ 16 → (∀ s ∈ l, nameS s = true) → Wf (.list SD) l := fun h1 h2 => ⟨Nat.le_trans h1 (by decide), fun s hs => Nat.le_trans (nameS_len (h2 s hs)) (by decide)⟩
  refine ⟨nm hg.n1 hg.t1, nm hg.n2 hg.t2, ⟨Nat.le_trans hg.n3 (by decide), fun r hr => ?_⟩, ⟨Nat.le_trans hg.n4 (by decide), fun x hx => ⟨Nat.le_trans (hg.il hx).1 (by decide), Nat.le_trans (hg.il hx).2 (by decide)⟩⟩, lit_ok _ (Int.le_trans (by decide) hg.x0) hg.x1⟩
  obtain ⟨i0, i1, k0, k1, n0, n1, s0, s1, t0, t1, t2, t3⟩ := okR (good_okS hg r hr)
  exact ⟨lit_ok _ i0 i1, lit_ok _ (Int.le_trans (by decide) k0) (Int.le_trans k1 (by decide)), Nat.le_trans t0 (by decide), Nat.le_trans t1 (by decide), Nat.le_trans t2 (by decide), Nat.le_trans t3 (by decide), lit_ok _ n0 (Int.le_trans n1 (by decide)), lit_ok _ s0 (Int.le_trans s1 (by decide))⟩
end Go.Proofs.Ythpllblcbbkfdaa
