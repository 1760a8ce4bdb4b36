/- Several texts of the proof, one behind the other; put together by a program of the session (mrg.py). Own work. -/
import Derived.Test.YtnldokebmfojeaaGreatPart6
/- A catalog's bytes: what was encoded is decoded as it was, what was decoded is encoded as it stood; no program in sight. Own work. -/
set_option linter.unusedVariables false
set_option maxRecDepth 100000
namespace Go.Proofs.YtnldokebmfojeaaGreat
open Go Go.RowKit OE

theorem back1g (p q : List UInt8) (r : RD.T) (h : okS r = true) : decS (p ++ encS r ++ q) p.length = some (r, (encS r).length) := by
  obtain ⟨i0, i1, k0, k1, n0, n1, s0, s1, t0, t1, t2, t3⟩ := okR h
  have k1 : r.2.1 ≤ 1000000 := Int.le_trans k1 (by decide)
  have n1 : r.2.2.2.2.2.2.1 ≤ 1000000 := Int.le_trans n1 (by decide)
  have s1 : r.2.2.2.2.2.2.2 ≤ 1000000 := Int.le_trans s1 (by decide)
  have k0 : 0 ≤ r.2.1 := Int.le_trans (by decide) k0
  have e : encS r = bytS r := by unfold encS; rw [if_pos h]
  rw [e]
  have hd : decP (p ++ bytS r ++ q) p.length = some (r, (bytS r).length) := by
    obtain ⟨x1, x2, x3, x4, x5, x6, x7, x8⟩ := r
    dsimp only at *
    unfold bytS
    dsimp only
    have y1 := Int.toNat_of_nonneg i0
    have y2 := Int.toNat_of_nonneg k0
    have y7 := Int.toNat_of_nonneg n0
    have y8 := Int.toNat_of_nonneg s0
    generalize hS : (p ++ (Num.putN x1.toNat ++ Num.putN x2.toNat ++ Num.putN x8.toNat ++ Num.putN x7.toNat ++ Num.putT x3 ++ Num.putT x4 ++ Num.putT x5 ++ Num.putT x6) ++ q : List UInt8) = S
    have g1 := gnS_at (s := S) (k := (p.length : Int)) p x1.toNat (Num.putN x2.toNat ++ Num.putN x8.toNat ++ Num.putN x7.toNat ++ Num.putT x3 ++ Num.putT x4 ++ Num.putT x5 ++ Num.putT x6 ++ q) (toNat_le _ i1) (by rw [← hS]; simp only [List.append_assoc]) rfl
    have g2 := gnS_at (s := S) (k := (p.length : Int) + ((Num.putN x1.toNat).length : Int)) (p ++ Num.putN x1.toNat) x2.toNat (Num.putN x8.toNat ++ Num.putN x7.toNat ++ Num.putT x3 ++ Num.putT x4 ++ Num.putT x5 ++ Num.putT x6 ++ q) (toNat_le _ k1) (by rw [← hS]; simp only [List.append_assoc]) (by simp only [List.length_append]; omega)
    have g3 := gnS_at (s := S) (k := (p.length : Int) + ((Num.putN x1.toNat).length : Int) + ((Num.putN x2.toNat).length : Int)) (p ++ Num.putN x1.toNat ++ Num.putN x2.toNat) x8.toNat (Num.putN x7.toNat ++ Num.putT x3 ++ Num.putT x4 ++ Num.putT x5 ++ Num.putT x6 ++ q) (toNat_le _ s1) (by rw [← hS]; simp only [List.append_assoc]) (by simp only [List.length_append]; omega)
    have g4 := gnS_at (s := S) (k := (p.length : Int) + ((Num.putN x1.toNat).length : Int) + ((Num.putN x2.toNat).length : Int) + ((Num.putN x8.toNat).length : Int)) (p ++ Num.putN x1.toNat ++ Num.putN x2.toNat ++ Num.putN x8.toNat) x7.toNat (Num.putT x3 ++ Num.putT x4 ++ Num.putT x5 ++ Num.putT x6 ++ q) (toNat_le _ n1) (by rw [← hS]; simp only [List.append_assoc]) (by simp only [List.length_append]; omega)
    have g5 := gtS_at (s := S) (k := (p.length : Int) + ((Num.putN x1.toNat).length : Int) + ((Num.putN x2.toNat).length : Int) + ((Num.putN x8.toNat).length : Int) + ((Num.putN x7.toNat).length : Int)) (p ++ Num.putN x1.toNat ++ Num.putN x2.toNat ++ Num.putN x8.toNat ++ Num.putN x7.toNat) x3 (Num.putT x4 ++ Num.putT x5 ++ Num.putT x6 ++ q) t0 (by rw [← hS]; simp only [List.append_assoc]) (by simp only [List.length_append]; omega)
    have g6 := gtS_at (s := S) (k := (p.length : Int) + ((Num.putN x1.toNat).length : Int) + ((Num.putN x2.toNat).length : Int) + ((Num.putN x8.toNat).length : Int) + ((Num.putN x7.toNat).length : Int) + ((Num.putT x3).length : Int)) (p ++ Num.putN x1.toNat ++ Num.putN x2.toNat ++ Num.putN x8.toNat ++ Num.putN x7.toNat ++ Num.putT x3) x4 (Num.putT x5 ++ Num.putT x6 ++ q) t1 (by rw [← hS]; simp only [List.append_assoc]) (by simp only [List.length_append]; omega)
    have g7 := gtS_at (s := S) (k := (p.length : Int) + ((Num.putN x1.toNat).length : Int) + ((Num.putN x2.toNat).length : Int) + ((Num.putN x8.toNat).length : Int) + ((Num.putN x7.toNat).length : Int) + ((Num.putT x3).length : Int) + ((Num.putT x4).length : Int)) (p ++ Num.putN x1.toNat ++ Num.putN x2.toNat ++ Num.putN x8.toNat ++ Num.putN x7.toNat ++ Num.putT x3 ++ Num.putT x4) x5 (Num.putT x6 ++ q) t2 (by rw [← hS]; simp only [List.append_assoc]) (by simp only [List.length_append]; omega)
    have g8 := gtS_at (s := S) (k := (p.length : Int) + ((Num.putN x1.toNat).length : Int) + ((Num.putN x2.toNat).length : Int) + ((Num.putN x8.toNat).length : Int) + ((Num.putN x7.toNat).length : Int) + ((Num.putT x3).length : Int) + ((Num.putT x4).length : Int) + ((Num.putT x5).length : Int)) (p ++ Num.putN x1.toNat ++ Num.putN x2.toNat ++ Num.putN x8.toNat ++ Num.putN x7.toNat ++ Num.putT x3 ++ Num.putT x4 ++ Num.putT x5) x6 q t3 (by rw [← hS]; simp only [List.append_assoc]) (by simp only [List.length_append]; omega)
    simp only [decP, g1, g2, g3, g4, g5, g6, g7, g8, List.length_append]
    rw [y1, y2, y7, y8]
  simp only [decS, hd, h, if_true]

/-! there: what was encoded is decoded -/
theorem numK_at {s : List UInt8} {most a n : Nat} {K : Nat → Nat → Option CD.T} (p r : List UInt8) (hs : s = p ++ Num.putN n ++ r) (ha : a = p.length) (hn : n ≤ most) (hb : n ≤ 1000000) : numK s most a K = K n (p ++ Num.putN n).length := by
  unfold numK
  rw [hs, ha, Num.getN_put n p r (by omega)]
  dsimp only
  rw [if_pos hn, List.length_append]
theorem namK_at {s : List UInt8} {K : List SD.T → Nat → Option CD.T} : ∀ {l : List SD.T} {acc : List SD.T} {a : Nat} (p r : List UInt8), s = p ++ txtB l ++ r → a = p.length → (∀ t ∈ l, nameS t = true) → namK s l.length a acc K = K (acc ++ l) (p ++ txtB l).length
  | [], acc, a, p, r, hs, ha, ht => by
    show K acc a = _
    rw [List.append_nil, ha, show txtB [] = [] from rfl, List.append_nil]
  | t :: l, acc, a, p, r, hs, ha, ht => by
    have e : txtB (t :: l) = Num.putT t ++ txtB l := rfl
    rw [e] at hs ⊢
    have hg := gtS_at (s := s) (k := (a : Int)) p t (txtB l ++ r) (nameS_len (ht t (by simp))) (by rw [hs]; simp only [List.append_assoc]) (by rw [ha])
    show namK s (l.length + 1) a acc K = _
    unfold namK
    rw [hg]
    dsimp only
    rw [namK_at (l := l) (p ++ Num.putT t) r (by rw [hs]; simp only [List.append_assoc]) (by rw [ha, List.length_append]) (fun x hx => ht x (by simp [hx]))]
    simp only [List.append_assoc, List.singleton_append]
theorem rulK_at {s : List UInt8} {K : List RD.T → Nat → Option CD.T} : ∀ {l : List RD.T} {acc : List RD.T} {a : Nat} (p r : List UInt8), s = p ++ flB encS l ++ r → a = p.length → (∀ t ∈ l, okS t = true) → rulK s l.length a acc K = K (acc ++ l) (p ++ flB encS l).length
  | [], acc, a, p, r, hs, ha, ht => by
    show K acc a = _
    rw [List.append_nil, ha, show flB encS [] = [] from rfl, List.append_nil]
  | t :: l, acc, a, p, r, hs, ha, ht => by
    have e : flB encS (t :: l) = encS t ++ flB encS l := rfl
    rw [e] at hs ⊢
    have hg := back1g p (flB encS l ++ r) t (ht t (by simp))
    rw [show p ++ encS t ++ (flB encS l ++ r) = s by rw [hs]; simp only [List.append_assoc], ← ha] at hg
    show rulK s (l.length + 1) a acc K = _
    unfold rulK
    rw [hg]
    dsimp only
    rw [rulK_at (l := l) (p ++ encS t) r (by rw [hs]; simp only [List.append_assoc]) (by rw [ha, List.length_append]) (fun x hx => ht x (by simp [hx]))]
    simp only [List.append_assoc, List.singleton_append]
theorem ixK_at {s : List UInt8} {K : List ID.T → Nat → Option CD.T} : ∀ {l : List ID.T} {acc : List ID.T} {a : Nat} (p r : List UInt8), s = p ++ flB ixB l ++ r → a = p.length → (∀ t ∈ l, t.1.length ≤ 16 ∧ t.2.length ≤ 16) → ixK s l.length a acc K = K (acc ++ l) (p ++ flB ixB l).length
  | [], acc, a, p, r, hs, ha, ht => by
    show K acc a = _
    rw [List.append_nil, ha, show flB ixB [] = [] from rfl, List.append_nil]
  | t :: l, acc, a, p, r, hs, ha, ht => by
    have e : flB ixB (t :: l) = Num.putT t.1 ++ Num.putT t.2 ++ flB ixB l := rfl
    rw [e] at hs ⊢
    have hg := gtS_at (s := s) (k := (a : Int)) p t.1 (Num.putT t.2 ++ flB ixB l ++ r) (ht t (by simp)).1 (by rw [hs]; simp only [List.append_assoc]) (by rw [ha])
    have hg2 := gtS_at (s := s) (k := ((a + (Num.putT t.1).length : Nat) : Int)) (p ++ Num.putT t.1) t.2 (flB ixB l ++ r) (ht t (by simp)).2 (by rw [hs]; simp only [List.append_assoc]) (by rw [ha, List.length_append])
    show ixK s (l.length + 1) a acc K = _
    unfold ixK
    rw [hg]
    dsimp only
    rw [hg2]
    dsimp only
    rw [ixK_at (l := l) (p ++ Num.putT t.1 ++ Num.putT t.2) r (by rw [hs]; simp only [List.append_assoc]) (by rw [ha, List.length_append, List.length_append]) (fun x hx => ht x (by simp [hx]))]
    simp only [List.append_assoc, List.singleton_append]
theorem good_okS {c : CD.T} (h : GoodC c) : ∀ r ∈ c.2.2.1, okS r = true := fun r hr => by
  obtain ⟨h1, h2⟩ := h.r r hr
  simp only [goodR, Bool.and_eq_true, decide_eq_true_eq] at h2
  obtain ⟨g1, g2, g3, g4, g5⟩ := h2
  have hx := h.x1
  simp only [okS, Bool.and_eq_true, decide_eq_true_eq]
  exact ⟨⟨⟨⟨g2, Int.le_of_lt h1⟩, Int.le_trans (Int.le_of_lt g1) hx⟩, Int.le_trans (by decide) g4⟩, g5⟩
theorem dec_enc {c : CD.T} (h : goodC c = true) : decO (encCS c) = some c := by
  have hg := goodC_out h
  have ho := good_okS hg
  rw [show encCS c = catB' c from if_pos h]
  obtain ⟨l1, l2, rs, is, nx⟩ := c
  generalize hs : catB' (l1, l2, rs, is, nx) = s
  have hs : Num.putN l1.length ++ txtB l1 ++ (Num.putN l2.length ++ txtB l2) ++ Num.putN rs.length ++ flB encS rs ++ Num.putN is.length ++ flB ixB is ++ Num.putN (Int.toNat nx) = s := hs
  have b1 : l1.length ≤ 16 := hg.n1
  have b2 : l2.length ≤ 16 := hg.n2
  have b3 : rs.length ≤ 16 := hg.n3
  have b4 : is.length ≤ 16 := hg.n4
  have x0 : (1 : Int) ≤ nx := hg.x0
  have x1 : Int.toNat nx ≤ 1000000 := toNat_le _ hg.x1
  have x2 : ((Int.toNat nx : Nat) : Int) = nx := Int.toNat_of_nonneg (Int.le_trans (by decide) x0)
  generalize Int.toNat nx = m at hs x1 x2
  unfold decO
  rw [numK_at (a := 0) (n := l1.length) [] (txtB l1 ++ (Num.putN l2.length ++ txtB l2) ++ Num.putN rs.length ++ flB encS rs ++ Num.putN is.length ++ flB ixB is ++ Num.putN m) (by rw [← hs]; simp only [List.append_assoc, List.nil_append]) rfl b1 (by omega)]
  unfold k2
  rw [namK_at (l := l1) ([] ++ Num.putN l1.length) (Num.putN l2.length ++ txtB l2 ++ Num.putN rs.length ++ flB encS rs ++ Num.putN is.length ++ flB ixB is ++ Num.putN m) (by rw [← hs]; simp only [List.append_assoc, List.nil_append]) rfl hg.t1]
  unfold k3
  rw [numK_at (n := l2.length) ([] ++ Num.putN l1.length ++ txtB l1) (txtB l2 ++ Num.putN rs.length ++ flB encS rs ++ Num.putN is.length ++ flB ixB is ++ Num.putN m) (by rw [← hs]; simp only [List.append_assoc, List.nil_append]) rfl b2 (by omega)]
  unfold k4
  rw [namK_at (l := l2) ([] ++ Num.putN l1.length ++ txtB l1 ++ Num.putN l2.length) (Num.putN rs.length ++ flB encS rs ++ Num.putN is.length ++ flB ixB is ++ Num.putN m) (by rw [← hs]; simp only [List.append_assoc, List.nil_append]) rfl hg.t2]
  unfold k5
  rw [numK_at (n := rs.length) ([] ++ Num.putN l1.length ++ txtB l1 ++ Num.putN l2.length ++ txtB l2) (flB encS rs ++ Num.putN is.length ++ flB ixB is ++ Num.putN m) (by rw [← hs]; simp only [List.append_assoc, List.nil_append]) rfl b3 (by omega)]
  unfold k6
  rw [rulK_at (l := rs) ([] ++ Num.putN l1.length ++ txtB l1 ++ Num.putN l2.length ++ txtB l2 ++ Num.putN rs.length) (Num.putN is.length ++ flB ixB is ++ Num.putN m) (by rw [← hs]; simp only [List.append_assoc, List.nil_append]) rfl ho]
  unfold k7
  rw [numK_at (n := is.length) ([] ++ Num.putN l1.length ++ txtB l1 ++ Num.putN l2.length ++ txtB l2 ++ Num.putN rs.length ++ flB encS rs) (flB ixB is ++ Num.putN m) (by rw [← hs]; simp only [List.append_assoc, List.nil_append]) rfl b4 (by omega)]
  unfold k8
  rw [ixK_at (l := is) ([] ++ Num.putN l1.length ++ txtB l1 ++ Num.putN l2.length ++ txtB l2 ++ Num.putN rs.length ++ flB encS rs ++ Num.putN is.length) (Num.putN m) (by rw [← hs]; simp only [List.append_assoc, List.nil_append]) rfl (fun x hx => hg.il hx)]
  unfold k9
  rw [numK_at (n := m) ([] ++ Num.putN l1.length ++ txtB l1 ++ Num.putN l2.length ++ txtB l2 ++ Num.putN rs.length ++ flB encS rs ++ Num.putN is.length ++ flB ixB is) [] (by rw [← hs]; simp only [List.append_assoc, List.nil_append, List.append_nil]) rfl x1 x1]
  unfold finK
  simp only [List.nil_append]
  rw [x2, if_pos]
  exact ⟨by rw [← hs]; simp only [List.append_assoc], h⟩

/-! back: what was decoded is encoded -/
theorem getN_sh {s : List UInt8} {a : Nat} (ha : a ≤ s.length) {x y : Int} (hy : 0 ≤ y) (hx : x = a + y) : Num.getN s x = Num.getN (s.drop a) y := by
  unfold Num.getN
  rw [List.length_drop, List.drop_drop, show a + y.toNat = x.toNat by omega]
  by_cases h : x > s.length
  · rw [if_pos (.inr h), if_pos (.inr (by omega))]
  · rw [if_neg (by omega), if_neg (by omega)]
theorem getT_sh {s : List UInt8} {a : Nat} (ha : a ≤ s.length) {x y m : Int} (hy : 0 ≤ y) (hx : x = a + y) : Num.getT s x m = Num.getT (s.drop a) y m := by
  unfold Num.getT
  rw [getN_sh ha hy hx]
  cases Num.getN (s.drop a) y with
  | none => rfl
  | some p =>
    obtain ⟨n, k⟩ := p
    dsimp only
    rw [List.length_drop, List.drop_drop (i := y.toNat), show a + y.toNat = x.toNat by omega]
    by_cases h : m < 0 ∨ (n : Int) > m ∨ x.toNat + k + n > s.length
    · rw [if_pos h, if_pos (by omega)]
    · rw [if_neg h, if_neg (by omega)]
theorem decS_sh {s : List UInt8} {a : Nat} (ha : a ≤ s.length) : decS s a = decS (s.drop a) 0 := by
  have g : ∀ x y : Int, 0 ≤ y → x = a + y → gnS s x = gnS (s.drop a) y := fun x y h1 h2 => by unfold gnS; rw [getN_sh ha h1 h2]
  have t : ∀ x y : Int, 0 ≤ y → x = a + y → Num.getT s x 16 = Num.getT (s.drop a) y 16 := fun x y h1 h2 => getT_sh ha h1 h2
  have e : decP s a = decP (s.drop a) 0 := by
    unfold decP
    rw [g a 0 (by omega) (by omega)]
    cases gnS (s.drop a) (0) with
    | none => rfl
    | some p1 =>
    dsimp only
    rw [g ((a : Int) + p1.2) ((0 : Int) + p1.2) (by omega) (by omega)]
    cases gnS (s.drop a) (0 + p1.2) with
    | none => rfl
    | some p2 =>
    dsimp only
    rw [g ((a : Int) + p1.2 + p2.2) ((0 : Int) + p1.2 + p2.2) (by omega) (by omega)]
    cases gnS (s.drop a) (0 + p1.2 + p2.2) with
    | none => rfl
    | some p3 =>
    dsimp only
    rw [g ((a : Int) + p1.2 + p2.2 + p3.2) ((0 : Int) + p1.2 + p2.2 + p3.2) (by omega) (by omega)]
    cases gnS (s.drop a) (0 + p1.2 + p2.2 + p3.2) with
    | none => rfl
    | some p4 =>
    dsimp only
    rw [t ((a : Int) + p1.2 + p2.2 + p3.2 + p4.2) ((0 : Int) + p1.2 + p2.2 + p3.2 + p4.2) (by omega) (by omega)]
    cases Num.getT (s.drop a) (0 + p1.2 + p2.2 + p3.2 + p4.2) 16 with
    | none => rfl
    | some p5 =>
    dsimp only
    rw [t ((a : Int) + p1.2 + p2.2 + p3.2 + p4.2 + p5.2) ((0 : Int) + p1.2 + p2.2 + p3.2 + p4.2 + p5.2) (by omega) (by omega)]
    cases Num.getT (s.drop a) (0 + p1.2 + p2.2 + p3.2 + p4.2 + p5.2) 16 with
    | none => rfl
    | some p6 =>
    dsimp only
    rw [t ((a : Int) + p1.2 + p2.2 + p3.2 + p4.2 + p5.2 + p6.2) ((0 : Int) + p1.2 + p2.2 + p3.2 + p4.2 + p5.2 + p6.2) (by omega) (by omega)]
    cases Num.getT (s.drop a) (0 + p1.2 + p2.2 + p3.2 + p4.2 + p5.2 + p6.2) 16 with
    | none => rfl
    | some p7 =>
    dsimp only
    rw [t ((a : Int) + p1.2 + p2.2 + p3.2 + p4.2 + p5.2 + p6.2 + p7.2) ((0 : Int) + p1.2 + p2.2 + p3.2 + p4.2 + p5.2 + p6.2 + p7.2) (by omega) (by omega)]
  unfold decS
  rw [e]
theorem numK_back {s : List UInt8} {most a : Nat} {K : Nat → Nat → Option CD.T} {d : CD.T} (h : numK s most a K = some d) : ∃ n k, n ≤ most ∧ K n (a + k) = some d ∧ s.take (a + k) = s.take a ++ Num.putN n := by
  unfold numK at h
  cases hg : Num.getN s a with
  | none => rw [hg] at h; cases h
  | some p =>
    rw [hg] at h
    dsimp only at h
    split at h
    · rename_i hle
      have ht := Num.getN_take (m := p.1) (k := p.2) hg
      exact ⟨p.1, p.2, hle, h, by rw [List.take_add]; exact congrArg (s.take a ++ ·) ht⟩
    · cases h
theorem namK_back {s : List UInt8} {K : List SD.T → Nat → Option CD.T} {d : CD.T} : ∀ {n a : Nat} {acc : List SD.T}, namK s n a acc K = some d → ∃ l a', l.length = n ∧ K (acc ++ l) a' = some d ∧ s.take a' = s.take a ++ txtB l
  | 0, a, acc, h => ⟨[], a, rfl, by rw [List.append_nil]; exact h, by rw [show txtB [] = [] from rfl, List.append_nil]⟩
  | n + 1, a, acc, h => by
    unfold namK at h
    cases hg : Num.getT s a 16 with
    | none => rw [hg] at h; cases h
    | some p =>
      rw [hg] at h
      dsimp only at h
      have ht := (gtS_take (t := p.1) (i := p.2) hg a rfl).1
      obtain ⟨l, a', h1, h2, h3⟩ := namK_back h
      refine ⟨p.1 :: l, a', by rw [List.length_cons, h1], by rw [← h2]; simp only [List.append_assoc, List.singleton_append], ?_⟩
      rw [h3, List.take_add, ht, show txtB (p.1 :: l) = Num.putT p.1 ++ txtB l from rfl]
      simp only [List.append_assoc]
theorem rulK_back {s : List UInt8} {K : List RD.T → Nat → Option CD.T} {d : CD.T} : ∀ {n a : Nat} {acc : List RD.T}, rulK s n a acc K = some d → ∃ l a', l.length = n ∧ K (acc ++ l) a' = some d ∧ s.take a' = s.take a ++ flB encS l
  | 0, a, acc, h => ⟨[], a, rfl, by rw [List.append_nil]; exact h, by rw [show flB encS [] = [] from rfl, List.append_nil]⟩
  | n + 1, a, acc, h => by
    unfold rulK at h
    cases hg : decS s a with
    | none => rw [hg] at h; cases h
    | some p =>
      rw [hg] at h
      dsimp only at h
      have hb := decS_bd (r := p.1) (n := p.2) hg
      rw [decS_sh (by omega)] at hg
      have ht := (back2 (q := p.1) (n := p.2) hg).2.1
      obtain ⟨l, a', h1, h2, h3⟩ := rulK_back h
      refine ⟨p.1 :: l, a', by rw [List.length_cons, h1], by rw [← h2]; simp only [List.append_assoc, List.singleton_append], ?_⟩
      rw [h3, List.take_add, ← ht, show flB encS (p.1 :: l) = encS p.1 ++ flB encS l from rfl]
      simp only [List.append_assoc]
theorem ixK_back {s : List UInt8} {K : List ID.T → Nat → Option CD.T} {d : CD.T} : ∀ {n a : Nat} {acc : List ID.T}, ixK s n a acc K = some d → ∃ l a', l.length = n ∧ K (acc ++ l) a' = some d ∧ s.take a' = s.take a ++ flB ixB l
  | 0, a, acc, h => ⟨[], a, rfl, by rw [List.append_nil]; exact h, by rw [show flB ixB [] = [] from rfl, List.append_nil]⟩
  | n + 1, a, acc, h => by
    unfold ixK at h
    cases hg : Num.getT s a 16 with
    | none => rw [hg] at h; cases h
    | some p =>
      rw [hg] at h
      dsimp only at h
      cases hg2 : Num.getT s (a + p.2 : Nat) 16 with
      | none => rw [hg2] at h; cases h
      | some q =>
        rw [hg2] at h
        dsimp only at h
        have ht := (gtS_take (t := p.1) (i := p.2) hg a rfl).1
        have ht2 := (gtS_take (t := q.1) (i := q.2) hg2 (a + p.2) rfl).1
        obtain ⟨l, a', h1, h2, h3⟩ := ixK_back h
        refine ⟨(p.1, q.1) :: l, a', by rw [List.length_cons, h1], by rw [← h2]; simp only [List.append_assoc, List.singleton_append], ?_⟩
        rw [h3, List.take_add, List.take_add, ht, ht2, show flB ixB ((p.1, q.1) :: l) = Num.putT p.1 ++ Num.putT q.1 ++ flB ixB l from rfl]
        simp only [List.append_assoc]
theorem enc_dec {s : List UInt8} {d : CD.T} (h : decO s = some d) : goodC d = true ∧ catB' d = s := by
  unfold decO at h
  obtain ⟨n1, x1, _, h, e1⟩ := numK_back h
  obtain ⟨l1, y1, f1, h, e2⟩ := namK_back h
  obtain ⟨n2, x2, _, h, e3⟩ := numK_back h
  obtain ⟨l2, y2, f2, h, e4⟩ := namK_back h
  obtain ⟨n3, x3, _, h, e5⟩ := numK_back h
  obtain ⟨rs, y3, f3, h, e6⟩ := rulK_back h
  obtain ⟨n4, x4, _, h, e7⟩ := numK_back h
  obtain ⟨is, y4, f4, h, e8⟩ := ixK_back h
  obtain ⟨nx, x5, _, h, e9⟩ := numK_back h
  unfold finK at h
  split at h
  · rename_i hc
    obtain ⟨hc1, hc2⟩ := hc
    cases h
    refine ⟨hc2, ?_⟩
    rw [hc1, List.take_length] at e9
    rw [e9, e8, e7, e6, e5, e4, e3, e2, e1, ← f1, ← f2, ← f3, ← f4]
    unfold catB'
    simp only [List.nil_append, List.append_assoc, Int.toNat_natCast, List.take_zero]
  · cases h
theorem good_wf {c : CD.T} (h : goodC c = true) : Wf CD c := by
  have hg := goodC_out h
  have nm : ∀ {l : List SD.T}, l.length ≤ 16 → (∀ s ∈ l, nameS s = true) → Wf (.list SD) l := fun h1 h2 => ⟨Nat.le_trans h1 (by decide), fun s hs => Nat.le_trans (nameS_len (h2 s hs)) (by decide)⟩
  refine ⟨nm hg.n1 hg.t1, nm hg.n2 hg.t2, ⟨Nat.le_trans hg.n3 (by decide), fun r hr => ?_⟩, ⟨Nat.le_trans hg.n4 (by decide), fun x hx => ⟨Nat.le_trans (hg.il hx).1 (by decide), Nat.le_trans (hg.il hx).2 (by decide)⟩⟩, lit_ok _ (Int.le_trans (by decide) hg.x0) hg.x1⟩
  obtain ⟨i0, i1, k0, k1, n0, n1, s0, s1, t0, t1, t2, t3⟩ := okR (good_okS hg r hr)
  exact ⟨lit_ok _ i0 i1, lit_ok _ (Int.le_trans (by decide) k0) (Int.le_trans k1 (by decide)), Nat.le_trans t0 (by decide), Nat.le_trans t1 (by decide), Nat.le_trans t2 (by decide), Nat.le_trans t3 (by decide), lit_ok _ n0 (Int.le_trans n1 (by decide)), lit_ok _ s0 (Int.le_trans s1 (by decide))⟩
end Go.Proofs.YtnldokebmfojeaaGreat
/- What a reply's bytes are, and what bytes are read as; no program in sight. Own work. -/
set_option linter.unusedVariables false
set_option maxRecDepth 100000
namespace Go.Proofs.YtnldokebmfojeaaGreat
open Go Go.RowKit OE

def encN (n : ND.T) : List UInt8 := Num.putN (u64 n.1) ++ Num.putT n.2.1 ++ encPs n.2.2
def encE (e : ED.T) : List UInt8 := Num.putN (u64 e.1) ++ Num.putT e.2.1 ++ Num.putN (u64 e.2.2.1) ++ Num.putN (u64 e.2.2.2.1) ++ encPs e.2.2.2.2
def encI (n : LD.T) : List UInt8 := Num.putN (u64 n)
def enc4 (r : AD.T) : List UInt8 := Num.putN (u64 r.1) ++ Num.putN (u64 r.2.1) ++ Num.putN (u64 r.2.2.1) ++ Num.putN (u64 r.2.2.2.1.length)
def enc5 (r : AD.T) : List UInt8 := enc4 r ++ flB encN r.2.2.2.1 ++ Num.putN (u64 r.2.2.2.2.1.length)
def enc6 (r : AD.T) : List UInt8 := enc5 r ++ flB encE r.2.2.2.2.1 ++ Num.putN (u64 r.2.2.2.2.2.1.length)
def encA (r : AD.T) : List UInt8 := enc6 r ++ flB (α := Int) encI r.2.2.2.2.2.1 ++ Num.putT (encCS (aC r))
def encAS (r : AD.T) : List UInt8 := if goodA r = true then encA r else []
def errA (r : AD.T) : Int := if goodA r = true then 0 else 11

def lstR {α : Type} (one : Int × Bool → α × Int × Bool) : Nat → List α → Int × Bool → List α × Int × Bool
  | 0, acc, q => (acc, q)
  | n + 1, acc, q => if q.2 = true then (acc, q) else lstR one n (acc ++ [(one q).1]) (one q).2
def listR {α : Type} (s : List UInt8) (one : Int × Bool → α × Int × Bool) (q : Int × Bool) : List α × Int × Bool := lstR one (rdN s 1024 q).1.toNat [] (rdN s 1024 q).2
def catOf (t : List UInt8) : CD.T × Bool := if t = [] then (C0, false) else (decCS t, !decide (decCE t = 0))
def qC (s : List UInt8) := rdN s 1000 (0, false)
def qI (s : List UInt8) := rdN s mxI (qC s).2
def qR (s : List UInt8) := rdN s 1000000 (qI s).2
def qN (s : List UInt8) := listA s (oneN s) (qR s).2
def qE (s : List UInt8) := listA s (oneE s) (qN s).2
def qD (s : List UInt8) := listA s (oneI s) (qE s).2
def qT (s : List UInt8) := rdT s s.length (qD s).2
def rawA (s : List UInt8) : AD.T := ((qC s).1, (qI s).1, (qR s).1, (qN s).1, (qE s).1, (qD s).1, (catOf (qT s).1).1)
def badA (s : List UInt8) : Bool := (qT s).2.2 || (catOf (qT s).1).2
def okA (s : List UInt8) : Bool := !badA s && (decide ((qT s).2.1 = s.length) && goodA (rawA s))
def A0 : AD.T := AD.df
def repA (s : List UInt8) : AD.T := if okA s = true then rawA s else A0
def repE (s : List UInt8) : Int := if okA s = true then 0 else 11
def pN (s : List UInt8) := listR s (oneN s) (qR s).2
def pE (s : List UInt8) := listR s (oneE s) (pN s).2
def pD (s : List UInt8) := listR s (oneI s) (pE s).2
def pT (s : List UInt8) := rdT s 1073741824 (pD s).2
def rawR (s : List UInt8) : AD.T := ((qC s).1, (qI s).1, (qR s).1, (pN s).1, (pE s).1, (pD s).1, (catOf (pT s).1).1)
def badR (s : List UInt8) : Bool := (pT s).2.2 || (catOf (pT s).1).2
def okR' (s : List UInt8) : Bool := !badR s && (decide ((pT s).2.1 = s.length) && goodA (rawR s))

theorem listA_in {α : Type} {s : List UInt8} {one : Int × Bool → α × Int × Bool} (h1 : ∀ q, inS s q → inS s (one q).2) : ∀ {n : Nat} {acc : List α} {q : Int × Bool}, inS s q → inS s (lstA one n acc q).2
  | 0, acc, q, h => h
  | n + 1, acc, q, h => by
    unfold lstA
    split
    · exact h
    · exact listA_in h1 (h1 q h)
theorem listR_in {α : Type} {s : List UInt8} {one : Int × Bool → α × Int × Bool} (h1 : ∀ q, inS s q → inS s (one q).2) : ∀ {n : Nat} {acc : List α} {q : Int × Bool}, inS s q → inS s (lstR one n acc q).2
  | 0, acc, q, h => h
  | n + 1, acc, q, h => by
    unfold lstR
    split
    · exact h
    · exact listR_in h1 (h1 q h)
theorem in0 (s : List UInt8) : inS s (0, false) := ⟨by decide, by dsimp only; omega⟩
theorem inC (s : List UInt8) : inS s (qC s).2 := rdN_in (in0 s)
theorem inI (s : List UInt8) : inS s (qI s).2 := rdN_in (inC s)
theorem inR (s : List UInt8) : inS s (qR s).2 := rdN_in (inI s)
theorem inN (s : List UInt8) : inS s (qN s).2 := listA_in (fun _ h => oneN_in h) (rdN_in (inR s))
theorem inE (s : List UInt8) : inS s (qE s).2 := listA_in (fun _ h => oneE_in h) (rdN_in (inN s))
theorem inD (s : List UInt8) : inS s (qD s).2 := listA_in (fun _ h => oneI_in h) (rdN_in (inE s))
theorem inT (s : List UInt8) : inS s (qT s).2 := rdT_in (inD s)
theorem inN' (s : List UInt8) : inS s (pN s).2 := listR_in (fun _ h => oneN_in h) (rdN_in (inR s))
theorem inE' (s : List UInt8) : inS s (pE s).2 := listR_in (fun _ h => oneE_in h) (rdN_in (inN' s))
theorem inD' (s : List UInt8) : inS s (pD s).2 := listR_in (fun _ h => oneI_in h) (rdN_in (inE' s))

/-! every result is one that memory holds -/
theorem rdN_wf (s : List UInt8) (q : Int × Bool) {most : Int} (h0 : 0 ≤ most) (hm : most ≤ 4611686018427387903) : (Lit.int .i64 (rdN s most q).1).wf = true := by
  have := rdN_val s q h0 hm
  exact i64_ok (by omega) (by omega)
theorem rdT_wf (s : List UInt8) (most : Int) (q : Int × Bool) (h0 : 0 ≤ most) (hm : most ≤ 1073741824) : (rdT s most q).1.length ≤ 140737488351232 := by
  unfold rdT
  split
  · show ([] : List UInt8).length ≤ _
    simp
  · rename_i hc
    have hs := not_false' fun h => hc (.inr h)
    unfold tS
    cases hg : Num.getT s q.1 most with
    | none => rw [hg] at hs; cases hs
    | some p =>
      have hl : ((p.1).length : Int) ≤ most := by
        unfold Num.getT at hg
        cases g : Num.getN s q.1 with
        | none => rw [g] at hg; cases hg
        | some p' =>
          rw [g] at hg
          dsimp only at hg
          split at hg
          · cases hg
          · rename_i hc
            simp only [Option.some.injEq] at hg
            rw [← hg]
            have : ((List.take p'.1 (List.drop p'.2 (List.drop q.1.toNat s))).length) ≤ p'.1 := by rw [List.length_take]; omega
            dsimp only
            omega
      show p.1.length ≤ _
      omega
theorem rdP_wf (s : List UInt8) (q : Int × Bool) : Wf (.list PD) (rdP s q).1 := by
  unfold rdP
  split
  · exact ⟨by show (0 : Nat) ≤ _; omega, fun p hp => by cases hp⟩
  · rename_i hc
    have hs := not_false' fun h => hc (.inr h)
    unfold pS
    cases hg : decPs s q.1 with
    | none => rw [hg] at hs; cases hs
    | some p => exact decPs_wf (l := p.1) (m := p.2) hg
theorem oneN_wf (s : List UInt8) (q : Int × Bool) : Wf ND (oneN s q).1 := ⟨rdN_wf s _ (by decide) (by decide), rdT_wf s 16 _ (by decide) (by decide), rdP_wf s _⟩
theorem oneE_wf (s : List UInt8) (q : Int × Bool) : Wf ED (oneE s q).1 := ⟨rdN_wf s _ (by decide) (by decide), rdT_wf s 16 _ (by decide) (by decide), rdN_wf s _ (by decide) (by decide), rdN_wf s _ (by decide) (by decide), rdP_wf s _⟩
theorem oneI_wf (s : List UInt8) (q : Int × Bool) : Wf LD (oneI s q).1 := rdN_wf s _ (by decide) (by decide)
theorem lstA_wf {α : Type} {W : α → Prop} {one : Int × Bool → α × Int × Bool} (h1 : ∀ q, W (one q).1) : ∀ {n : Nat} {acc : List α} {q : Int × Bool}, (∀ x ∈ acc, W x) → (lstA one n acc q).1.length ≤ acc.length + n ∧ ∀ x ∈ (lstA one n acc q).1, W x
  | 0, acc, q, h => ⟨Nat.le_refl _, h⟩
  | n + 1, acc, q, h => by
    unfold lstA
    split
    · exact ⟨Nat.zero_le _, fun x hx => by cases hx⟩
    · have := lstA_wf (W := W) h1 (n := n) (acc := acc ++ [(one q).1]) (q := (one q).2) (fun x hx => by
        rcases List.mem_append.1 hx with h' | h'
        · exact h x h'
        · rw [List.mem_singleton.1 h']; exact h1 q)
      rw [List.length_append, List.length_singleton] at this
      exact ⟨by omega, this.2⟩
theorem lstR_wf {α : Type} {W : α → Prop} {one : Int × Bool → α × Int × Bool} (h1 : ∀ q, W (one q).1) : ∀ {n : Nat} {acc : List α} {q : Int × Bool}, (∀ x ∈ acc, W x) → (lstR one n acc q).1.length ≤ acc.length + n ∧ ∀ x ∈ (lstR one n acc q).1, W x
  | 0, acc, q, h => ⟨Nat.le_refl _, h⟩
  | n + 1, acc, q, h => by
    unfold lstR
    split
    · exact ⟨Nat.le_add_right _ _, h⟩
    · have := lstR_wf (W := W) h1 (n := n) (acc := acc ++ [(one q).1]) (q := (one q).2) (fun x hx => by
        rcases List.mem_append.1 hx with h' | h'
        · exact h x h'
        · rw [List.mem_singleton.1 h']; exact h1 q)
      rw [List.length_append, List.length_singleton] at this
      exact ⟨by omega, this.2⟩
theorem listA_wf {d : D} (s : List UInt8) {one : Int × Bool → d.T × Int × Bool} (h1 : ∀ q, Wf d (one q).1) (q : Int × Bool) : (listA s one q).1.length ≤ 1024 ∧ Wf (.list d) (listA s one q).1 := by
  have hv := rdN_val s q (most := 1024) (by decide) (by decide)
  have := lstA_wf (W := Wf d) h1 (n := (rdN s 1024 q).1.toNat) (acc := []) (q := (rdN s 1024 q).2) (fun x hx => by cases hx)
  have hl : (listA s one q).1.length ≤ 1024 := by
    refine Nat.le_trans this.1 ?_
    show 0 + _ ≤ _
    omega
  exact ⟨hl, Nat.le_trans hl (by decide), this.2⟩
theorem listR_wf {d : D} (s : List UInt8) {one : Int × Bool → d.T × Int × Bool} (h1 : ∀ q, Wf d (one q).1) (q : Int × Bool) : (listR s one q).1.length ≤ 1024 ∧ Wf (.list d) (listR s one q).1 := by
  have hv := rdN_val s q (most := 1024) (by decide) (by decide)
  have := lstR_wf (W := Wf d) h1 (n := (rdN s 1024 q).1.toNat) (acc := []) (q := (rdN s 1024 q).2) (fun x hx => by cases hx)
  have hl : (listR s one q).1.length ≤ 1024 := by
    refine Nat.le_trans this.1 ?_
    show 0 + _ ≤ _
    omega
  exact ⟨hl, Nat.le_trans hl (by decide), this.2⟩
theorem good_n {c : CD.T} (h : goodC c = true) : Wf CD c ∧ c.2.2.1.length ≤ 1000 := ⟨good_wf h, Nat.le_trans (goodC_out h).n3 (by decide)⟩
theorem catOf_wf (t : List UInt8) : Wf CD (catOf t).1 ∧ (catOf t).1.2.2.1.length ≤ 1000 := by
  have h0 : Wf CD C0 ∧ C0.2.2.1.length ≤ 1000 := by
    refine ⟨⟨⟨by decide, fun x hx => by cases hx⟩, ⟨by decide, fun x hx => by cases hx⟩, ⟨by decide, fun x hx => by cases hx⟩, ⟨by decide, fun x hx => by cases hx⟩, by decide⟩, by decide⟩
  unfold catOf
  split
  · exact h0
  · unfold decCS
    cases hd : decO t with
    | none => exact h0
    | some d => exact good_n (enc_dec hd).1
theorem repA_wf (s : List UInt8) : Wf AD (rawA s) ∧ (aC (rawA s)).2.2.1.length ≤ 1000 := by
  have hc : Wf CD (catOf (qT s).1).1 ∧ (catOf (qT s).1).1.2.2.1.length ≤ 1000 := catOf_wf _
  exact ⟨⟨rdN_wf s _ (by decide) (by decide), rdN_wf s _ (by decide) (by decide), rdN_wf s _ (by decide) (by decide), (listA_wf s (oneN_wf s) _).2, (listA_wf s (oneE_wf s) _).2, (listA_wf (d := LD) s (oneI_wf s) _).2, hc.1⟩, hc.2⟩
/-! how long bytes are -/
theorem encPs_len {l : List PD.T} (hl : Wf (.list PD) l) : (encPs l).length ≤ 8600 := by
  unfold encPs
  split
  · rename_i h
    have ha := props_all h
    have h1 := encL_len (l := l) fun p hp => ⟨hl.2 p hp, name_len (ha.2 p hp).1⟩
    have h2 := Num.putN_ten (n := l.length) (by have := ha.1; omega)
    have h3 := ha.1
    rw [List.length_append]
    omega
  · simp
theorem encN_len {n : ND.T} (hw : Wf ND n) (hg : goodN n = true) : (encN n).length ≤ 9000 := by
  unfold goodN at hg
  simp only [Bool.and_eq_true] at hg
  have h1 := Num.putN_ten (wrap_u64 n.1).2
  have h2 := putT_b (nameS_len hg.1.2)
  have h3 := encPs_len hw.2.2
  unfold encN
  rw [List.length_append, List.length_append]
  omega
theorem encE_len {n : ED.T} (hw : Wf ED n) (hg : goodE n = true) : (encE n).length ≤ 9000 := by
  unfold goodE at hg
  simp only [Bool.and_eq_true] at hg
  have h1 := Num.putN_ten (wrap_u64 n.1).2
  have h4 := Num.putN_ten (wrap_u64 n.2.2.1).2
  have h5 := Num.putN_ten (wrap_u64 n.2.2.2.1).2
  have h2 := putT_b (nameS_len hg.1.2)
  have h3 := encPs_len hw.2.2.2.2
  unfold encE
  rw [List.length_append, List.length_append, List.length_append, List.length_append]
  omega
theorem flB_le {α : Type} {f : α → List UInt8} {B : Nat} {l : List α} {n : Nat} (h : ∀ x ∈ l, (f x).length ≤ B) (hn : l.length ≤ n) : (flB f l).length ≤ B * n :=
  Nat.le_trans (flB_len f B h) (Nat.mul_le_mul_left B hn)
theorem flB_cut {α : Type} {f : α → List UInt8} {B : Nat} {l : List α} {n : Nat} (h : ∀ x ∈ l, (f x).length ≤ B) (hn : l.length ≤ n) (i : Nat) : (flB f (l.take i)).length ≤ B * n :=
  flB_le (fun x hx => h x (List.mem_of_mem_take hx)) (Nat.le_trans (by rw [List.length_take]; exact Nat.min_le_right _ _) hn)
theorem enc4_len (r : AD.T) : (enc4 r).length ≤ 40 := by
  have h1 := Num.putN_ten (wrap_u64 r.1).2
  have h2 := Num.putN_ten (wrap_u64 r.2.1).2
  have h3 := Num.putN_ten (wrap_u64 r.2.2.1).2
  have h4 := Num.putN_ten (wrap_u64 r.2.2.2.1.length).2
  unfold enc4
  simp only [List.length_append]
  omega
/-- what of a good reply its length hangs on -/
structure ShortA (r : AD.T) : Prop where
  n1 : r.2.2.2.1.length ≤ 1024
  n2 : r.2.2.2.2.1.length ≤ 1024
  n3 : r.2.2.2.2.2.1.length ≤ 1024
  g1 : ∀ x ∈ r.2.2.2.1, (encN x).length ≤ 9000
  g2 : ∀ x ∈ r.2.2.2.2.1, (encE x).length ≤ 9000
theorem encI_len (n : LD.T) : (encI n).length ≤ 10 := Num.putN_ten (wrap_u64 n).2
theorem ShortA.f1 {r : AD.T} (h : ShortA r) (i : Nat) : (flB encN (r.2.2.2.1.take i)).length ≤ 9216000 := flB_cut h.g1 h.n1 i
theorem ShortA.f2 {r : AD.T} (h : ShortA r) (i : Nat) : (flB encE (r.2.2.2.2.1.take i)).length ≤ 9216000 := flB_cut h.g2 h.n2 i
theorem ShortA.f3 {r : AD.T} (h : ShortA r) (i : Nat) : (flB (α := Int) encI (r.2.2.2.2.2.1.take i)).length ≤ 10240 := flB_cut (α := Int) (fun x _ => encI_len x) h.n3 i
theorem ShortA.l5 {r : AD.T} (h : ShortA r) : (enc5 r).length ≤ 9216050 := by
  have h1 := enc4_len r
  have h2 := h.f1 r.2.2.2.1.length
  have h3 := Num.putN_ten (wrap_u64 r.2.2.2.2.1.length).2
  rw [List.take_length] at h2
  unfold enc5
  rw [List.length_append, List.length_append]
  omega
theorem ShortA.l6 {r : AD.T} (h : ShortA r) : (enc6 r).length ≤ 18432060 := by
  have h1 := h.l5
  have h2 := h.f2 r.2.2.2.2.1.length
  have h3 := Num.putN_ten (wrap_u64 r.2.2.2.2.2.1.length).2
  rw [List.take_length] at h2
  unfold enc6
  rw [List.length_append, List.length_append]
  omega
theorem encCS_len (c : CD.T) : (encCS c).length ≤ 1000000 := by
  unfold encCS
  split
  · rename_i h
    have hg := goodC_out h
    have b1 := txtB_len hg.t1
    have b2 := txtB_len hg.t2
    have b3 := flB_len encS 144 (l := c.2.2.1) fun r _ => encS_len r
    have b4 := flB_len ixB 52 (l := c.2.2.2.1) fun x hx => by
      have := hg.il hx
      have q1 := putT_b this.1
      have q2 := putT_b this.2
      unfold ixB; rw [List.length_append]; omega
    have m1 := hg.n1
    have m2 := hg.n2
    have m3 := hg.n3
    have m4 := hg.n4
    have p1 := Num.putN_ten (n := c.1.length) (by omega)
    have p2 := Num.putN_ten (n := c.2.1.length) (by omega)
    have p3 := Num.putN_ten (n := c.2.2.1.length) (by omega)
    have p4 := Num.putN_ten (n := c.2.2.2.1.length) (by omega)
    have p5 := putN_b (show Int from c.2.2.2.2) hg.x1
    have p6 : (Num.putN (Int.toNat c.2.2.2.2)).length ≤ 10 := p5
    unfold catB'
    simp only [List.length_append]
    omega
  · simp
theorem putT_len (t : List UInt8) (h : t.length ≤ 1000000000) : (Num.putT t).length ≤ 10 + t.length := by
  have := Num.putN_ten (n := t.length) (by omega)
  unfold Num.putT
  rw [List.length_append]
  omega
theorem ShortA.len {r : AD.T} (h : ShortA r) : (encA r).length ≤ 100000000 := by
  have h1 := h.l6
  have h2 := h.f3 r.2.2.2.2.2.1.length
  have h3 := encCS_len (aC r)
  have h4 := putT_len (encCS (aC r)) (by omega)
  rw [List.take_length] at h2
  unfold encA
  rw [List.length_append, List.length_append]
  omega
/-- what a good reply is -/
structure GoodA (r : AD.T) : Prop where
  c0 : 0 ≤ (show Int from r.1)
  c1 : (show Int from r.1) ≤ 1000
  i : okId r.2.1 = true
  r0 : 0 ≤ (show Int from r.2.2.1)
  r1 : (show Int from r.2.2.1) ≤ 1000000
  n1 : r.2.2.2.1.length ≤ 1024
  n2 : r.2.2.2.2.1.length ≤ 1024
  n3 : r.2.2.2.2.2.1.length ≤ 1024
  g1 : ∀ x ∈ r.2.2.2.1, goodN x = true
  g2 : ∀ x ∈ r.2.2.2.2.1, goodE x = true
  g3 : ∀ x ∈ (show List Int from r.2.2.2.2.2.1), okId x = true
  cat : (emptyC (aC r) || goodC (aC r)) = true
theorem goodA_out {r : AD.T} (h : goodA r = true) : GoodA r := by
  obtain ⟨c, i, u, ns, es, is, k⟩ := r
  unfold goodA headA bndA idsS at h
  simp only [Bool.and_eq_true, Bool.not_eq_true', Bool.or_eq_false_iff, decide_eq_false_iff_not, List.all_eq_true] at h
  obtain ⟨⟨⟨⟨⟨⟨⟨⟨h1, h2⟩, h3⟩, h4⟩, h5⟩, h6⟩, h7⟩, h8, h9⟩, h10, h11, h12⟩ := h
  exact ⟨Int.not_lt.1 h1, Int.not_lt.1 h2, h8, Int.not_lt.1 h3, Int.not_lt.1 h4, by show ns.length ≤ _; omega, by show es.length ≤ _; omega, by show is.length ≤ _; omega, h10, h11, h9, h12⟩
theorem GoodA.short {r : AD.T} (hw : Wf AD r) (h : GoodA r) : ShortA r := ⟨h.n1, h.n2, h.n3, fun x hx => encN_len (hw.2.2.2.1.2 x hx) (h.g1 x hx), fun x hx => encE_len (hw.2.2.2.2.1.2 x hx) (h.g2 x hx)⟩
theorem encA_len {r : AD.T} (hw : Wf AD r) (h : goodA r = true) : (encA r).length ≤ 100000000 := ((goodA_out h).short hw).len
end Go.Proofs.YtnldokebmfojeaaGreat
/- The walk of answer.Decode. Own work. -/
set_option linter.unusedVariables false
set_option maxRecDepth 100000
namespace Go.Proofs.YtnldokebmfojeaaGreat
open Go Go.RowKit OE

/-- a reply whose lists may be nil -/
abbrev an : List C := [.int .i64 0, .int .i64 0, .int .i64 0, .val (.slice none 0 0), .val (.slice none 0 0), .val (.slice none 0 0), .val (.slice none 0 0), .val (.slice none 0 0), .val (.slice none 0 0), .val (.slice none 0 0), .int .i64 0]
def ansT (r : AD.T) (e : Int) (x : SV) : Prop := x = .tup [(true, ac r), (false, [.int .i64 e])] ∨ (r = A0 ∧ x = .tup [(true, an), (false, [.int .i64 e])])
theorem FnD.ans {P : Program} {f : Nat} {args : List SV} {r : AD.T} {e : Int} (h : FnD P f args (ansT r e)) : FnD P f args (· = .tup [(true, ac r), (false, [.int .i64 e])]) :=
  h.res fun x hx w ok v hv => by
    rcases hx with rfl | ⟨rfl, rfl⟩
    · exact hv
    · obtain ⟨vs, e, hl⟩ := hv
      refine ⟨vs, e, ?_⟩
      generalize vs.toList = m at hl
      cases m with
      | nil => exact hl.elim
      | cons y m =>
        refine ⟨?_, hl.2⟩
        have h1 := hl.1
        unfold RP at h1 ⊢
        simp only [if_true] at h1 ⊢
        obtain ⟨us, e2, hl2⟩ := h1
        refine ⟨us, e2, ?_⟩
        generalize us.toList = n at hl2
        match n, hl2 with
        | [a, b, c, d, e, f, g, h, i, j, k], ⟨h1, h2, h3, h4, h5, h6, h7, h8, h9, h10, h11, _⟩ => exact ⟨h1, h2, h3, nilC h4, nilC h5, nilC h6, nilC h7, nilC h8, nilC h9, nilC h10, h11, trivial⟩
theorem rdT_le (s : List UInt8) (most : Int) (q : Int × Bool) (h0 : 0 ≤ most) : ((rdT s most q).1.length : Int) ≤ most := by
  unfold rdT
  split
  · exact h0
  · rename_i hc
    have hs := not_false' fun h => hc (.inr h)
    unfold tS
    cases hg : Num.getT s q.1 most with
    | none => rw [hg] at hs; cases hs
    | some p => exact getT_take' (t := p.1) (i := p.2) hg h0
theorem okA_eq (s : List UInt8) {b : Bool} {X : AD.T} (hb : badA s = b) (hX : rawA s = X) : okA s = !(b || !decide ((qT s).2.1 = s.length) || !goodA X) := by
  unfold okA
  rw [hb, hX]
  cases b <;> cases decide ((qT s).2.1 = s.length) <;> cases goodA X <;> rfl
theorem ans_Decode (s : List UInt8) (hs : s.length ≤ 1000000) : FnD Tryz.prog 6 [.c (.str s)] (· = .tup [(true, ac (repA s)), (false, [.int .i64 (repE s)])]) := by
  refine FnD.ans ?_
  refine fn0 Tryz.func6 rfl rfl rfl ?_
  conv => whnf
  refine ⟨fun hx => ?_⟩
  clear hx
  refine weaken (st := ⟨[(0, .c (.str s)), (2, .c (.ptr 0 0)), (3, .c (.int .i64 0)), (4, .c (.ptr 1 0)), (12, .c (.ptr 1 0))], [(0, .cells 32 an), (1, .cells 54 [.str s, .int .i64 0, .bool (.sym false)])], 2⟩) ?_ (go0 ?_)
  · (conv => whnf); refine ⟨rfl, ?_, ?_, ?_⟩ <;> (repeat' apply And.intro) <;> first | exact trivial | rfl | exact wr_succ _ (by omega) | assumption | exact decide_eq_false (by assumption) | exact decide_eq_true (by assumption)
  conv => whnf
  refine callp0 [1] rfl rfl (ra_number s hs 1000 (by decide) (by decide) (0, false) (in0 s)) rfl rfl rfl rfl rfl ?_
  conv => whnf
  rw [show rdN s 1000 (0, false) = qC s from rfl]
  conv => whnf
  refine callp0 [1] rfl rfl (ra_id s hs (qC s).2 (inC s)) rfl rfl rfl rfl rfl ?_
  conv => whnf
  rw [show rdN s 4611686018427387903 (qC s).2 = qI s from rfl]
  conv => whnf
  refine callp0 [1] rfl rfl (ra_number s hs 1000000 (by decide) (by decide) (qI s).2 (inI s)) rfl rfl rfl rfl rfl ?_
  conv => whnf
  rw [show rdN s 1000000 (qI s).2 = qR s from rfl]
  conv => whnf
  refine callp0 [1] rfl rfl (al_node s hs (qR s).2 (inR s)) rfl rfl rfl rfl rfl ?_
  conv => whnf
  rw [show listA s (oneN s) (qR s).2 = qN s from rfl]
  conv => whnf
  refine callp0 [1] rfl rfl (al_edge s hs (qN s).2 (inN s)) rfl rfl rfl rfl rfl ?_
  conv => whnf
  rw [show listA s (oneE s) (qN s).2 = qE s from rfl]
  conv => whnf
  refine callp0 [1] rfl rfl (al_id s hs (qE s).2 (inE s)) rfl rfl rfl rfl rfl ?_
  conv => whnf
  rw [show listA s (oneI s) (qE s).2 = qD s from rfl]
  conv => whnf
  refine ⟨fun hx => ?_⟩
  clear hx
  refine weaken (st := ⟨[(0, .c (.str s)), (2, .c (.ptr 0 0)), (3, .c (.int .i64 0)), (4, .c (.ptr 1 0)), (5, .c (.ptr 2 0)), (34, .c (.ptr 1 0)), (36, .c (.int .i64 s.length))],
    [(0, .cells 32 an), (1, .cells 54 [.str s, .int .i64 (qD s).2.1, .bool (.sym (qD s).2.2)]), (2, .cells 32 (ac ((qC s).1, (qI s).1, (qR s).1, (qN s).1, (qE s).1, (qD s).1, C0)))], 3⟩) ?_ (go0 ?_)
  · (conv => whnf); refine ⟨rfl, ?_, ?_, ?_⟩ <;> (repeat' apply And.intro) <;> first | exact trivial | rfl | exact wr_succ _ (by omega) | assumption | exact decide_eq_false (by assumption) | exact decide_eq_true (by assumption)
  conv => whnf
  refine callp0 [1] rfl rfl (ra_text s hs s.length (by omega) (qD s).2 (inD s)) rfl rfl rfl rfl rfl ?_
  conv => whnf
  rw [show rdT s s.length (qD s).2 = qT s from rfl]
  conv => whnf
  refine ⟨fun z => ?_, fun z => ?_⟩
  · have z : ¬ (qT s).1 = [] := by have z : (!decide ((qT s).1 = [])) = true := z; simpa using z
    have hc : catOf (qT s).1 = (decCS (qT s).1, !decide (decCE (qT s).1 = 0)) := if_neg z
    have hl : (qT s).1.length ≤ 1000000 := by have : ((qT s).1.length : Int) ≤ s.length := rdT_le s s.length _ (by omega); omega
    conv => whnf
    refine call1 (cat_Decode (qT s).1 hl) rfl ?_
    conv => whnf
    have hX : rawA s = ((qC s).1, (qI s).1, (qR s).1, (qN s).1, (qE s).1, (qD s).1, decCS (qT s).1) := by unfold rawA; rw [hc]
    have hw := repA_wf s
    rw [hX] at hw
    refine callg0 (fun _ => ans_Good ((qC s).1, (qI s).1, (qR s).1, (qN s).1, (qE s).1, (qD s).1, decCS (qT s).1) hw.1 hw.2) rfl ?_
    conv => whnf
    have hk := okA_eq s (b := ((qT s).2.2 || !decide (decCE (qT s).1 = 0))) (by unfold badA; rw [hc]; skip) hX
    refine ⟨fun f => ?_, fun f => ?_⟩
    · have f : (((qT s).2.2 || !decide (decCE (qT s).1 = 0)) || !decide ((qT s).2.1 = s.length) || !goodA ((qC s).1, (qI s).1, (qR s).1, (qN s).1, (qE s).1, (qD s).1, decCS (qT s).1)) = true := f
      have hk : okA s = false := by rw [hk, f]; rfl
      rw [show repA s = A0 from if_neg (by rw [hk]; decide), show repE s = 11 from if_neg (by rw [hk]; decide)]
      conv => whnf
      exact .inr ⟨rfl, rfl⟩
    · have f : (((qT s).2.2 || !decide (decCE (qT s).1 = 0)) || !decide ((qT s).2.1 = s.length) || !goodA ((qC s).1, (qI s).1, (qR s).1, (qN s).1, (qE s).1, (qD s).1, decCS (qT s).1)) = false := f
      have hk : okA s = true := by rw [hk, f]; rfl
      rw [show repA s = ((qC s).1, (qI s).1, (qR s).1, (qN s).1, (qE s).1, (qD s).1, decCS (qT s).1) from (if_pos hk).trans hX, show repE s = 0 from if_pos hk]
      conv => whnf
      exact .inl rfl
  · have z : (qT s).1 = [] := by have z : (!decide ((qT s).1 = [])) = false := z; simpa using z
    have hc : catOf (qT s).1 = (C0, false) := if_pos z
    conv => whnf
    have hX : rawA s = ((qC s).1, (qI s).1, (qR s).1, (qN s).1, (qE s).1, (qD s).1, C0) := by unfold rawA; rw [hc]
    have hw := repA_wf s
    rw [hX] at hw
    refine callg0 (fun _ => ans_Good ((qC s).1, (qI s).1, (qR s).1, (qN s).1, (qE s).1, (qD s).1, C0) hw.1 hw.2) rfl ?_
    conv => whnf
    have hk := okA_eq s (b := (qT s).2.2) (by unfold badA; rw [hc]; exact Bool.or_false _) hX
    refine ⟨fun f => ?_, fun f => ?_⟩
    · have f : ((qT s).2.2 || !decide ((qT s).2.1 = s.length) || !goodA ((qC s).1, (qI s).1, (qR s).1, (qN s).1, (qE s).1, (qD s).1, C0)) = true := f
      have hk : okA s = false := by rw [hk, f]; rfl
      rw [show repA s = A0 from if_neg (by rw [hk]; decide), show repE s = 11 from if_neg (by rw [hk]; decide)]
      conv => whnf
      exact .inr ⟨rfl, rfl⟩
    · have f : ((qT s).2.2 || !decide ((qT s).2.1 = s.length) || !goodA ((qC s).1, (qI s).1, (qR s).1, (qN s).1, (qE s).1, (qD s).1, C0)) = false := f
      have hk : okA s = true := by rw [hk, f]; rfl
      rw [show repA s = ((qC s).1, (qI s).1, (qR s).1, (qN s).1, (qE s).1, (qD s).1, C0) from (if_pos hk).trans hX, show repE s = 0 from if_pos hk]
      conv => whnf
      exact .inl rfl
end Go.Proofs.YtnldokebmfojeaaGreat
/- The walks of answer.writer.props, Encode, Message. Own work. -/
set_option linter.unusedVariables false
set_option maxRecDepth 100000
namespace Go.Proofs.YtnldokebmfojeaaGreat
open Go Go.RowKit OE

abbrev wT : Nat := 95
theorem writer_props (bs : List UInt8) (l : List PD.T) (hl : Wf (.list PD) l) (hb : bs.length + (encPs l).length ≤ 140737488355328) :
    FnP Tryz.prog 46 [.c (.ptr 0 0), .c (.dat PD l)] (hpB wT (.ptr 0 0) bs) 2 kpB .un (hpC wT (bs ++ encPs l)) 3 := by
  refine fnP noI Tryz.func46 rfl rfl rfl rfl ?_
  conv => whnf
  refine call1 (val_EncodeProps l hl) rfl ?_
  conv => whnf
  refine callp0 [0, 1] rfl rfl (ww_WriteString (.ptr 0 0) (.inr rfl) bs (encPs l) hb) rfl rfl rfl rfl rfl ?_
  conv => whnf
  refine ⟨rfl, ?_, ?_, ?_⟩ <;> (repeat' apply And.intro) <;> first | exact trivial | rfl | assumption
abbrev enSt (r : AD.T) (bs : List UInt8) (fr : List (Nat × SV)) : St := ⟨(1, .c (.ptr 0 0)) :: (4, .c (.ptr 1 0)) :: fr, [(0, .cells 32 (ac r)), (1, .cells wT [.ptr 1 0, .row 2]), (2, .row 5 (.int .u8) (byI bs))], 3⟩
theorem putN_ne (n : Nat) : Num.putN n ≠ [] := by
  intro h
  rw [Num.putN] at h
  split at h <;> cases h
theorem encA_ne (r : AD.T) : encA r ≠ [] := by
  intro h
  unfold encA Num.putT at h
  exact putN_ne _ (List.append_eq_nil_iff.1 (List.append_eq_nil_iff.1 h).2).1
theorem ans_Encode (r : AD.T) (hw : Wf AD r) (hl : (aC r).2.2.1.length ≤ 1000) : FnD Tryz.prog 13 [.agg (ac r)] (· = .tup [(false, [.str (encAS r)]), (false, [.int .i64 (errA r)])]) := by
  refine fn0 Tryz.func13 rfl rfl rfl ?_
  conv => whnf
  refine call1 (ans_Good r hw hl) rfl ?_
  conv => whnf
  refine ⟨fun g => ?_, fun g => ?_⟩
  · have g : ¬ goodA r = true := by revert g; cases goodA r <;> simp
    rw [show encAS r = [] from if_neg g, show errA r = 11 from if_neg g]
    conv => whnf
  have g : goodA r = true := by revert g; cases goodA r <;> simp
  rw [show encAS r = encA r from if_pos g, show errA r = 0 from if_pos g]
  have hg := goodA_out g
  have hsh := hg.short hw
  have p1 := Num.putN_ten (wrap_u64 r.1).2
  have p2 := Num.putN_ten (wrap_u64 r.2.1).2
  have p3 := Num.putN_ten (wrap_u64 r.2.2.1).2
  have l4 := enc4_len r
  have l5 := hsh.l5
  have l6 := hsh.l6
  conv => whnf
  refine nilrc0 1 1 5 (.int .u8) rfl rfl ?_
  conv => whnf
  refine callp0 [1, 2] rfl rfl (writer_number0 [] r.1 (by decide)) rfl rfl rfl rfl rfl ?_
  conv => whnf
  refine callp0 [1, 3] rfl rfl (writer_number ([] ++ Num.putN (u64 r.1)) r.2.1 (by rw [List.nil_append]; omega)) rfl rfl rfl rfl rfl ?_
  conv => whnf
  refine callp0 [1, 4] rfl rfl (writer_number ([] ++ Num.putN (u64 r.1) ++ Num.putN (u64 r.2.1)) r.2.2.1 (by rw [List.nil_append, List.length_append]; omega)) rfl rfl rfl rfl rfl ?_
  conv => whnf
  intro _
  conv => whnf
  refine callp0 [1, 5] rfl rfl (writer_number ([] ++ Num.putN (u64 r.1) ++ Num.putN (u64 r.2.1) ++ Num.putN (u64 r.2.2.1)) r.2.2.2.1.length (by rw [List.nil_append, List.length_append, List.length_append]; omega)) rfl rfl rfl rfl rfl ?_
  conv => whnf
  intro _
  conv => whnf
  refine loop0 (α := Nat) (fun i => i ≤ r.2.2.2.1.length) (fun i => enSt r (enc4 r ++ flB encN (r.2.2.2.1.take i)) [(36, .c (.dat ND r.2.2.2.1)), (37, .c (.int .i64 r.2.2.2.1.length)), (38, .c (.int .i64 i))]) (fun i => r.2.2.2.1.length - i) ⟨0, by omega, ?_⟩ ?_
  · rw [List.take_zero, show flB encN [] = [] from rfl, List.append_nil]
    (conv => whnf); refine ⟨rfl, ?_, ?_, ?_⟩ <;> (repeat' apply And.intro) <;> first | exact trivial | rfl | exact wr_succ _ (by omega) | assumption | exact decide_eq_false (by assumption) | exact decide_eq_true (by assumption)
  rintro i hi
  conv => whnf
  refine ⟨fun h2 => ?_, fun h2 => ?_⟩
  · have h2 : i < r.2.2.2.1.length := by rw [decide_eq_true_eq] at h2; omega
    have f1 := hsh.f1 i
    have q1 := Num.putN_ten (wrap_u64 r.2.2.2.1[i].1).2
    have hgn := hg.g1 _ (List.getElem_mem h2)
    have hwn := hw.2.2.2.1.2 _ (List.getElem_mem h2)
    have hen := hsh.g1 _ (List.getElem_mem h2)
    have hnl : r.2.2.2.1[i].2.1.length ≤ 140737488351232 := hwn.2.1
    have htl : (Num.putT r.2.2.2.1[i].2.1).length ≤ 26 := putT_b (nameS_len (by unfold goodN at hgn; simp only [Bool.and_eq_true] at hgn; exact hgn.1.2))
    have hpl := encPs_len hwn.2.2
    conv => whnf
    try (intro _; conv => whnf)
    refine ⟨by omega, ?_⟩
    rw [gt_nat (d := ND) r.2.2.2.1 i h2]
    conv => whnf
    refine callp0 [1, 2] rfl rfl (writer_number (enc4 r ++ flB encN (r.2.2.2.1.take i)) r.2.2.2.1[i].1 (by rw [List.length_append]; omega)) rfl rfl rfl rfl rfl ?_
    conv => whnf
    refine any0 ?_
    conv => whnf
    refine callr0 (num_PutText r.2.2.2.1[i].2.1 (by omega)) rfl ?_
    conv => whnf
    refine callrp0 [1, 4] rfl rfl rfl (ww_WriteString (.ptr 0 0) (.inr rfl) (enc4 r ++ flB encN (r.2.2.2.1.take i) ++ Num.putN (u64 r.2.2.2.1[i].1)) (Num.putT r.2.2.2.1[i].2.1) (by simp only [List.length_append]; omega)) rfl rfl rfl rfl rfl rfl [] rfl rfl ?_
    conv => whnf
    refine ⟨.inl (by kernel_rfl), after0 ?_⟩
    conv => whnf
    refine callp0 [1, 11] rfl rfl (writer_props (enc4 r ++ flB encN (r.2.2.2.1.take i) ++ Num.putN (u64 r.2.2.2.1[i].1) ++ Num.putT r.2.2.2.1[i].2.1) r.2.2.2.1[i].2.2 hwn.2.2 (by simp only [List.length_append]; omega)) rfl rfl rfl rfl rfl ?_
    conv => whnf
    refine ⟨i + 1, ⟨by omega, by omega⟩, ?_⟩
    rw [flB_step encN h2, show enc4 r ++ (flB encN (r.2.2.2.1.take i) ++ encN r.2.2.2.1[i]) = enc4 r ++ flB encN (r.2.2.2.1.take i) ++ Num.putN (u64 r.2.2.2.1[i].1) ++ Num.putT r.2.2.2.1[i].2.1 ++ encPs r.2.2.2.1[i].2.2 by unfold encN; simp only [List.append_assoc]]
    (conv => whnf); refine ⟨rfl, ?_, ?_, ?_⟩ <;> (repeat' apply And.intro) <;> first | exact trivial | rfl | exact wr_succ _ (by omega) | assumption | exact decide_eq_false (by assumption) | exact decide_eq_true (by assumption)
  have h2 : r.2.2.2.1.length ≤ i := by rw [decide_eq_false_iff_not] at h2; omega
  rw [List.take_of_length_le h2]
  clear h2 hi
  have f1 := hsh.f1 r.2.2.2.1.length
  rw [List.take_length] at f1
  conv => whnf
  intro _
  conv => whnf
  refine callp0 [1, 2] rfl rfl (writer_number (enc4 r ++ flB encN r.2.2.2.1) r.2.2.2.2.1.length (by rw [List.length_append]; omega)) rfl rfl rfl rfl rfl ?_
  conv => whnf
  rw [show enc4 r ++ flB encN r.2.2.2.1 ++ Num.putN (u64 r.2.2.2.2.1.length) = enc5 r from rfl]
  intro _
  conv => whnf
  refine loop0 (α := Nat) (fun i => i ≤ r.2.2.2.2.1.length) (fun i => enSt r (enc5 r ++ flB encE (r.2.2.2.2.1.take i)) [(64, .c (.dat ED r.2.2.2.2.1)), (65, .c (.int .i64 r.2.2.2.2.1.length)), (66, .c (.int .i64 i))]) (fun i => r.2.2.2.2.1.length - i) ⟨0, by omega, ?_⟩ ?_
  · rw [List.take_zero, show flB encE [] = [] from rfl, List.append_nil]
    (conv => whnf); refine ⟨rfl, ?_, ?_, ?_⟩ <;> (repeat' apply And.intro) <;> first | exact trivial | rfl | exact wr_succ _ (by omega) | assumption | exact decide_eq_false (by assumption) | exact decide_eq_true (by assumption)
  rintro i hi
  conv => whnf
  refine ⟨fun h2 => ?_, fun h2 => ?_⟩
  · have h2 : i < r.2.2.2.2.1.length := by rw [decide_eq_true_eq] at h2; omega
    have f2 := hsh.f2 i
    have q1 := Num.putN_ten (wrap_u64 r.2.2.2.2.1[i].1).2
    have q2 := Num.putN_ten (wrap_u64 r.2.2.2.2.1[i].2.2.1).2
    have q3 := Num.putN_ten (wrap_u64 r.2.2.2.2.1[i].2.2.2.1).2
    have hgn := hg.g2 _ (List.getElem_mem h2)
    have hwn := hw.2.2.2.2.1.2 _ (List.getElem_mem h2)
    have hnl : r.2.2.2.2.1[i].2.1.length ≤ 140737488351232 := hwn.2.1
    have htl : (Num.putT r.2.2.2.2.1[i].2.1).length ≤ 26 := putT_b (nameS_len (by unfold goodE at hgn; simp only [Bool.and_eq_true] at hgn; exact hgn.1.2))
    have hpl := encPs_len hwn.2.2.2.2
    conv => whnf
    try (intro _; conv => whnf)
    refine ⟨by omega, ?_⟩
    rw [gt_nat (d := ED) r.2.2.2.2.1 i h2]
    conv => whnf
    refine callp0 [1, 2] rfl rfl (writer_number (enc5 r ++ flB encE (r.2.2.2.2.1.take i)) r.2.2.2.2.1[i].1 (by rw [List.length_append]; omega)) rfl rfl rfl rfl rfl ?_
    conv => whnf
    refine any0 ?_
    conv => whnf
    refine callr0 (num_PutText r.2.2.2.2.1[i].2.1 (by omega)) rfl ?_
    conv => whnf
    refine callrp0 [1, 4] rfl rfl rfl (ww_WriteString (.ptr 0 0) (.inr rfl) (enc5 r ++ flB encE (r.2.2.2.2.1.take i) ++ Num.putN (u64 r.2.2.2.2.1[i].1)) (Num.putT r.2.2.2.2.1[i].2.1) (by simp only [List.length_append]; omega)) rfl rfl rfl rfl rfl rfl [] rfl rfl ?_
    conv => whnf
    refine ⟨.inl (by kernel_rfl), after0 ?_⟩
    conv => whnf
    refine callp0 [1, 11] rfl rfl (writer_number (enc5 r ++ flB encE (r.2.2.2.2.1.take i) ++ Num.putN (u64 r.2.2.2.2.1[i].1) ++ Num.putT r.2.2.2.2.1[i].2.1) r.2.2.2.2.1[i].2.2.1 (by simp only [List.length_append]; omega)) rfl rfl rfl rfl rfl ?_
    conv => whnf
    refine callp0 [1, 12] rfl rfl (writer_number (enc5 r ++ flB encE (r.2.2.2.2.1.take i) ++ Num.putN (u64 r.2.2.2.2.1[i].1) ++ Num.putT r.2.2.2.2.1[i].2.1 ++ Num.putN (u64 r.2.2.2.2.1[i].2.2.1)) r.2.2.2.2.1[i].2.2.2.1 (by simp only [List.length_append]; omega)) rfl rfl rfl rfl rfl ?_
    conv => whnf
    refine callp0 [1, 13] rfl rfl (writer_props (enc5 r ++ flB encE (r.2.2.2.2.1.take i) ++ Num.putN (u64 r.2.2.2.2.1[i].1) ++ Num.putT r.2.2.2.2.1[i].2.1 ++ Num.putN (u64 r.2.2.2.2.1[i].2.2.1) ++ Num.putN (u64 r.2.2.2.2.1[i].2.2.2.1)) r.2.2.2.2.1[i].2.2.2.2 hwn.2.2.2.2 (by simp only [List.length_append]; omega)) rfl rfl rfl rfl rfl ?_
    conv => whnf
    refine ⟨i + 1, ⟨by omega, by omega⟩, ?_⟩
    rw [flB_step encE h2, show enc5 r ++ (flB encE (r.2.2.2.2.1.take i) ++ encE r.2.2.2.2.1[i]) = enc5 r ++ flB encE (r.2.2.2.2.1.take i) ++ Num.putN (u64 r.2.2.2.2.1[i].1) ++ Num.putT r.2.2.2.2.1[i].2.1 ++ Num.putN (u64 r.2.2.2.2.1[i].2.2.1) ++ Num.putN (u64 r.2.2.2.2.1[i].2.2.2.1) ++ encPs r.2.2.2.2.1[i].2.2.2.2 by unfold encE; simp only [List.append_assoc]]
    (conv => whnf); refine ⟨rfl, ?_, ?_, ?_⟩ <;> (repeat' apply And.intro) <;> first | exact trivial | rfl | exact wr_succ _ (by omega) | assumption | exact decide_eq_false (by assumption) | exact decide_eq_true (by assumption)
  have h2 : r.2.2.2.2.1.length ≤ i := by rw [decide_eq_false_iff_not] at h2; omega
  rw [List.take_of_length_le h2]
  clear h2 hi
  have f2 := hsh.f2 r.2.2.2.2.1.length
  rw [List.take_length] at f2
  conv => whnf
  intro _
  conv => whnf
  refine callp0 [1, 2] rfl rfl (writer_number (enc5 r ++ flB encE r.2.2.2.2.1) r.2.2.2.2.2.1.length (by rw [List.length_append]; omega)) rfl rfl rfl rfl rfl ?_
  conv => whnf
  rw [show enc5 r ++ flB encE r.2.2.2.2.1 ++ Num.putN (u64 r.2.2.2.2.2.1.length) = enc6 r from rfl]
  intro _
  conv => whnf
  refine loop0 (α := Nat) (fun i => i ≤ r.2.2.2.2.2.1.length) (fun i => enSt r (enc6 r ++ flB (α := Int) encI (r.2.2.2.2.2.1.take i)) [(100, .c (.dat LD r.2.2.2.2.2.1)), (101, .c (.int .i64 r.2.2.2.2.2.1.length)), (102, .c (.int .i64 i))]) (fun i => r.2.2.2.2.2.1.length - i) ⟨0, by omega, ?_⟩ ?_
  · rw [List.take_zero, show flB (α := Int) encI [] = [] from rfl, List.append_nil]
    (conv => whnf); refine ⟨rfl, ?_, ?_, ?_⟩ <;> (repeat' apply And.intro) <;> first | exact trivial | rfl | exact wr_succ _ (by omega) | assumption | exact decide_eq_false (by assumption) | exact decide_eq_true (by assumption)
  rintro i hi
  conv => whnf
  refine ⟨fun h2 => ?_, fun h2 => ?_⟩
  · have h2 : i < r.2.2.2.2.2.1.length := by rw [decide_eq_true_eq] at h2; omega
    have f3 := hsh.f3 i
    conv => whnf
    try (intro _; conv => whnf)
    refine ⟨by omega, ?_⟩
    rw [gt_nat (d := LD) r.2.2.2.2.2.1 i h2]
    conv => whnf
    refine callp0 [1, 2] rfl rfl (writer_number (enc6 r ++ flB (α := Int) encI (r.2.2.2.2.2.1.take i)) r.2.2.2.2.2.1[i] (by rw [List.length_append]; omega)) rfl rfl rfl rfl rfl ?_
    conv => whnf
    refine ⟨i + 1, ⟨by omega, by omega⟩, ?_⟩
    rw [show flB (α := Int) encI (r.2.2.2.2.2.1.take (i + 1)) = flB (α := Int) encI (r.2.2.2.2.2.1.take i) ++ encI r.2.2.2.2.2.1[i] from flB_step (α := Int) encI h2, ← List.append_assoc]
    (conv => whnf); refine ⟨rfl, ?_, ?_, ?_⟩ <;> (repeat' apply And.intro) <;> first | exact trivial | rfl | exact wr_succ _ (by omega) | assumption | exact decide_eq_false (by assumption) | exact decide_eq_true (by assumption)
  have h2 : r.2.2.2.2.2.1.length ≤ i := by rw [decide_eq_false_iff_not] at h2; omega
  rw [List.take_of_length_le h2]
  clear h2 hi
  have f3 := hsh.f3 r.2.2.2.2.2.1.length
  rw [List.take_length] at f3
  have f4 := encCS_len (aC r)
  have f5 := putT_len (encCS (aC r)) (by omega)
  conv => whnf
  refine call1 (cat_Encode (aC r) hw.2.2.2.2.2.2 hl) rfl ?_
  conv => whnf
  refine any0 ?_
  conv => whnf
  refine callr0 (num_PutText (encCS (aC r)) (by omega)) rfl ?_
  conv => whnf
  refine callrp0 [1, 2] rfl rfl rfl (ww_WriteString (.ptr 0 0) (.inr rfl) (enc6 r ++ flB (α := Int) encI r.2.2.2.2.2.1) (Num.putT (encCS (aC r))) (by simp only [List.length_append]; omega)) rfl rfl rfl rfl rfl rfl [] rfl rfl ?_
  conv => whnf
  refine ⟨.inl (by kernel_rfl), after0 ?_⟩
  conv => whnf
  rw [show enc6 r ++ flB (α := Int) encI r.2.2.2.2.2.1 ++ Num.putT (encCS (aC r)) = encA r from rfl]
  refine callp0 [1, 8] rfl rfl (sb_String wT (.ptr 0 0) (.inr rfl) (encA r) (encA_ne r)) rfl rfl rfl rfl rfl ?_
  conv => whnf
def msgA (r : AD.T) : List UInt8 := if goodA r = true then Num.putT (encA r) else []
theorem ans_Message (r : AD.T) (hw : Wf AD r) (hl : (aC r).2.2.1.length ≤ 1000) : FnD Tryz.prog 15 [.agg (ac r)] (· = .tup [(false, [.str (msgA r)]), (false, [.int .i64 (errA r)])]) := by
  refine fn0 Tryz.func15 rfl rfl rfl ?_
  conv => whnf
  refine call1 (ans_Encode r hw hl) rfl ?_
  conv => whnf
  by_cases g : goodA r = true
  · rw [show encAS r = encA r from if_pos g, show errA r = 0 from if_pos g, show msgA r = Num.putT (encA r) from if_pos g]
    refine fk rfl ?_
    conv => whnf
    refine call1 (num_PutText (encA r) (by have := encA_len hw g; omega)) rfl ?_
    conv => whnf
  · rw [show encAS r = [] from if_neg g, show errA r = 11 from if_neg g, show msgA r = [] from if_neg g]
    refine tk rfl ?_
    conv => whnf
end Go.Proofs.YtnldokebmfojeaaGreat
/- A reply's bytes: what was encoded is decoded as it was, what was decoded is encoded as it stood; the two ways of reading are one; no program in sight. Own work. -/
set_option linter.unusedVariables false
set_option maxRecDepth 100000
namespace Go.Proofs.YtnldokebmfojeaaGreat
open Go Go.RowKit OE

/-! what is bad stays so -/
theorem rdN_nb {s : List UInt8} {m : Int} {q : Int × Bool} (h : (rdN s m q).2.2 = false) : q.2 = false := by
  cases hq : q.2 with
  | false => rfl
  | true => rw [rdN, if_pos (.inl hq)] at h; cases h
theorem rdT_nb {s : List UInt8} {m : Int} {q : Int × Bool} (h : (rdT s m q).2.2 = false) : q.2 = false := by
  cases hq : q.2 with
  | false => rfl
  | true => rw [rdT, if_pos (.inl hq)] at h; cases h
theorem rdP_nb {s : List UInt8} {q : Int × Bool} (h : (rdP s q).2.2 = false) : q.2 = false := by
  cases hq : q.2 with
  | false => rfl
  | true => rw [rdP, if_pos (.inl hq)] at h; cases h
theorem oneN_nb {s : List UInt8} {q : Int × Bool} (h : (oneN s q).2.2 = false) : q.2 = false := rdN_nb (rdT_nb (rdP_nb h))
theorem oneE_nb {s : List UInt8} {q : Int × Bool} (h : (oneE s q).2.2 = false) : q.2 = false := rdN_nb (rdT_nb (rdN_nb (rdN_nb (rdP_nb h))))
theorem oneI_nb {s : List UInt8} {q : Int × Bool} (h : (oneI s q).2.2 = false) : q.2 = false := rdN_nb h
theorem lstA_nb {α : Type} {one : Int × Bool → α × Int × Bool} (h1 : ∀ q, (one q).2.2 = false → q.2 = false) : ∀ {n : Nat} {acc : List α} {q : Int × Bool}, (lstA one n acc q).2.2 = false → q.2 = false
  | 0, acc, q, h => h
  | n + 1, acc, q, h => by
    unfold lstA at h
    split at h
    · exact h
    · exact h1 q (lstA_nb h1 h)
theorem listA_nb {α : Type} {s : List UInt8} {one : Int × Bool → α × Int × Bool} (h1 : ∀ q, (one q).2.2 = false → q.2 = false) {q : Int × Bool} (h : (listA s one q).2.2 = false) : q.2 = false := rdN_nb (lstA_nb h1 h)
theorem lst_same {α : Type} {one : Int × Bool → α × Int × Bool} : ∀ {n : Nat} {acc : List α} {q : Int × Bool}, (lstR one n acc q).2 = (lstA one n acc q).2 ∧ ((lstA one n acc q).2.2 = false → lstR one n acc q = lstA one n acc q)
  | 0, acc, q => ⟨rfl, fun _ => rfl⟩
  | n + 1, acc, q => by
    unfold lstR lstA
    by_cases hq : q.2 = true
    · rw [if_pos hq, if_pos hq]
      refine ⟨rfl, fun h => ?_⟩
      have h : q.2 = false := h
      rw [hq] at h; cases h
    · rw [if_neg hq, if_neg hq]
      exact lst_same
theorem list_same {α : Type} (s : List UInt8) (one : Int × Bool → α × Int × Bool) (q : Int × Bool) : (listR s one q).2 = (listA s one q).2 ∧ ((listA s one q).2.2 = false → listR s one q = listA s one q) := lst_same
theorem rdT_most {s : List UInt8} (hs : s.length ≤ 1073741824) (q : Int × Bool) : rdT s 1073741824 q = rdT s s.length q := by
  have e : Num.getT s q.1 1073741824 = Num.getT s q.1 s.length := by
    unfold Num.getT
    cases g : Num.getN s q.1 with
    | none => rfl
    | some p =>
      obtain ⟨n, k⟩ := p
      dsimp only
      by_cases h : q.1.toNat + k + n > s.length
      · rw [if_pos (.inr (.inr h)), if_pos (.inr (.inr h))]
      · rw [if_neg (by omega), if_neg (by omega)]
  unfold rdT tS
  rw [e]
theorem pN_q (s : List UInt8) : (pN s).2 = (qN s).2 := (list_same s _ _).1
theorem pE_q (s : List UInt8) : (pE s).2 = (qE s).2 := by
  unfold pE qE
  rw [pN_q]
  exact (list_same s _ _).1
theorem pD_q (s : List UInt8) : (pD s).2 = (qD s).2 := by
  unfold pD qD
  rw [pE_q]
  exact (list_same s _ _).1
theorem pT_q {s : List UInt8} (hs : s.length ≤ 1073741824) : pT s = qT s := by
  unfold pT qT
  rw [pD_q, rdT_most hs]
theorem raw_same {s : List UInt8} (hs : s.length ≤ 1073741824) (h : badA s = false) : rawR s = rawA s := by
  unfold badA at h
  rw [Bool.or_eq_false_iff] at h
  have hD := rdT_nb h.1
  have hE := listA_nb (fun _ => oneI_nb) hD
  have hN := listA_nb (fun _ => oneE_nb) hE
  have e1 : pN s = qN s := (list_same s _ _).2 hN
  have e2 : pE s = qE s := by
    unfold pE qE
    rw [e1]
    exact (list_same s _ _).2 hE
  have e3 : pD s = qD s := by
    unfold pD qD
    rw [e2]
    exact (list_same s _ _).2 hD
  unfold rawR rawA
  rw [e1, e2, e3, pT_q hs]
theorem bad_same {s : List UInt8} (hs : s.length ≤ 1073741824) : badR s = badA s := by
  unfold badR badA
  rw [pT_q hs]
theorem ok_same {s : List UInt8} (hs : s.length ≤ 1073741824) : okR' s = okA s := by
  unfold okR' okA
  rw [bad_same hs, pT_q hs]
  cases hb : badA s with
  | true => rfl
  | false => rw [raw_same hs hb]
theorem dec_same {s : List UInt8} (hs : s.length ≤ 1073741824) : (if okR' s = true then rawR s else A0) = repA s := by
  unfold repA
  rw [ok_same hs]
  by_cases h : okA s = true
  · rw [if_pos h, if_pos h]
    refine raw_same hs ?_
    unfold okA at h
    cases hb : badA s with
    | true => rw [hb] at h; cases h
    | false => rfl
  · rw [if_neg h, if_neg h]

/-! there -/
theorem nS_of {s : List UInt8} {k : Int} {p : Nat × Nat} (h : Num.getN s k = some p) : nS s k = p := by unfold nS; rw [h]; rfl
theorem tS_of {s : List UInt8} {k m : Int} {p : List UInt8 × Nat} (h : Num.getT s k m = some p) : tS s k m = p := by unfold tS; rw [h]; rfl
theorem pS_of {s : List UInt8} {k : Int} {p : List PD.T × Nat} (h : decPs s k = some p) : pS s k = p := by unfold pS; rw [h]; rfl
theorem u64_id {n : Int} (h0 : 0 ≤ n) (h1 : n ≤ 4611686018427387903) : ((u64 n : Nat) : Int) = n := by
  rw [u64_of h0 (by omega)]
  omega
theorem rdN_at {s : List UInt8} (p r : List UInt8) (n most : Int) (hs : s = p ++ Num.putN (u64 n) ++ r) (h0 : 0 ≤ n) (h1 : n ≤ most) (hm : most ≤ 4611686018427387903) : rdN s most ((p.length : Int), false) = (n, (((p ++ Num.putN (u64 n)).length : Nat) : Int), false) := by
  have hu := u64_id h0 (by omega)
  have hg := Num.getN_put (u64 n) p r (by omega)
  rw [← hs] at hg
  unfold rdN
  rw [nS_of hg, hg, if_neg]
  · dsimp only
    rw [hu, wr64 _ (by omega) (by omega), List.length_append]
    rfl
  · rintro (h | h | h)
    · cases h
    · cases h
    · dsimp only at h
      omega
theorem rdT_at {s : List UInt8} (p r t : List UInt8) (most : Int) (hs : s = p ++ Num.putT t ++ r) (h1 : (t.length : Int) ≤ most) (hm : most ≤ 4611686018427387903) : rdT s most ((p.length : Int), false) = (t, (((p ++ Num.putT t).length : Nat) : Int), false) := by
  have hg := Num.getT_put t p r most h1 (by omega)
  rw [← hs] at hg
  unfold rdT
  rw [tS_of hg, hg, if_neg]
  · dsimp only
    rw [List.length_append]
    rfl
  · rintro (h | h)
    · cases h
    · cases h
theorem rdP_at {s : List UInt8} (p r : List UInt8) {l : List PD.T} (hl : Wf (.list PD) l) (h : propsS l = true) (hs : s = p ++ encPs l ++ r) : rdP s ((p.length : Int), false) = (l, (((p ++ encPs l).length : Nat) : Int), false) := by
  have hg := decPs_enc hl h p r hs rfl
  unfold rdP
  rw [pS_of hg, hg, if_neg]
  · dsimp only
    rw [List.length_append]
    rfl
  · rintro (h | h)
    · cases h
    · cases h
theorem okId_out {n : Int} (h : okId n = true) : 0 ≤ n ∧ n ≤ 4611686018427387903 := by
  unfold okId at h
  rwa [Bool.and_eq_true, decide_eq_true_eq, decide_eq_true_eq] at h
theorem oneN_at {s : List UInt8} (p r : List UInt8) (n : ND.T) (hw : Wf ND n) (hg : goodN n = true) (hs : s = p ++ encN n ++ r) : oneN s ((p.length : Int), false) = (n, (((p ++ encN n).length : Nat) : Int), false) := by
  obtain ⟨i, t, l⟩ := n
  unfold goodN at hg
  simp only [Bool.and_eq_true] at hg
  obtain ⟨⟨g1, g2⟩, g3⟩ := hg
  obtain ⟨i0, i1⟩ := okId_out g1
  have e : encN (i, t, l) = Num.putN (u64 i) ++ Num.putT t ++ encPs l := rfl
  rw [e] at hs ⊢
  unfold oneN
  rw [rdN_at p (Num.putT t ++ encPs l ++ r) i mxI (by rw [hs]; simp only [List.append_assoc]) i0 i1 (by decide)]
  dsimp only
  rw [rdT_at (p ++ Num.putN (u64 i)) (encPs l ++ r) t 16 (by rw [hs]; simp only [List.append_assoc]) (by have : t.length ≤ 16 := nameS_len g2; omega) (by decide)]
  dsimp only
  rw [rdP_at (p ++ Num.putN (u64 i) ++ Num.putT t) r hw.2.2 g3 (by rw [hs]; simp only [List.append_assoc])]
  simp only [List.append_assoc]
theorem oneE_at {s : List UInt8} (p r : List UInt8) (n : ED.T) (hw : Wf ED n) (hg : goodE n = true) (hs : s = p ++ encE n ++ r) : oneE s ((p.length : Int), false) = (n, (((p ++ encE n).length : Nat) : Int), false) := by
  obtain ⟨i, t, a, b, l⟩ := n
  unfold goodE at hg
  simp only [Bool.and_eq_true] at hg
  obtain ⟨⟨⟨⟨g1, ga⟩, gb⟩, g2⟩, g3⟩ := hg
  obtain ⟨i0, i1⟩ := okId_out g1
  obtain ⟨a0, a1⟩ := okId_out ga
  obtain ⟨b0, b1⟩ := okId_out gb
  have e : encE (i, t, a, b, l) = Num.putN (u64 i) ++ Num.putT t ++ Num.putN (u64 a) ++ Num.putN (u64 b) ++ encPs l := rfl
  rw [e] at hs ⊢
  unfold oneE
  rw [rdN_at p (Num.putT t ++ Num.putN (u64 a) ++ Num.putN (u64 b) ++ encPs l ++ r) i mxI (by rw [hs]; simp only [List.append_assoc]) i0 i1 (by decide)]
  dsimp only
  rw [rdT_at (p ++ Num.putN (u64 i)) (Num.putN (u64 a) ++ Num.putN (u64 b) ++ encPs l ++ r) t 16 (by rw [hs]; simp only [List.append_assoc]) (by have : t.length ≤ 16 := nameS_len g2; omega) (by decide)]
  dsimp only
  rw [rdN_at (p ++ Num.putN (u64 i) ++ Num.putT t) (Num.putN (u64 b) ++ encPs l ++ r) a mxI (by rw [hs]; simp only [List.append_assoc]) a0 a1 (by decide)]
  dsimp only
  rw [rdN_at (p ++ Num.putN (u64 i) ++ Num.putT t ++ Num.putN (u64 a)) (encPs l ++ r) b mxI (by rw [hs]; simp only [List.append_assoc]) b0 b1 (by decide)]
  dsimp only
  rw [rdP_at (p ++ Num.putN (u64 i) ++ Num.putT t ++ Num.putN (u64 a) ++ Num.putN (u64 b)) r hw.2.2.2.2 g3 (by rw [hs]; simp only [List.append_assoc])]
  simp only [List.append_assoc]
theorem oneI_at {s : List UInt8} (p r : List UInt8) (n : Int) (hg : okId n = true) (hs : s = p ++ encI n ++ r) : oneI s ((p.length : Int), false) = (n, (((p ++ encI n).length : Nat) : Int), false) :=
  rdN_at p r n mxI hs (okId_out hg).1 (okId_out hg).2 (by decide)
theorem lst_at {α : Type} {s : List UInt8} {one : Int × Bool → α × Int × Bool} {enc : α → List UInt8} : ∀ {l : List α} {acc : List α} (p r : List UInt8), (∀ x ∈ l, ∀ p r, s = p ++ enc x ++ r → one ((p.length : Int), false) = (x, (((p ++ enc x).length : Nat) : Int), false)) → s = p ++ flB enc l ++ r →
    lstA one l.length acc ((p.length : Int), false) = (acc ++ l, (((p ++ flB enc l).length : Nat) : Int), false)
  | [], acc, p, r, h1, hs => by
    show (acc, _) = _
    rw [List.append_nil, show flB enc [] = [] from rfl, List.append_nil]
  | x :: l, acc, p, r, h1, hs => by
    have e : flB enc (x :: l) = enc x ++ flB enc l := rfl
    rw [e] at hs ⊢
    have hx := h1 x (by simp) p (flB enc l ++ r) (by rw [hs]; simp only [List.append_assoc])
    show lstA one (l.length + 1) acc _ = _
    unfold lstA
    rw [if_neg (show ¬ (((p.length : Int), false) : Int × Bool).2 = true from fun h => by cases h), hx]
    dsimp only
    rw [lst_at (p ++ enc x) r (fun y hy => h1 y (by simp [hy])) (by rw [hs]; simp only [List.append_assoc])]
    simp only [List.append_assoc, List.singleton_append]
theorem list_at {α : Type} {s : List UInt8} {one : Int × Bool → α × Int × Bool} {enc : α → List UInt8} {l : List α} (p r : List UInt8) (h1 : ∀ x ∈ l, ∀ p r, s = p ++ enc x ++ r → one ((p.length : Int), false) = (x, (((p ++ enc x).length : Nat) : Int), false)) (hl : l.length ≤ 1024) (hs : s = p ++ Num.putN (u64 l.length) ++ flB enc l ++ r) :
    listA s one ((p.length : Int), false) = (l, (((p ++ Num.putN (u64 l.length) ++ flB enc l).length : Nat) : Int), false) := by
  unfold listA
  rw [rdN_at p (flB enc l ++ r) (l.length : Int) 1024 (by rw [hs]; simp only [List.append_assoc]) (by omega) (by omega) (by decide)]
  dsimp only
  rw [Int.toNat_natCast, lst_at (p ++ Num.putN (u64 l.length)) r h1 hs, List.nil_append]
theorem empty_C0 {c : CD.T} (h : emptyC c = true) : c = C0 ∧ encCS c = [] := by
  unfold emptyC at h
  rw [Bool.and_eq_true, decide_eq_true_eq, decide_eq_true_eq] at h
  obtain ⟨l1, l2, rs, is, nx⟩ := c
  obtain ⟨h1, h2⟩ := h
  have h1 : nx = 0 := h1
  subst h1
  have h2 : l1.length + l2.length + rs.length + is.length = 0 := h2
  cases l1 with
  | cons _ _ => rw [List.length_cons] at h2; omega
  | nil =>
  cases l2 with
  | cons _ _ => rw [List.length_cons] at h2; omega
  | nil =>
  cases rs with
  | cons _ _ => rw [List.length_cons] at h2; omega
  | nil =>
  cases is with
  | cons _ _ => rw [List.length_cons] at h2; omega
  | nil => exact ⟨rfl, by rfl⟩
theorem encCS_C0 : encCS C0 = [] := by rfl
theorem catB_ne (c : CD.T) : catB' c ≠ [] := by
  intro h
  have : Num.putN (Int.toNat c.2.2.2.2) = [] := by
    unfold catB' at h
    exact (List.append_eq_nil_iff.1 h).2
  rw [Num.putN] at this
  split at this <;> cases this
theorem cat_at {c : CD.T} (h : (emptyC c || goodC c) = true) : catOf (encCS c) = (c, false) := by
  unfold catOf
  by_cases g : goodC c = true
  · have e : encCS c = catB' c := if_pos g
    rw [if_neg (by rw [e]; exact catB_ne c), decCS, decCE, dec_enc g]
    rfl
  · rw [Bool.or_eq_true] at h
    have h := empty_C0 (h.resolve_right g)
    rw [h.2, if_pos rfl, h.1]
theorem rep_encA {r : AD.T} (hw : Wf AD r) (h : goodA r = true) : rawA (encA r) = r ∧ okA (encA r) = true := by
  have hg := goodA_out h
  obtain ⟨c, i, u, ns, es, is, k⟩ := r
  obtain ⟨w1, w2, w3, w4, w5, w6, w7⟩ := hw
  obtain ⟨c0, c1, gi, u0, u1, n1, n2, n3, g1, g2, g3, gk⟩ := hg
  dsimp only at c0 c1 gi u0 u1 n1 n2 n3 g1 g2 g3 gk
  obtain ⟨i0, i1⟩ := okId_out gi
  have gk : (emptyC k || goodC k) = true := gk
  generalize hs0 : encA (c, i, u, ns, es, is, k) = s
  have hs : Num.putN (u64 c) ++ Num.putN (u64 i) ++ Num.putN (u64 u) ++ Num.putN (u64 ns.length) ++ flB encN ns ++ Num.putN (u64 es.length) ++ flB encE es ++ Num.putN (u64 is.length) ++ flB (α := Int) encI is ++ Num.putT (encCS k) = s := hs0
  have x1 : qC s = (c, (((Num.putN (u64 c)).length : Nat) : Int), false) :=
    rdN_at (s := s) [] (Num.putN (u64 i) ++ Num.putN (u64 u) ++ Num.putN (u64 ns.length) ++ flB encN ns ++ Num.putN (u64 es.length) ++ flB encE es ++ Num.putN (u64 is.length) ++ flB (α := Int) encI is ++ Num.putT (encCS k)) c 1000 (by rw [← hs]; simp only [List.append_assoc, List.nil_append]) c0 c1 (by decide)
  have x2 : qI s = (i, (((Num.putN (u64 c) ++ Num.putN (u64 i)).length : Nat) : Int), false) := by
    unfold qI
    rw [x1]
    exact rdN_at (s := s) (Num.putN (u64 c)) (Num.putN (u64 u) ++ Num.putN (u64 ns.length) ++ flB encN ns ++ Num.putN (u64 es.length) ++ flB encE es ++ Num.putN (u64 is.length) ++ flB (α := Int) encI is ++ Num.putT (encCS k)) i mxI (by rw [← hs]; simp only [List.append_assoc]) i0 i1 (by decide)
  have x3 : qR s = (u, (((Num.putN (u64 c) ++ Num.putN (u64 i) ++ Num.putN (u64 u)).length : Nat) : Int), false) := by
    unfold qR
    rw [x2]
    exact rdN_at (s := s) (Num.putN (u64 c) ++ Num.putN (u64 i)) (Num.putN (u64 ns.length) ++ flB encN ns ++ Num.putN (u64 es.length) ++ flB encE es ++ Num.putN (u64 is.length) ++ flB (α := Int) encI is ++ Num.putT (encCS k)) u 1000000 (by rw [← hs]; simp only [List.append_assoc]) u0 u1 (by decide)
  have x4 : qN s = (ns, (((Num.putN (u64 c) ++ Num.putN (u64 i) ++ Num.putN (u64 u) ++ Num.putN (u64 ns.length) ++ flB encN ns).length : Nat) : Int), false) := by
    unfold qN
    rw [x3]
    exact list_at (s := s) (one := oneN s) (enc := encN) (Num.putN (u64 c) ++ Num.putN (u64 i) ++ Num.putN (u64 u)) (Num.putN (u64 es.length) ++ flB encE es ++ Num.putN (u64 is.length) ++ flB (α := Int) encI is ++ Num.putT (encCS k)) (fun x hx p r e => oneN_at p r x (w4.2 x hx) (g1 x hx) e) n1 (by rw [← hs]; simp only [List.append_assoc])
  have x5 : qE s = (es, (((Num.putN (u64 c) ++ Num.putN (u64 i) ++ Num.putN (u64 u) ++ Num.putN (u64 ns.length) ++ flB encN ns ++ Num.putN (u64 es.length) ++ flB encE es).length : Nat) : Int), false) := by
    unfold qE
    rw [x4]
    exact list_at (s := s) (one := oneE s) (enc := encE) (Num.putN (u64 c) ++ Num.putN (u64 i) ++ Num.putN (u64 u) ++ Num.putN (u64 ns.length) ++ flB encN ns) (Num.putN (u64 is.length) ++ flB (α := Int) encI is ++ Num.putT (encCS k)) (fun x hx p r e => oneE_at p r x (w5.2 x hx) (g2 x hx) e) n2 (by rw [← hs]; simp only [List.append_assoc])
  have x6 : qD s = (is, (((Num.putN (u64 c) ++ Num.putN (u64 i) ++ Num.putN (u64 u) ++ Num.putN (u64 ns.length) ++ flB encN ns ++ Num.putN (u64 es.length) ++ flB encE es ++ Num.putN (u64 is.length) ++ flB (α := Int) encI is).length : Nat) : Int), false) := by
    unfold qD
    rw [x5]
    exact list_at (s := s) (one := oneI s) (enc := encI) (l := is) (Num.putN (u64 c) ++ Num.putN (u64 i) ++ Num.putN (u64 u) ++ Num.putN (u64 ns.length) ++ flB encN ns ++ Num.putN (u64 es.length) ++ flB encE es) (Num.putT (encCS k)) (fun x hx p r e => oneI_at p r x (g3 x hx) e) n3 (by rw [← hs])
  have hbig : s.length ≤ 100000000 := by
    rw [← hs0]
    exact encA_len ⟨w1, w2, w3, w4, w5, w6, w7⟩ h
  have hlen : (encCS k).length ≤ s.length := by
    have e := congrArg List.length hs
    simp only [List.length_append, Num.putT] at e
    omega
  have x7 : qT s = (encCS k, ((s.length : Nat) : Int), false) := by
    unfold qT
    rw [x6]
    dsimp only
    rw [rdT_at (s := s) (Num.putN (u64 c) ++ Num.putN (u64 i) ++ Num.putN (u64 u) ++ Num.putN (u64 ns.length) ++ flB encN ns ++ Num.putN (u64 es.length) ++ flB encE es ++ Num.putN (u64 is.length) ++ flB (α := Int) encI is) [] (encCS k) s.length (by rw [← hs]; simp only [List.append_assoc, List.append_nil]) (by omega) (by omega)]
    rw [hs]
  have e : rawA s = (c, i, u, ns, es, is, k) := by
    unfold rawA
    rw [x1, x2, x3, x4, x5, x6, x7]
    dsimp only
    rw [cat_at gk]
  refine ⟨e, ?_⟩
  unfold okA badA
  rw [e, h, x7]
  dsimp only
  rw [cat_at gk]
  simp

/-! back -/
def cut (s : List UInt8) (q : Int × Bool) : List UInt8 := s.take q.1.toNat
theorem cut_add {s : List UInt8} {a : Int} {k : Nat} (h : 0 ≤ a) {X : List UInt8} (e : (s.drop a.toNat).take k = X) (b : Bool) : cut s (a + k, b) = s.take a.toNat ++ X := by
  unfold cut
  dsimp only
  rw [show (a + (k : Int)).toNat = a.toNat + k by omega, List.take_add, e]
theorem rdN_back {s : List UInt8} {m : Int} {q : Int × Bool} (hi : inS s q) (hm : m ≤ 4611686018427387903) (h : (rdN s m q).2.2 = false) : cut s (rdN s m q).2 = cut s q ++ Num.putN (u64 (rdN s m q).1) := by
  have hq := rdN_nb h
  unfold rdN at h ⊢
  split at h
  · cases h
  rename_i hc
  rw [if_neg hc]
  dsimp only
  obtain ⟨p, hp⟩ := Option.isSome_iff_exists.1 (not_false' fun h => hc (.inr (.inl h)))
  have hn : ¬ m < ((nS s q.1).1 : Int) := fun h => hc (.inr (.inr h))
  rw [nS_of hp] at hn ⊢
  have e : IntKind.wrap .i64 ((p.1 : Nat) : Int) = (p.1 : Int) := wr64 _ (by omega) (by omega)
  rw [e, u64_of (by omega) (by omega), Int.toNat_natCast, hq]
  exact cut_add hi.1 (Num.getN_take (m := p.1) (k := p.2) hp) _
theorem rdT_back {s : List UInt8} {m : Int} {q : Int × Bool} (hi : inS s q) (h : (rdT s m q).2.2 = false) : cut s (rdT s m q).2 = cut s q ++ Num.putT (rdT s m q).1 := by
  have hq := rdT_nb h
  unfold rdT at h ⊢
  split at h
  · cases h
  rename_i hc
  rw [if_neg hc]
  dsimp only
  obtain ⟨p, hp⟩ := Option.isSome_iff_exists.1 (not_false' fun h => hc (.inr h))
  rw [tS_of hp, hq]
  exact cut_add hi.1 (gtS_take (t := p.1) (i := p.2) hp _ rfl).1 _
theorem decPs_take' {s : List UInt8} {k : Int} (hk : 0 ≤ k) {l : List PD.T} {m : Nat} (h : decPs s k = some (l, m)) : (s.drop k.toNat).take m = encPs l := by
  unfold decPs at h
  cases g1 : Num.getN s k with
  | none => rw [g1] at h; cases h
  | some p1 =>
  rw [g1] at h; dsimp only at h
  split at h
  · cases h
  cases g2 : decL p1.1 s (k + p1.2) with
  | none => rw [g2] at h; cases h
  | some p2 =>
  rw [g2] at h; dsimp only at h
  split at h
  case isFalse => cases h
  rename_i hp
  simp only [Option.some.injEq, Prod.mk.injEq] at h
  obtain ⟨rfl, rfl⟩ := h
  have t1 := Num.getN_take (m := p1.1) (k := p1.2) g1
  have t2 := decL_take (l := p2.1) (m := p2.2) (by omega) g2
  rw [show (k + (p1.2 : Int)).toNat = k.toNat + p1.2 by omega] at t2
  unfold encPs
  rw [if_pos hp, List.take_add, List.drop_drop, t1, t2.1, t2.2.1]
theorem rdP_back {s : List UInt8} {q : Int × Bool} (hi : inS s q) (h : (rdP s q).2.2 = false) : cut s (rdP s q).2 = cut s q ++ encPs (rdP s q).1 := by
  have hq := rdP_nb h
  unfold rdP at h ⊢
  split at h
  · cases h
  rename_i hc
  rw [if_neg hc]
  dsimp only
  obtain ⟨p, hp⟩ := Option.isSome_iff_exists.1 (not_false' fun h => hc (.inr h))
  rw [pS_of hp, hq]
  exact cut_add hi.1 (decPs_take' hi.1 (l := p.1) (m := p.2) hp) _
theorem oneN_back {s : List UInt8} {q : Int × Bool} (hi : inS s q) (h : (oneN s q).2.2 = false) : cut s (oneN s q).2 = cut s q ++ encN (oneN s q).1 := by
  have h : (rdP s (rdT s 16 (rdN s mxI q).2).2).2.2 = false := h
  have b2 := rdP_nb h
  have b1 := rdT_nb b2
  show cut s (rdP s (rdT s 16 (rdN s mxI q).2).2).2 = _
  rw [rdP_back (rdT_in (rdN_in hi)) h, rdT_back (rdN_in hi) b2, rdN_back hi (by decide) b1]
  show _ = cut s q ++ (Num.putN (u64 (rdN s mxI q).1) ++ Num.putT (rdT s 16 (rdN s mxI q).2).1 ++ encPs (rdP s (rdT s 16 (rdN s mxI q).2).2).1)
  simp only [List.append_assoc]
theorem oneE_back {s : List UInt8} {q : Int × Bool} (hi : inS s q) (h : (oneE s q).2.2 = false) : cut s (oneE s q).2 = cut s q ++ encE (oneE s q).1 := by
  have h : (rdP s (rdN s mxI (rdN s mxI (rdT s 16 (rdN s mxI q).2).2).2).2).2.2 = false := h
  have b4 := rdP_nb h
  have b3 := rdN_nb b4
  have b2 := rdN_nb b3
  have b1 := rdT_nb b2
  have i1 := rdN_in (most := mxI) hi
  have i2 := rdT_in (most := 16) i1
  have i3 := rdN_in (most := mxI) i2
  have i4 := rdN_in (most := mxI) i3
  show cut s (rdP s (rdN s mxI (rdN s mxI (rdT s 16 (rdN s mxI q).2).2).2).2).2 = _
  rw [rdP_back i4 h, rdN_back i3 (by decide) b4, rdN_back i2 (by decide) b3, rdT_back i1 b2, rdN_back hi (by decide) b1]
  show _ = cut s q ++ (Num.putN (u64 (rdN s mxI q).1) ++ Num.putT (rdT s 16 (rdN s mxI q).2).1 ++ Num.putN (u64 (rdN s mxI (rdT s 16 (rdN s mxI q).2).2).1) ++ Num.putN (u64 (rdN s mxI (rdN s mxI (rdT s 16 (rdN s mxI q).2).2).2).1) ++ encPs (rdP s (rdN s mxI (rdN s mxI (rdT s 16 (rdN s mxI q).2).2).2).2).1)
  simp only [List.append_assoc]
theorem lst_back {α : Type} {s : List UInt8} {one : Int × Bool → α × Int × Bool} {enc : α → List UInt8} (hn : ∀ q, (one q).2.2 = false → q.2 = false) (hin : ∀ q, inS s q → inS s (one q).2) (hb : ∀ q, inS s q → (one q).2.2 = false → cut s (one q).2 = cut s q ++ enc (one q).1) : ∀ {n : Nat} {acc : List α} {q : Int × Bool}, inS s q → (lstA one n acc q).2.2 = false →
    ∃ l, (lstA one n acc q).1 = acc ++ l ∧ l.length = n ∧ cut s (lstA one n acc q).2 = cut s q ++ flB enc l
  | 0, acc, q, hi, h => ⟨[], by rw [List.append_nil]; rfl, rfl, by rw [show flB enc [] = [] from rfl, List.append_nil]; rfl⟩
  | n + 1, acc, q, hi, h => by
    unfold lstA at h ⊢
    by_cases hq : q.2 = true
    · rw [if_pos hq] at h
      have h : q.2 = false := h
      rw [hq] at h; cases h
    · rw [if_neg hq] at h ⊢
      have h1 := lstA_nb hn h
      obtain ⟨l, e1, e2, e3⟩ := lst_back hn hin hb (hin q hi) h
      refine ⟨(one q).1 :: l, by rw [e1]; simp only [List.append_assoc, List.singleton_append], by rw [List.length_cons, e2], ?_⟩
      rw [e3, hb q hi h1, show flB enc ((one q).1 :: l) = enc (one q).1 ++ flB enc l from rfl]
      simp only [List.append_assoc]
theorem list_back {α : Type} {s : List UInt8} {one : Int × Bool → α × Int × Bool} {enc : α → List UInt8} (hn : ∀ q, (one q).2.2 = false → q.2 = false) (hin : ∀ q, inS s q → inS s (one q).2) (hb : ∀ q, inS s q → (one q).2.2 = false → cut s (one q).2 = cut s q ++ enc (one q).1) {q : Int × Bool} (hi : inS s q) (h : (listA s one q).2.2 = false) :
    cut s (listA s one q).2 = cut s q ++ Num.putN (u64 (listA s one q).1.length) ++ flB enc (listA s one q).1 := by
  have hv := rdN_val s q (most := 1024) (by decide) (by decide)
  unfold listA at h ⊢
  obtain ⟨l, e1, e2, e3⟩ := lst_back hn hin hb (rdN_in hi) h
  rw [e3, e1, List.nil_append, e2, rdN_back hi (by decide) (lstA_nb hn h)]
  rw [show (((rdN s 1024 q).1.toNat : Nat) : Int) = (rdN s 1024 q).1 by omega]
theorem cat_back {t : List UInt8} (h : (catOf t).2 = false) : encCS (catOf t).1 = t := by
  unfold catOf at h ⊢
  by_cases ht : t = []
  · rw [if_pos ht, ht]
    exact encCS_C0
  · rw [if_neg ht] at h ⊢
    dsimp only at h ⊢
    cases hd : decO t with
    | none => rw [decCE, hd] at h; cases h
    | some d =>
      rw [decCS, hd]
      obtain ⟨g1, g2⟩ := enc_dec hd
      show encCS d = t
      rw [show encCS d = catB' d from if_pos g1, g2]
theorem enc_repA {s : List UInt8} (h : okA s = true) : goodA (rawA s) = true ∧ encA (rawA s) = s := by
  unfold okA badA at h
  simp only [Bool.and_eq_true, Bool.not_eq_true', Bool.or_eq_false_iff, decide_eq_true_eq] at h
  obtain ⟨⟨hT, hc⟩, hl, hg⟩ := h
  refine ⟨hg, ?_⟩
  have hD : (qD s).2.2 = false := rdT_nb hT
  have hE : (qE s).2.2 = false := listA_nb (fun _ => oneI_nb) hD
  have hN : (qN s).2.2 = false := listA_nb (fun _ => oneE_nb) hE
  have hR : (qR s).2.2 = false := listA_nb (fun _ => oneN_nb) hN
  have hI : (qI s).2.2 = false := rdN_nb hR
  have hC : (qC s).2.2 = false := rdN_nb hI
  have e1 : cut s (qC s).2 = Num.putN (u64 (qC s).1) := rdN_back (in0 s) (by decide) hC
  have e2 : cut s (qI s).2 = cut s (qC s).2 ++ Num.putN (u64 (qI s).1) := rdN_back (inC s) (by decide) hI
  have e3 : cut s (qR s).2 = cut s (qI s).2 ++ Num.putN (u64 (qR s).1) := rdN_back (inI s) (by decide) hR
  have e4 : cut s (qN s).2 = cut s (qR s).2 ++ Num.putN (u64 (qN s).1.length) ++ flB encN (qN s).1 := list_back (fun _ => oneN_nb) (fun _ h => oneN_in h) (fun _ => oneN_back) (inR s) hN
  have e5 : cut s (qE s).2 = cut s (qN s).2 ++ Num.putN (u64 (qE s).1.length) ++ flB encE (qE s).1 := list_back (fun _ => oneE_nb) (fun _ h => oneE_in h) (fun _ => oneE_back) (inN s) hE
  have e6 : cut s (qD s).2 = cut s (qE s).2 ++ Num.putN (u64 (qD s).1.length) ++ flB (α := Int) encI (qD s).1 := list_back (one := oneI s) (enc := encI) (fun _ => oneI_nb) (fun _ h => oneI_in h) (fun q hi h => rdN_back (m := mxI) hi (by decide) h) (inE s) hD
  have e7 : cut s (qT s).2 = cut s (qD s).2 ++ Num.putT (qT s).1 := rdT_back (inD s) hT
  have e8 : cut s (qT s).2 = s := by
    unfold cut
    rw [hl, Int.toNat_natCast, List.take_length]
  have e9 : encCS (aC (rawA s)) = (qT s).1 := cat_back hc
  rw [e8, e6, e5, e4, e3, e2, e1] at e7
  unfold encA enc6 enc5 enc4
  rw [e9]
  exact e7.symm
end Go.Proofs.YtnldokebmfojeaaGreat
/- The walks of answer.lacks, Next, and of the reference's Next at the length of a reply. Own work. -/
set_option linter.unusedVariables false
set_option maxRecDepth 100000
namespace Go.Proofs.YtnldokebmfojeaaGreat
open Go Go.RowKit OE

/-- may bytes become a message's length? -/
def lackA (s : List UInt8) : Bool := decide (s.length ≤ 3) && s.all fun c => decide (128 ≤ c.toNat)
theorem all_lt {s : List UInt8} {i : Nat} (h : i < s.length) (hb : s[i].toNat < 128) : lackA s = false := by
  unfold lackA
  rw [Bool.and_eq_false_iff]
  right
  rw [List.all_eq_false]
  exact ⟨s[i], List.getElem_mem h, by simp; omega⟩
theorem all_ge {s : List UInt8} {i : Nat} (hi : s.length ≤ i) (h : ∀ j (hj : j < s.length), j < i → 128 ≤ s[j].toNat) (h3 : s.length ≤ 3) : lackA s = true := by
  unfold lackA
  rw [Bool.and_eq_true, decide_eq_true_eq, List.all_eq_true]
  refine ⟨h3, fun c hc => ?_⟩
  obtain ⟨j, hj, rfl⟩ := List.mem_iff_getElem.1 hc
  simpa using h j hj (by omega)
theorem long_no {s : List UInt8} (h : 3 < s.length) : lackA s = false := by
  unfold lackA
  rw [decide_eq_false (by omega)]; rfl
theorem pow_le3 {i : Nat} (h : i ≤ 3) : 128 ^ i ≤ 2097152 := Nat.pow_le_pow_right (n := 128) (by decide) h
theorem ans_lacks (s : List UInt8) (hs : s.length ≤ 1000000) : FnD Tryz.prog 33 [.c (.str s)] (· = .c (.bool (.sym (lackA s)))) := by
  refine fn0 Tryz.func33 rfl rfl rfl ?_
  conv => whnf
  refine loop0 (α := Nat × Nat) (fun p => p.1 ≤ 3 ∧ p.2 < 128 ^ p.1 ∧ p.1 ≤ s.length ∧ ∀ j (hj : j < s.length), j < p.1 → 128 ≤ s[j].toNat)
    (fun p => ⟨[(0, .c (.str s)), (3, .c (.int .u64 p.2)), (6, .c (.int .i64 s.length)), (7, .c (.int .i64 p.1))], [], 0⟩) (fun p => 4 - p.1) ⟨(0, 0), ⟨by dsimp only; omega, by decide, Nat.zero_le _, fun _ _ h => by cases h⟩, ?_⟩ ?_
  · (conv => whnf); refine ⟨rfl, ?_, ?_, ?_⟩ <;> (repeat' apply And.intro) <;> first | exact trivial | rfl | exact wr_succ _ (by omega) | assumption | exact decide_eq_false (by assumption) | exact decide_eq_true (by assumption)
  rintro ⟨i, n⟩ ⟨hI1, hI2, hI3, hI4⟩
  dsimp only at hI1 hI2 hI3 hI4 ⊢
  conv => whnf
  refine ⟨fun h4 => ?_, fun h4 => ?_⟩
  · have h4 : i < s.length := by rw [decide_eq_true_eq] at h4; omega
    have hb : bt s (i : Int) = ((s[i]).toNat : Int) := bt_nat s i h4
    conv => whnf
    refine ⟨by omega, ?_⟩
    conv => whnf
    rw [hb]
    refine ⟨fun h5 => ?_, fun h5 => ?_⟩
    · have h6 : s[i].toNat < 128 := by
        rw [Bool.or_eq_true, decide_eq_true_eq, decide_eq_true_eq] at h5
        omega
      rw [all_lt h4 h6]
      conv => whnf
    have h6 : 128 ≤ s[i].toNat := by
      rw [Bool.or_eq_false_iff, decide_eq_false_iff_not, decide_eq_false_iff_not] at h5
      omega
    have hc := (s[i]).toNat_lt
    have hg := get_bits n s[i].toNat i hI2 (by omega) hc (by omega)
    have e7 : IntKind.wrap .i64 (7 * (i : Int)) = ((7 * i : Nat) : Int) := by rw [wr64 _ (by omega) (by omega)]; omega
    have e8 : IntKind.wrap .i64 (IntKind.wrap .i64 (7 * (i : Int)) + 7) = ((7 * i + 7 : Nat) : Int) := by rw [e7, wr64 _ (by omega) (by omega)]; omega
    conv => whnf
    refine ⟨by omega, ?_⟩
    conv => whnf
    rw [hb]
    refine ⟨by rw [e7]; omega, ?_⟩
    conv => whnf
    refine ⟨by rw [e8]; omega, ?_⟩
    conv => whnf
    rw [hg, e8]
    have hpw := pow_le3 hI1
    have hp7 : (2 : Nat) ^ (7 * i + 7) = 128 ^ i * 128 := by rw [Nat.pow_add, Nat.pow_mul]
    have hle : s[i].toNat % 128 * 128 ^ i ≤ 127 * 128 ^ i := Nat.mul_le_mul_right _ (by omega)
    have hT : IntKind.wrap .u64 (((n + s[i].toNat % 128 * 128 ^ i : Nat) : Int) + IntKind.wrap .u64 (1 * 2 ^ min (((7 * i + 7 : Nat) : Int)).toNat IntKind.u64.bits)) = ((n + s[i].toNat % 128 * 128 ^ i + 128 ^ i * 128 : Nat) : Int) := by
      have hm : min (((7 * i + 7 : Nat) : Int)).toNat IntKind.u64.bits = 7 * i + 7 := by
        show min (7 * i + 7) 64 = _
        omega
      rw [hm]
      have e : (1 : Int) * 2 ^ (7 * i + 7) = ((128 ^ i * 128 : Nat) : Int) := by rw [← hp7, Int.one_mul, Int.natCast_pow]; rfl
      rw [e, wru64 ((128 ^ i * 128 : Nat) : Int) (by omega) (by omega), wru64 _ (by omega) (by omega)]
      omega
    rw [hT]
    have h3 : i = 3 ∧ 128 ^ i = 2097152 ∨ i ≤ 2 ∧ 128 ^ i ≤ 16384 := by
      rcases Nat.lt_or_ge i 3 with h | h
      · have h' : i ≤ 2 := by omega
        have hp : 128 ^ i ≤ 128 ^ 2 := Nat.pow_le_pow_right (by decide) h'
        exact .inr ⟨h', Nat.le_trans hp (by decide)⟩
      · have : i = 3 := by omega
        subst this
        exact .inl ⟨rfl, rfl⟩
    refine ⟨fun h7 => ?_, fun h7 => ?_⟩
    · have h7 : 16777216 ≤ n + s[i].toNat % 128 * 128 ^ i + 128 ^ i * 128 := by rw [decide_eq_true_eq] at h7; omega
      rw [long_no (s := s) (by omega)]
      conv => whnf
    have h7 : ¬ 16777216 ≤ n + s[i].toNat % 128 * 128 ^ i + 128 ^ i * 128 := by rw [decide_eq_false_iff_not] at h7; omega
    conv => whnf
    refine ⟨(i + 1, n + s[i].toNat % 128 * 128 ^ i), ⟨⟨by dsimp only; omega, by dsimp only; rw [Nat.pow_succ]; omega, by dsimp only; omega, fun j hj hji => ?_⟩, by dsimp only; omega⟩, ?_⟩
    · dsimp only at hji
      rcases Nat.lt_or_ge j i with h | h
      · exact hI4 j hj h
      · have : j = i := by omega
        subst this
        exact h6
    (conv => whnf); refine ⟨rfl, ?_, ?_, ?_⟩ <;> (repeat' apply And.intro) <;> first | exact trivial | rfl | exact wr_succ _ (by omega) | assumption | exact decide_eq_false (by assumption) | exact decide_eq_true (by assumption)
  · have h4 : s.length ≤ i := by rw [decide_eq_false_iff_not] at h4; omega
    rw [all_ge h4 (fun j hj h => hI4 j hj h) (by omega)]
    conv => whnf
/-- the message with which bytes begin: its body, its size, an error -/
def nextA (s : List UInt8) : List UInt8 × Int × Int :=
  if (Num.getN s 0).isSome = false ∧ lackA s = true then ([], 0, 0)
  else if (Num.getN s 0).isSome = false ∨ (16777216 : Int) ≤ (nS s 0).1 then ([], 0, 11)
  else if s.length < (nS s 0).1 + (nS s 0).2 then ([], 0, 0)
  else ((s.drop (nS s 0).2).take (nS s 0).1, ((nS s 0).2 + (nS s 0).1 : Nat), 0)
theorem ans_Next (s : List UInt8) (hs : s.length ≤ 1000000) : FnD Tryz.prog 8 [.c (.str s)] (· = .tup [(false, [.str (nextA s).1]), (false, [.int .i64 (nextA s).2.1]), (false, [.int .i64 (nextA s).2.2])]) := by
  refine fn0 Tryz.func8 rfl rfl rfl ?_
  conv => whnf
  refine call1 (num_Get s 0 (Nat.le_trans hs (by decide))) rfl ?_
  conv => whnf
  refine callg0 (fun _ => ans_lacks s hs) rfl ?_
  conv => whnf
  refine ⟨fun a => ?_, fun a => ?_⟩
  · rw [show nextA s = ([], 0, 0) from if_pos (by simpa using a)]
    conv => whnf
  have a : ¬ ((Num.getN s 0).isSome = false ∧ lackA s = true) := fun h => by rw [h.1, h.2] at a; cases a
  conv => whnf
  refine ⟨fun b => ?_, fun b => ?_⟩
  · rw [show nextA s = ([], 0, 11) by
      unfold nextA; rw [if_neg a, if_pos]
      rw [Bool.or_eq_true, decide_eq_true_eq, Bool.not_eq_true'] at b
      exact b]
    conv => whnf
  have b' : ¬ ((Num.getN s 0).isSome = false ∨ (16777216 : Int) ≤ (nS s 0).1) := by
    rw [Bool.or_eq_false_iff, decide_eq_false_iff_not, Bool.not_eq_false'] at b
    rintro (h | h)
    · rw [b.1] at h; cases h
    · exact b.2 h
  have b1 : (nS s 0).1 < 16777216 := by
    have : ¬ (16777216 : Int) ≤ (nS s 0).1 := fun h => b' (.inr h)
    omega
  have b2 : (nS s 0).2 ≤ s.length := by
    have := nS_bd (s := s) (k := 0) (by
      cases h : (Num.getN s 0).isSome with
      | true => rfl
      | false => exact (b' (.inl h)).elim)
    omega
  clear b
  conv => whnf
  rw [show ((Num.getN s 0).getD (0, 0)) = nS s 0 from rfl]
  generalize hn : nS s 0 = p at b1 b2 b'
  rw [wr64 ((s.length : Int) - (p.2 : Int)) (by omega) (by omega), wru64 ((s.length : Int) - (p.2 : Int)) (by omega) (by omega)]
  refine ⟨fun c => ?_, fun c => ?_⟩
  · rw [show nextA s = ([], 0, 0) by
      unfold nextA; rw [if_neg a, hn, if_neg b', if_pos (by simp at c; omega)]]
    conv => whnf
  have c : p.1 + p.2 ≤ s.length := by simp at c; omega
  rw [show nextA s = ((s.drop p.2).take p.1, ((p.2 + p.1 : Nat) : Int), 0) by
    unfold nextA; rw [if_neg a, hn, if_neg b', if_neg (by omega)]]
  conv => whnf
  have hw : IntKind.wrap .i64 ((p.2 : Int) + IntKind.wrap .i64 (p.1 : Int)) = ((p.2 + p.1 : Nat) : Int) := by
    rw [wr64 (p.1 : Int) (by omega) (by omega), wr64 _ (by omega) (by omega)]; omega
  rw [hw]
  refine ⟨⟨⟨by omega, by omega⟩, by omega, by omega⟩, ?_⟩
  conv => whnf
  rw [Int.toNat_natCast, Int.toNat_natCast, List.drop_take, show p.2 + p.1 - p.2 = p.1 by omega]
end Go.Proofs.YtnldokebmfojeaaGreat
/- The walks of hedgerowkeep.Longs, Reply, of the law's Large and copied. Own work. -/
set_option linter.unusedVariables false
set_option maxRecDepth 100000
namespace Go.Proofs.YtnldokebmfojeaaGreat
open Go Go.RowKit OE

theorem keep_Longs (a b : List LD.T) : FnD Tryz.prog 36 [.c (.dat LD a), .c (.dat LD b)] (· = .c (.bool (.sym (eqL LD.eqb a b)))) := by
  refine fn0 Tryz.func36 rfl rfl rfl ?_
  conv => whnf
  intro ha
  conv => whnf
  intro hb
  refine ⟨fun h1 => ?_, fun h1 => ?_⟩
  · conv => whnf
    rw [eqL_len (by simp at h1; omega)]
  have h1 : a.length = b.length := by simp at h1; omega
  conv => whnf
  refine loop0 (α := Nat) (fun i => i ≤ a.length ∧ eqL LD.eqb (a.drop i) (b.drop i) = eqL LD.eqb a b)
    (fun i => ⟨[(0, .c (.dat LD a)), (1, .c (.dat LD b)), (5, .c (.int .i64 i))], [], 0⟩) (fun i => a.length - i) ⟨0, ⟨by omega, rfl⟩, ?_⟩ ?_
  · (conv => whnf); refine ⟨rfl, ?_, ?_, ?_⟩ <;> (repeat' apply And.intro) <;> first | exact trivial | rfl | exact wr_succ _ (by omega) | assumption | exact decide_eq_false (by assumption) | exact decide_eq_true (by assumption)
  · rintro i ⟨hI1, hI2⟩
    conv => whnf
    intro _
    refine ⟨fun h2 => ?_, fun h2 => ?_⟩
    · have h2 : i < a.length := by simp at h2; omega
      conv => whnf
      have hb2 : i < b.length := by omega
      rw [eqL_step h2 hb2] at hI2
      refine any0 ?_
      conv => whnf
      try (intro _; conv => whnf)
      refine ⟨by omega, ?_⟩
      rw [gt_nat (d := LD) a i h2]
      conv => whnf
      try (intro _; conv => whnf)
      refine ⟨by omega, ?_⟩
      rw [gt_nat (d := LD) b i hb2]
      conv => whnf
      refine ⟨.inl (by kernel_rfl), after0 ?_⟩
      conv => whnf
      refine ⟨fun h4 => ?_, fun h4 => ?_⟩
      · conv => whnf
        have : LD.eqb a[i] b[i] = false := by simpa [D.eqb] using h4
        simp only [← hI2, this, Bool.false_and]
      · conv => whnf
        have : LD.eqb a[i] b[i] = true := by simpa [D.eqb] using h4
        refine ⟨i + 1, ⟨⟨by omega, ?_⟩, by omega⟩, ?_⟩
        · rw [← hI2, this]; simp
        · (conv => whnf); refine ⟨rfl, ?_, ?_, ?_⟩ <;> (repeat' apply And.intro) <;> first | exact trivial | rfl | exact wr_succ _ (by omega) | assumption | exact decide_eq_false (by assumption) | exact decide_eq_true (by assumption)
    · conv => whnf
      rw [← hI2, eqL_end (by simp at h2; omega) (by simp at h2; omega)]
theorem keep_Reply (a b : AD.T) : FnD Tryz.prog 10 [.agg (ac a), .agg (ac b)] (· = .c (.bool (.sym (AD.eqb a b)))) := by
  refine fn0 Tryz.func10 rfl rfl rfl ?_
  conv => whnf
  refine callg0 (fun _ => keep_Nodes a.2.2.2.1 b.2.2.2.1) rfl ?_
  conv => whnf
  refine callg0 (fun _ => keep_Edges a.2.2.2.2.1 b.2.2.2.2.1) rfl ?_
  conv => whnf
  refine callg0 (fun _ => keep_Longs a.2.2.2.2.2.1 b.2.2.2.2.2.1) rfl ?_
  conv => whnf
  refine callg0 (fun _ => keep_Cats (aC a) (aC b)) rfl ?_
  conv => whnf
  rw [show AD.eqb a b = (decide (a.1 = b.1) && (decide (a.2.1 = b.2.1) && (decide (a.2.2.1 = b.2.2.1) && (eqL ND.eqb a.2.2.2.1 b.2.2.2.1 && (eqL ED.eqb a.2.2.2.2.1 b.2.2.2.2.1 && (eqL LD.eqb a.2.2.2.2.2.1 b.2.2.2.2.2.1 && CD.eqb (aC a) (aC b))))))) from rfl]
  simp only [Bool.and_assoc]
theorem eqA_same (r : AD.T) : AD.eqb r r = true := (D.eqb_iff AD r r).2 rfl
def largeA (r : AD.T) : Bool := largeGraph r.2.2.2.1 r.2.2.2.2.1 || decide ((3000 : Int) < r.2.2.2.2.2.1.length) || largeCat (aC r)
theorem law_Large (r : AD.T) : FnD Tryz.prog 11 [.agg (ac r)] (· = .c (.bool (.sym (largeA r)))) := by
  refine fn0 Tryz.func11 rfl rfl rfl ?_
  conv => whnf
  refine call1 (keep_LargeGraph r.2.2.2.1 r.2.2.2.2.1) rfl ?_
  conv => whnf
  intro _
  conv => whnf
  refine callg0 (fun _ => keep_LargeCat (aC r)) rfl ?_
  conv => whnf
  rfl
/-- what of a reply is small -/
structure SmallA (r : AD.T) : Prop where
  n : r.2.2.2.1.length ≤ 300
  e : r.2.2.2.2.1.length ≤ 300
  i : r.2.2.2.2.2.1.length ≤ 3000
  c1 : (aC r).1.length ≤ 1000
  c2 : (aC r).2.1.length ≤ 1000
  c3 : (aC r).2.2.1.length ≤ 1000
  c4 : (aC r).2.2.2.1.length ≤ 1000
  pn : ∀ x ∈ r.2.2.2.1, x.2.2.length ≤ 60
  pe : ∀ x ∈ r.2.2.2.2.1, x.2.2.2.2.length ≤ 60
theorem smallA {r : AD.T} (h : largeA r = false) : SmallA r := by
  unfold largeA largeGraph largeCat at h
  simp only [Bool.or_eq_false_iff, decide_eq_false_iff_not, List.any_eq_false] at h
  obtain ⟨⟨⟨⟨h1, h2⟩, h3, h4⟩, h5⟩, ⟨⟨⟨h6, h7⟩, h8⟩, h9⟩, _⟩ := h
  refine ⟨by omega, by omega, by omega, by omega, by omega, by omega, by omega, fun x hx => ?_, fun x hx => ?_⟩
  · have := h3 x hx
    simp only [largeN, largeProps, Bool.or_eq_true, not_or, decide_eq_true_eq] at this
    omega
  · have := h4 x hx
    simp only [largeE, largeProps, Bool.or_eq_true, not_or, decide_eq_true_eq] at this
    omega
theorem law_copied (r : AD.T) (h : SmallA r) : FnD Tryz.prog 12 [.agg (ac r)] (· = .agg (ac r)) := by
  refine fn0 Tryz.func12 rfl rfl rfl ?_
  conv => whnf
  refine any0 ?_
  conv => whnf
  refine callr0 (keep_CopyNodes r.2.2.2.1 (by have := h.n; omega) (fun n hn => by have := h.pn n hn; omega)) rfl ?_
  conv => whnf
  refine callr0 (keep_CopyEdges r.2.2.2.2.1 (by have := h.e; omega) (fun n hn => by have := h.pe n hn; omega)) rfl ?_
  conv => whnf
  refine ⟨.inl (by kernel_rfl), after0 ?_⟩
  conv => whnf
  have hi := h.i
  refine ⟨by show (0 + r.2.2.2.2.2.1.length) * 8 ≤ 140737488355328; omega, ?_⟩
  conv => whnf
  refine fzc 13 rfl ?_
  conv => whnf
  refine call1 (keep_CopyCat (aC r) h.c1 h.c2 h.c3 h.c4) rfl ?_
  conv => whnf
  rfl
end Go.Proofs.YtnldokebmfojeaaGreat
/- The walk of the law's wakes. Own work. -/
set_option linter.unusedVariables false
set_option maxRecDepth 100000
namespace Go.Proofs.YtnldokebmfojeaaGreat
open Go Go.RowKit OE

def rK (n : Int) : AD.T := (n, 0, 0, [], [], [], C0)
theorem rK_wf (n : Int) (h0 : 0 ≤ n) (h1 : n ≤ 1000000) : Wf AD (rK n) :=
  ⟨lit_ok n h0 h1, lit_ok 0 (by decide) (by decide), lit_ok 0 (by decide) (by decide), ⟨Nat.zero_le _, fun _ h => by cases h⟩, ⟨Nat.zero_le _, fun _ h => by cases h⟩, ⟨Nat.zero_le _, fun _ h => by cases h⟩, (catOf_wf []).1⟩
theorem rK60 : goodA (rK 60) = true := by rfl
theorem rK_enc : encA (rK 60) = [60, 0, 0, 0, 0, 0, 0] := by
  have h : encA (rK 60) = Num.putN 60 ++ Num.putN 0 ++ Num.putN 0 ++ Num.putN 0 ++ [] ++ Num.putN 0 ++ [] ++ Num.putN 0 ++ [] ++ (Num.putN 0 ++ []) := by rfl
  rw [h, Num.putN_lt (n := 60) (by decide), Num.putN_lt (n := 0) (by decide)]
  rfl
theorem nilReply {w : World} {ok : Nat → Prop} {n : Int} (v : Value) (h : RS (DX w ok) (.agg [.int .i64 n, .int .i64 0, .int .i64 0, .val (.slice none 0 0), .val (.slice none 0 0), .val (.slice none 0 0), .val (.slice none 0 0), .val (.slice none 0 0), .val (.slice none 0 0), .val (.slice none 0 0), .int .i64 0]) v) : RS (DX w ok) (.agg (ac (rK n))) v := by
  obtain ⟨vs, e, hl⟩ := h
  refine ⟨vs, e, ?_⟩
  generalize vs.toList = m at hl
  match m, hl with
  | [a, b, c, d, e, f, g, h, i, j, k], ⟨h1, h2, h3, h4, h5, h6, h7, h8, h9, h10, h11, _⟩ => exact ⟨h1, h2, h3, nilC h4, nilC h5, nilC h6, nilC h7, nilC h8, nilC h9, nilC h10, h11, trivial⟩
theorem rK_next : nextA (7 :: [60, 0, 0, 0, 0, 0, 0]) = ([60, 0, 0, 0, 0, 0, 0], 8, 0) := by rfl
theorem ans_wakes : FnD Tryz.prog 5 [] (· = .c (.bool (.sym true))) := by
  obtain ⟨d1, d2⟩ := rep_encA (rK_wf 60 (by decide) (by decide)) rK60
  have e1 : encAS (rK 60) = [60, 0, 0, 0, 0, 0, 0] := by rw [← rK_enc]; exact if_pos rK60
  have e2 : errA (rK 60) = 0 := if_pos rK60
  rw [rK_enc] at d1 d2
  refine fn0 Tryz.func5 rfl rfl rfl ?_
  conv => whnf
  refine call1 ((ans_Encode (rK 60) (rK_wf 60 (by decide) (by decide)) (by decide)).args fun w ok => ⟨nilReply, trivial⟩) rfl ?_
  conv => whnf
  rw [e1, e2]
  refine call1 (ans_Decode [60, 0, 0, 0, 0, 0, 0] (by decide)) rfl ?_
  conv => whnf
  rw [show repA [60, 0, 0, 0, 0, 0, 0] = rK 60 from (if_pos d2).trans d1, show repE [60, 0, 0, 0, 0, 0, 0] = 0 from if_pos d2]
  conv => whnf
  refine ⟨by decide, ?_⟩
  conv => whnf
  refine call1 (ans_Next (7 :: [60, 0, 0, 0, 0, 0, 0]) (by decide)) rfl ?_
  conv => whnf
  rw [rK_next]
  conv => whnf
  rfl
end Go.Proofs.YtnldokebmfojeaaGreat
/- The walk of the reference's Good of replies. Own work. -/
set_option linter.unusedVariables false
set_option maxRecDepth 100000
namespace Go.Proofs.YtnldokebmfojeaaGreat
open Go Go.RowKit OE

theorem ref25_id (n : Int) : FnD Tryz.prog 58 [.c (.int .i64 n)] (· = .c (.bool (.sym (okId n)))) := by
  refine fn0 Tryz.func58 rfl rfl rfl ?_
  conv => whnf
  rfl
theorem empty_eq (c : CD.T) : CD.eqb c C0 = emptyC c := by
  rw [Bool.eq_iff_iff, D.eqb_iff]
  unfold emptyC
  obtain ⟨a, b, c, d, e⟩ := c
  simp only [Bool.and_eq_true, decide_eq_true_eq]
  constructor
  · intro h
    cases h
    exact ⟨rfl, rfl⟩
  · rintro ⟨h1, h2⟩
    have ha : a = [] := List.eq_nil_of_length_eq_zero (by omega)
    have hb : b = [] := List.eq_nil_of_length_eq_zero (by omega)
    have hc : c = [] := List.eq_nil_of_length_eq_zero (by omega)
    have hd : d = [] := List.eq_nil_of_length_eq_zero (by omega)
    have he : e = 0 := h1
    subst ha hb hc hd he
    rfl
theorem keep_CatsN (c : CD.T) : FnD Tryz.prog 37 [.agg (cc c), .agg cn] (· = .c (.bool (.sym (CD.eqb c C0)))) :=
  (keep_Cats c C0).args fun w ok => ⟨fun _ h => h, fun v h => by
    obtain ⟨us, e2, hl2⟩ := h
    refine ⟨us, e2, ?_⟩
    generalize us.toList = n at hl2
    match n, hl2 with
    | [a, b, c, d, e], ⟨h1, h2, h3, h4, h5, _⟩ => exact ⟨nilC h1, nilC h2, nilC h3, nilC h4, h5, trivial⟩, trivial⟩
theorem ref25_Good (r : AD.T) : FnD Tryz.prog 18 [.agg (ac r)] (· = .c (.bool (.sym (goodA r)))) := by
  refine fn0 Tryz.func18 rfl rfl rfl ?_
  conv => whnf
  refine callg0 (fun _ => ref25_id r.2.1) rfl ?_
  conv => whnf
  intro _
  conv => whnf
  intro _
  conv => whnf
  intro _
  conv => whnf
  refine ⟨fun g => ?_, fun g => ?_⟩
  · have : headA r = false := by
      unfold headA bndA
      revert g
      cases okId r.2.1
      · simp
      · intro g
        rw [show (decide ((r.1 : Int) < 0) || decide (1000 < (r.1 : Int)) || decide ((r.2.2.1 : Int) < 0) || decide (1000000 < (r.2.2.1 : Int)) || decide ((1024 : Int) < r.2.2.2.1.length) || decide ((1024 : Int) < r.2.2.2.2.1.length) || decide ((1024 : Int) < r.2.2.2.2.2.1.length)) = true from by simpa using g]
        rfl
    rw [show goodA r = false by unfold goodA; rw [this]; rfl]
    conv => whnf
  have gb : bndA r = false ∧ okId r.2.1 = true := by
    unfold bndA
    revert g
    cases okId r.2.1
    · simp
    · intro g
      exact ⟨by simpa using g, rfl⟩
  have hG : goodA r = (r.2.2.2.1.all goodN && (r.2.2.2.2.1.all goodE && (idsS r.2.2.2.2.2.1 && (emptyC (aC r) || goodC (aC r))))) := by
    unfold goodA headA
    rw [gb.1, gb.2]
    cases idsS r.2.2.2.2.2.1 <;> cases r.2.2.2.1.all goodN <;> cases r.2.2.2.2.1.all goodE <;> rfl
  rw [hG]
  conv => whnf
  refine loop0 (α := Nat) (fun i => i ≤ r.2.2.2.1.length ∧ (r.2.2.2.1.take i).all goodN = true) (fun i => ⟨[(1, .c (.ptr 0 0)), (3, .c (.int .i64 i))], [(0, .cells 32 (ac r))], 1⟩) (fun i => r.2.2.2.1.length - i) ⟨0, ⟨by omega, by simp⟩, ?_⟩ ?_
  · (conv => whnf); refine ⟨rfl, ?_, ?_, ?_⟩ <;> (repeat' apply And.intro) <;> first | exact trivial | rfl | exact wr_succ _ (by omega) | assumption | exact decide_eq_false (by assumption) | exact decide_eq_true (by assumption)
  rintro i ⟨hi, hI⟩
  conv => whnf
  intro hlen
  conv => whnf
  refine ⟨fun h2 => ?_, fun h2 => ?_⟩
  · have h2 : i < r.2.2.2.1.length := by rw [decide_eq_true_eq] at h2; omega
    conv => whnf
    try (intro _; conv => whnf)
    refine ⟨by omega, ?_⟩
    rw [gt_nat (d := ND) r.2.2.2.1 i h2]
    conv => whnf
    refine call1 (ref25_id r.2.2.2.1[i].1) rfl ?_
    conv => whnf
    refine callg0 (fun _ => ref_Name r.2.2.2.1[i].2.1) rfl ?_
    conv => whnf
    refine callg0 (fun _ => refval_Props r.2.2.2.1[i].2.2) rfl ?_
    conv => whnf
    refine ⟨fun h3 => ?_, fun h3 => ?_⟩
    · have : goodN r.2.2.2.1[i] = false := by
        unfold goodN
        revert h3
        cases okId r.2.2.2.1[i].1 <;> cases nameS r.2.2.2.1[i].2.1 <;> cases propsS r.2.2.2.1[i].2.2 <;> simp
      rw [all_no h2 this]
      conv => whnf
      rfl
    have h3 : goodN r.2.2.2.1[i] = true := by
      unfold goodN
      revert h3
      cases okId r.2.2.2.1[i].1 <;> cases nameS r.2.2.2.1[i].2.1 <;> cases propsS r.2.2.2.1[i].2.2 <;> simp
    conv => whnf
    refine ⟨i + 1, ⟨⟨by omega, by rw [all_step h2, hI, h3]; rfl⟩, by omega⟩, ?_⟩
    (conv => whnf); refine ⟨rfl, ?_, ?_, ?_⟩ <;> (repeat' apply And.intro) <;> first | exact trivial | rfl | exact wr_succ _ (by omega) | assumption | exact decide_eq_false (by assumption) | exact decide_eq_true (by assumption)
  have h2 : r.2.2.2.1.length ≤ i := by rw [decide_eq_false_iff_not] at h2; omega
  rw [show r.2.2.2.1.all goodN = true by rw [List.take_of_length_le h2] at hI; exact hI]
  clear hI h2 hi
  conv => whnf
  refine loop0 (α := Nat) (fun i => i ≤ r.2.2.2.2.1.length ∧ (r.2.2.2.2.1.take i).all goodE = true) (fun i => ⟨[(1, .c (.ptr 0 0)), (5, .c (.int .i64 i))], [(0, .cells 32 (ac r))], 1⟩) (fun i => r.2.2.2.2.1.length - i) ⟨0, ⟨by omega, by simp⟩, ?_⟩ ?_
  · (conv => whnf); refine ⟨rfl, ?_, ?_, ?_⟩ <;> (repeat' apply And.intro) <;> first | exact trivial | rfl | exact wr_succ _ (by omega) | assumption | exact decide_eq_false (by assumption) | exact decide_eq_true (by assumption)
  rintro i ⟨hi, hI⟩
  conv => whnf
  intro hlen2
  conv => whnf
  refine ⟨fun h2 => ?_, fun h2 => ?_⟩
  · have h2 : i < r.2.2.2.2.1.length := by rw [decide_eq_true_eq] at h2; omega
    conv => whnf
    try (intro _; conv => whnf)
    refine ⟨by omega, ?_⟩
    rw [gt_nat (d := ED) r.2.2.2.2.1 i h2]
    conv => whnf
    refine call1 (ref25_id r.2.2.2.2.1[i].1) rfl ?_
    conv => whnf
    refine callg0 (fun _ => ref_Name r.2.2.2.2.1[i].2.1) rfl ?_
    conv => whnf
    refine callg0 (fun _ => ref25_id r.2.2.2.2.1[i].2.2.1) rfl ?_
    conv => whnf
    refine callg0 (fun _ => ref25_id r.2.2.2.2.1[i].2.2.2.1) rfl ?_
    conv => whnf
    refine callg0 (fun _ => refval_Props r.2.2.2.2.1[i].2.2.2.2) rfl ?_
    conv => whnf
    refine ⟨fun h3 => ?_, fun h3 => ?_⟩
    · have : goodE r.2.2.2.2.1[i] = false := by
        unfold goodE
        revert h3
        cases okId r.2.2.2.2.1[i].1 <;> cases okId r.2.2.2.2.1[i].2.2.1 <;> cases okId r.2.2.2.2.1[i].2.2.2.1 <;> cases nameS r.2.2.2.2.1[i].2.1 <;> cases propsS r.2.2.2.2.1[i].2.2.2.2 <;> simp
      rw [all_no h2 this]
      conv => whnf
      rfl
    have h3 : goodE r.2.2.2.2.1[i] = true := by
      unfold goodE
      revert h3
      cases okId r.2.2.2.2.1[i].1 <;> cases okId r.2.2.2.2.1[i].2.2.1 <;> cases okId r.2.2.2.2.1[i].2.2.2.1 <;> cases nameS r.2.2.2.2.1[i].2.1 <;> cases propsS r.2.2.2.2.1[i].2.2.2.2 <;> simp
    conv => whnf
    refine ⟨i + 1, ⟨⟨by omega, by rw [all_step h2, hI, h3]; rfl⟩, by omega⟩, ?_⟩
    (conv => whnf); refine ⟨rfl, ?_, ?_, ?_⟩ <;> (repeat' apply And.intro) <;> first | exact trivial | rfl | exact wr_succ _ (by omega) | assumption | exact decide_eq_false (by assumption) | exact decide_eq_true (by assumption)
  have h2 : r.2.2.2.2.1.length ≤ i := by rw [decide_eq_false_iff_not] at h2; omega
  rw [show r.2.2.2.2.1.all goodE = true by rw [List.take_of_length_le h2] at hI; exact hI]
  clear hI h2 hi
  conv => whnf
  refine loop0 (α := Nat) (fun i => i ≤ r.2.2.2.2.2.1.length ∧ (r.2.2.2.2.2.1.take i).all okId = true) (fun i => ⟨[(1, .c (.ptr 0 0)), (7, .c (.int .i64 i))], [(0, .cells 32 (ac r))], 1⟩) (fun i => r.2.2.2.2.2.1.length - i) ⟨0, ⟨by omega, by simp⟩, ?_⟩ ?_
  · (conv => whnf); refine ⟨rfl, ?_, ?_, ?_⟩ <;> (repeat' apply And.intro) <;> first | exact trivial | rfl | exact wr_succ _ (by omega) | assumption | exact decide_eq_false (by assumption) | exact decide_eq_true (by assumption)
  rintro i ⟨hi, hI⟩
  conv => whnf
  intro hlen3
  conv => whnf
  refine ⟨fun h2 => ?_, fun h2 => ?_⟩
  · have h2 : i < r.2.2.2.2.2.1.length := by rw [decide_eq_true_eq] at h2; omega
    conv => whnf
    try (intro _; conv => whnf)
    refine ⟨by omega, ?_⟩
    rw [gt_nat (d := LD) r.2.2.2.2.2.1 i h2]
    conv => whnf
    refine call1 (ref25_id r.2.2.2.2.2.1[i]) rfl ?_
    conv => whnf
    refine ⟨fun h3 => ?_, fun h3 => ?_⟩
    · have h3 : okId r.2.2.2.2.2.1[i] = false := by
        revert h3
        cases okId r.2.2.2.2.2.1[i] <;> simp
      rw [show idsS r.2.2.2.2.2.1 = false from all_no h2 h3]
      conv => whnf
      rfl
    have h3 : okId r.2.2.2.2.2.1[i] = true := by
      revert h3
      cases okId r.2.2.2.2.2.1[i] <;> simp
    conv => whnf
    refine ⟨i + 1, ⟨⟨by omega, by rw [all_step h2, hI, h3]; rfl⟩, by omega⟩, ?_⟩
    (conv => whnf); refine ⟨rfl, ?_, ?_, ?_⟩ <;> (repeat' apply And.intro) <;> first | exact trivial | rfl | exact wr_succ _ (by omega) | assumption | exact decide_eq_false (by assumption) | exact decide_eq_true (by assumption)
  have h2 : r.2.2.2.2.2.1.length ≤ i := by rw [decide_eq_false_iff_not] at h2; omega
  rw [show idsS r.2.2.2.2.2.1 = true by rw [List.take_of_length_le h2] at hI; exact hI]
  clear hI h2 hi
  conv => whnf
  refine call1 (keep_CatsN (aC r)) rfl ?_
  conv => whnf
  refine callg0 (fun _ => ref16_Good (aC r)) rfl ?_
  conv => whnf
  rw [empty_eq]
  rfl
end Go.Proofs.YtnldokebmfojeaaGreat
