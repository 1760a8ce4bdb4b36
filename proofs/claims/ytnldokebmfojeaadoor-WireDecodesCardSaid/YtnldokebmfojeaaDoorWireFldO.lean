/- The walks of place.fields and place.change, of a change's fields. Own work. -/
import Derived.Test.YtnldokebmfojeaaDoorWireGetO
set_option linter.unusedVariables false
set_option maxRecDepth 100000
namespace Go.Proofs.YtnldokebmfojeaaDoor
open Go Go.RowKit OE

/-- fields, one behind the other -/
def fldS (G : MD.T → Int → Int → MD.T × Int × Bool) : List UInt8 → MD.T → Int → Int → MD.T × Int × Bool
  | [], m, _, z => (m, z, true)
  | f :: l, m, k, z => if (G m f.toNat (k + z)).2.2 = true then fldS G l (G m f.toNat (k + z)).1 k (z + (G m f.toNat (k + z)).2.1) else ((G m f.toNat (k + z)).1, 0, false)
def goM (s : List UInt8) (m : MD.T) (f k : Int) : MD.T × Int × Bool := (sO m (gO (mOp m) f s k).1, (gO (mOp m) f s k).2.1, (gO (mOp m) f s k).2.2)
theorem nS_bd {s : List UInt8} {k : Int} (h : (Num.getN s k).isSome = true) : k + ((nS s k).2 : Int) ≤ s.length := by
  unfold nS
  cases hg : Num.getN s k with
  | none => rw [hg] at h; cases h
  | some p =>
    obtain ⟨n, i⟩ := p
    have := Num.getN_bd hg
    simp only [Option.getD_some]
    omega
theorem tS_bd {s : List UInt8} {k : Int} (h : (Num.getT s k 16).isSome = true) : k + ((tS s k).2 : Int) ≤ s.length := by
  unfold tS
  cases hg : Num.getT s k 16 with
  | none => rw [hg] at h; cases h
  | some p =>
    obtain ⟨n, i⟩ := p
    have := getT_bd hg
    simp only [Option.getD_some]
    omega
theorem vS_bd {s : List UInt8} {k : Int} (h : (decV s k).isSome = true) : k + ((vS' s k).2 : Int) ≤ s.length := by
  unfold vS'
  unfold decV at h ⊢
  split at h
  · cases h
  · rename_i hk
    rw [if_neg hk]
    unfold decB at h ⊢
    have hk' : 0 ≤ k ∧ k < s.length := by omega
    split
    · simp; omega
    · split
      · split
        · simp; omega
        · simp_all
      · split
        · cases hg : Num.getN s (k + 1) with
          | none => simp_all
          | some p =>
            obtain ⟨n, i⟩ := p
            have := Num.getN_bd hg
            simp; omega
        · split
          · cases hg : Num.getT s (k + 1) 1024 with
            | none => simp_all
            | some p =>
              obtain ⟨n, i⟩ := p
              have := getT_bd hg
              simp; omega
          · simp_all
theorem gO_bd {o : OD.T} {f : Int} {s : List UInt8} {k : Int} (h0 : 0 ≤ k) (h : (gO o f s k).2.2 = true) : 0 ≤ (gO o f s k).2.1 ∧ k + (gO o f s k).2.1 ≤ s.length := by
  generalize hr : gO o f s k = r at h ⊢
  unfold gO at hr
  repeat' split at hr
  all_goals subst hr
  all_goals first | exact ⟨Int.natCast_nonneg _, tS_bd h⟩ | exact ⟨Int.natCast_nonneg _, nS_bd h⟩ | exact ⟨Int.natCast_nonneg _, vS_bd h⟩ | (dsimp only at h ⊢; constructor <;> omega) | cases h
theorem goM_bd {s : List UInt8} {m : MD.T} {f k : Int} (h0 : 0 ≤ k) (h1 : k ≤ s.length) (h : (goM s m f k).2.2 = true) : 0 ≤ (goM s m f k).2.1 ∧ k + (goM s m f k).2.1 ≤ s.length := gO_bd h0 h
theorem wnt {b : Bool} (h : (!b) = true) : b = false := by cases b <;> simp_all
theorem wnf {b : Bool} (h : (!b) = false) : b = true := by cases b <;> simp_all
theorem wire_fldO (m : MD.T) (l : List UInt8) (hl : l.length ≤ 100) (hf : ∀ f ∈ l, fO f.toNat) (s : List UInt8) (hs : s.length ≤ 1000000) (k : Int) (h0 : 0 ≤ k) (h1 : k ≤ s.length) :
    FnP Tryd.prog 59 [.agg (plO 0 11), .c (.str l), .c (.str s), .c (.int .i64 k)] (obM m) 1 kp0 (geR (fldS (goM s) l m k 0).2.1 (fldS (goM s) l m k 0).2.2) (obM (fldS (goM s) l m k 0).1) 1 := by
  refine fnP noI Tryd.func59 rfl rfl rfl rfl ?_
  conv => whnf
  refine loop0 (α := Nat × MD.T × Int) (fun p => p.1 ≤ l.length ∧ 0 ≤ p.2.2 ∧ k + p.2.2 ≤ s.length ∧ fldS (goM s) l m k 0 = fldS (goM s) (l.drop p.1) p.2.1 k p.2.2)
    (fun p => ⟨[(1, .c (.str l)), (2, .c (.str s)), (3, .c (.int .i64 k)), (4, .c (.ptr 1 0)), (8, .c (.int .i64 p.2.2)), (14, .c (.int .i64 l.length)), (15, .c (.int .i64 p.1))], (1, .cells 96 (plO 0 11)) :: obM p.2.1, 2⟩) (fun p => l.length - p.1) ⟨(0, m, 0), ⟨by dsimp only; omega, Int.le_refl _, by dsimp only; omega, rfl⟩, ?_⟩ ?_
  · (conv => whnf); refine ⟨rfl, ?_, ?_, ?_⟩ <;> (repeat' apply And.intro) <;> first | exact trivial | rfl | exact wr_succ _ (by omega) | assumption | exact decide_eq_false (by assumption) | exact decide_eq_true (by assumption)
  rintro ⟨j, m', z⟩ ⟨hJ1, hJ2, hJ3, hJ4⟩
  dsimp only at hJ1 hJ2 hJ3 hJ4 ⊢
  conv => whnf
  refine ⟨fun h4 => ?_, fun h4 => ?_⟩
  · have h4 : j < l.length := by simp at h4; omega
    have hS : fldS (goM s) (l.drop j) m' k z = (if ((goM s) m' l[j].toNat (k + z)).2.2 = true then fldS (goM s) (l.drop (j + 1)) ((goM s) m' l[j].toNat (k + z)).1 k (z + ((goM s) m' l[j].toNat (k + z)).2.1) else (((goM s) m' l[j].toNat (k + z)).1, 0, false)) := by
      rw [List.drop_eq_getElem_cons h4]; rfl
    rw [hS] at hJ4
    have hk : IntKind.wrap .i64 (k + z) = k + z := wr64 _ (by omega) (by omega)
    have hGB : ((goM s) m' l[j].toNat (k + z)).2.2 = true → 0 ≤ ((goM s) m' l[j].toNat (k + z)).2.1 ∧ (k + z) + ((goM s) m' l[j].toNat (k + z)).2.1 ≤ s.length := fun h => goM_bd (by omega) (by omega) h
    conv => whnf
    refine any0 ?_
    conv => whnf
    refine ⟨by omega, ?_⟩
    conv => whnf
    rw [bt_nat l j h4, hk]
    refine callrp0 [0] rfl rfl rfl (wire_getO m' l[j].toNat (hf _ (List.getElem_mem h4)) s hs (k + z) (by omega)) rfl rfl rfl rfl rfl rfl [] rfl rfl ?_
    conv => whnf
    refine ⟨.inl (by kernel_rfl), after0 ?_⟩
    conv => whnf
    refine ⟨fun h5 => ?_, fun h5 => ?_⟩
    · have h5 : ((goM s) m' l[j].toNat (k + z)).2.2 = false := wnt h5
      rw [if_neg (by rw [h5]; decide)] at hJ4
      rw [hJ4]
      conv => whnf
      refine ⟨rfl, ?_, ?_, ?_⟩ <;> (repeat' apply And.intro) <;> first | exact trivial | rfl | assumption
    have h5 : ((goM s) m' l[j].toNat (k + z)).2.2 = true := wnf h5
    rw [if_pos h5] at hJ4
    obtain ⟨b1, b2⟩ := hGB h5
    conv => whnf
    refine ⟨(j + 1, ((goM s) m' l[j].toNat (k + z)).1, z + ((goM s) m' l[j].toNat (k + z)).2.1), ⟨⟨by dsimp only; omega, by dsimp only; omega, by dsimp only; omega, hJ4⟩, by dsimp only; omega⟩, ?_⟩
    have hw : z + ((goM s) m' l[j].toNat (k + z)).2.1 = IntKind.wrap .i64 (z + ((goM s) m' l[j].toNat (k + z)).2.1) := (wr64 _ (by omega) (by omega)).symm
    (conv => whnf); refine ⟨rfl, ?_, ?_, ?_⟩ <;> (repeat' apply And.intro) <;> first | exact trivial | rfl | exact wr_succ _ (by omega) | assumption | exact decide_eq_false (by assumption) | exact decide_eq_true (by assumption)
  · have h4 : l.length ≤ j := by simp at h4; omega
    rw [List.drop_eq_nil_of_le h4] at hJ4
    rw [show fldS (goM s) l m k 0 = (m', z, true) from hJ4]
    conv => whnf
    refine ⟨rfl, ?_, ?_, ?_⟩ <;> (repeat' apply And.intro) <;> first | exact trivial | rfl | assumption
theorem wire_ofOpM (m : MD.T) : FnP Tryd.prog 79 [.c (.ptr 0 11)] (obM m) 1 kp0 (.agg (plO 0 11)) (obM m) 1 := by
  refine fnP noI Tryd.func79 rfl rfl rfl rfl ?_
  conv => whnf
  refine any0 ?_
  conv => whnf
  refine ⟨.inl (by kernel_rfl), after0 ?_⟩
  conv => whnf
  refine ⟨rfl, ?_, ?_, ?_⟩ <;> (repeat' apply And.intro) <;> first | exact trivial | rfl | assumption
def oK (o : OD.T) (n : Int) : OD.T := (n, o.2)
/-- the change that stands somewhere, into a command -/
def chR (s : List UInt8) (m : MD.T) (k : Int) : MD.T × Int × Bool :=
  if (s.length : Int) ≤ k ∨ 6 ≤ bt s k then (m, 0, false)
  else ((fldS (goM s) (gt (d := .str) opsL (bt s k)) (sO m (oK (mOp m) (bt s k))) (k + 1) 0).1, (fldS (goM s) (gt (d := .str) opsL (bt s k)) (sO m (oK (mOp m) (bt s k))) (k + 1) 0).2.1 + 1, (fldS (goM s) (gt (d := .str) opsL (bt s k)) (sO m (oK (mOp m) (bt s k))) (k + 1) 0).2.2)
theorem fld_bd {G : MD.T → Int → Int → MD.T × Int × Bool} {n : Nat} (hG : ∀ m (f k : Int), 0 ≤ k → k ≤ (n : Int) → (G m f k).2.2 = true → 0 ≤ (G m f k).2.1 ∧ k + (G m f k).2.1 ≤ (n : Int)) : ∀ (l : List UInt8) (m : MD.T) (k z : Int), 0 ≤ k → 0 ≤ z → k + z ≤ (n : Int) → 0 ≤ (fldS G l m k z).2.1 ∧ ((fldS G l m k z).2.2 = true → k + (fldS G l m k z).2.1 ≤ (n : Int)) ∧ (fldS G l m k z).2.1 ≤ (n : Int)
  | [], m, k, z, h0, h1, h2 => ⟨h1, fun _ => h2, by simp only [fldS]; omega⟩
  | f :: l, m, k, z, h0, h1, h2 => by
    unfold fldS
    split
    · rename_i h
      obtain ⟨b1, b2⟩ := hG m f.toNat (k + z) (by omega) h2 h
      exact fld_bd hG l _ k _ h0 (by omega) (by omega)
    · exact ⟨Int.le_refl 0, fun h => (by cases h), Int.natCast_nonneg n⟩
theorem wire_pchange (m : MD.T) (s : List UInt8) (hs : s.length ≤ 1000000) (k : Int) (h0 : 0 ≤ k) (h1 : k ≤ s.length) :
    FnP Tryd.prog 75 [.agg plM, .c (.str s), .c (.int .i64 k)] (obM m) 1 kp0 (geR (chR s m k).2.1 (chR s m k).2.2) (obM (chR s m k).1) 1 := by
  have hr := bt_rng s k
  have hw : IntKind.wrap .i64 (bt s k) = bt s k := wr64 _ (by omega) (by omega)
  refine fnP noI Tryd.func75 rfl rfl rfl rfl ?_
  conv => whnf
  refine ⟨fun h => ⟨h0, by have := of_decide_eq_false h; omega⟩, ?_⟩
  conv => whnf
  rw [hw]
  refine ⟨fun a => ?_, fun a => ?_⟩
  · have a : (s.length : Int) ≤ k ∨ 6 ≤ bt s k := by
      rw [Bool.or_eq_true, decide_eq_true_eq, decide_eq_true_eq] at a
      exact a
    rw [show chR s m k = (m, 0, false) from if_pos a]
    conv => whnf
    refine ⟨rfl, ?_, ?_, ?_⟩ <;> (repeat' apply And.intro) <;> first | exact trivial | rfl | assumption
  have a : ¬ ((s.length : Int) ≤ k ∨ 6 ≤ bt s k) := by
    rw [Bool.or_eq_false_iff, decide_eq_false_iff_not, decide_eq_false_iff_not] at a
    exact fun h => h.elim a.1 a.2
  have a1 : k < s.length := by omega
  have a2 : bt s k < 6 := by omega
  conv => whnf
  refine any0 ?_
  conv => whnf
  refine ⟨⟨h0, a1⟩, ?_⟩
  conv => whnf
  refine ⟨.inl (by kernel_rfl), after0 ?_⟩
  conv => whnf
  refine any0 ?_
  conv => whnf
  rw [hw]
  refine callrp0 [0] rfl rfl rfl (wire_ofOpM (sO m (oK (mOp m) (bt s k)))) rfl rfl rfl rfl rfl rfl [0] rfl rfl ?_
  conv => whnf
  refine ⟨⟨⟨hr.1, a2⟩, a2⟩, ?_⟩
  conv => whnf
  rw [show IntKind.wrap .i64 (k + 1) = k + 1 from wr64 _ (by omega) (by omega)]
  refine callrp0 [0] rfl rfl rfl (wire_fldO (sO m (oK (mOp m) (bt s k))) (gt (d := .str) opsL (bt s k)) (ops_ok _).1 (ops_ok _).2 s hs (k + 1) (by omega) (by omega)) rfl rfl rfl rfl rfl rfl [] rfl rfl ?_
  conv => whnf
  refine ⟨.inl (by kernel_rfl), after0 ?_⟩
  conv => whnf
  have hb := fld_bd (G := goM s) (n := s.length) (fun m f k h0 h1 h => goM_bd h0 h1 h) (gt (d := .str) opsL (bt s k)) (sO m (oK (mOp m) (bt s k))) (k + 1) 0 (by omega) (Int.le_refl 0) (by omega)
  have hA : chR s m k = _ := if_neg a
  rw [hA]
  have hw2 := wr64 ((fldS (goM s) (gt (d := .str) opsL (bt s k)) (sO m (oK (mOp m) (bt s k))) (k + 1) 0).2.1 + 1) (by omega) (by omega)
  rw [hw2]
  refine ⟨rfl, ?_, ?_, ?_⟩ <;> (repeat' apply And.intro) <;> first | exact trivial | rfl | assumption
end Go.Proofs.YtnldokebmfojeaaDoor
