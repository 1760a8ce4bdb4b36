/- The walk of place.get, fields, read, of commands. Own work. -/
import Derived.Test.YtnldokebmfojeaaDoorWireFldO
set_option linter.unusedVariables false
set_option maxRecDepth 100000
namespace Go.Proofs.YtnldokebmfojeaaDoor
open Go Go.RowKit OE

def mT (m : MD.T) (t : List UInt8) : MD.T := (m.1, m.2.1, t, m.2.2.2)
def mNm (m : MD.T) (t : List UInt8) : MD.T := (m.1, m.2.1, m.2.2.1, t, m.2.2.2.2)
def mI (m : MD.T) (n : Int) : MD.T := (m.1, n, m.2.2)
def mVl (m : MD.T) (v : VD.T) : MD.T := (m.1, m.2.1, m.2.2.1, m.2.2.2.1, v, m.2.2.2.2.2)
def mW (m : MD.T) (v : VD.T) : MD.T := (m.1, m.2.1, m.2.2.1, m.2.2.2.1, m.2.2.2.2.1, v, m.2.2.2.2.2.2)
def mM (m : MD.T) (n : Int) : MD.T := (m.1, m.2.1, m.2.2.1, m.2.2.2.1, m.2.2.2.2.1, m.2.2.2.2.2.1, n, m.2.2.2.2.2.2.2)
def mR (m : MD.T) (r : RD.T) : MD.T := (m.1, m.2.1, m.2.2.1, m.2.2.2.1, m.2.2.2.2.1, m.2.2.2.2.2.1, m.2.2.2.2.2.2.1, m.2.2.2.2.2.2.2.1, r)
def rS' (s : List UInt8) (k : Int) : RD.T × Nat := (decS s k).getD (R0, 0)
def miN (n : Nat) : Int := IntKind.wrap .i64 (if (1000001 : Int) < (n : Int) then 1000001 else (n : Int))
/-- the field that stands somewhere, into a command -/
def gM (s : List UInt8) (m : MD.T) (f k : Int) : MD.T × Int × Bool :=
  if f = 116 ∨ f = 101 then (mT m (tS s k).1, ((tS s k).2 : Int), (Num.getT s k 16).isSome)
  else if f = 110 then (mNm m (tS s k).1, ((tS s k).2 : Int), (Num.getT s k 16).isSome)
  else if f = 105 then (mI m (idN (nS s k).1), ((nS s k).2 : Int), (Num.getN s k).isSome)
  else if f = 118 ∨ f = 119 then (mVl m (vS' s k).1, ((vS' s k).2 : Int), (decV s k).isSome)
  else if f = 120 then (mW m (vS' s k).1, ((vS' s k).2 : Int), (decV s k).isSome)
  else if f = 107 ∨ f = 109 then (mM m (miN (nS s k).1), ((nS s k).2 : Int), (Num.getN s k).isSome)
  else if f = 114 then (mR m (rS' s k).1, ((rS' s k).2 : Int), (decS s k).isSome)
  else chR s m k
theorem wire_getM (m : MD.T) (f : Int) (hf : fM f) (s : List UInt8) (hs : s.length ≤ 1000000) (k : Int) (h0 : 0 ≤ k) (h1 : k ≤ s.length) :
    FnP Tryd.prog 65 [.agg plM, .c (.int .u8 f), .c (.str s), .c (.int .i64 k)] (obM m) 1 kp0 (geR (gM s m f k).2.1 (gM s m f k).2.2) (obM (gM s m f k).1) 1 := by
  have n1 : ¬ f = 97 := fun e => by rcases hf with h | h | h | h | h | h | h | h | h | h | h <;> rw [h] at e <;> exact absurd e (by decide)
  have n2 : ¬ f = 98 := fun e => by rcases hf with h | h | h | h | h | h | h | h | h | h | h <;> rw [h] at e <;> exact absurd e (by decide)
  have n3 : ¬ f = 99 := fun e => by rcases hf with h | h | h | h | h | h | h | h | h | h | h <;> rw [h] at e <;> exact absurd e (by decide)
  refine fnP noI Tryd.func65 rfl rfl rfl rfl ?_
  conv => whnf
  refine ⟨fun a => ?_, fun a => ?_⟩
  · have a : f = 116 := of_decide_eq_true a
    have hA : gM s m f k = (mT m (tS s k).1, ((tS s k).2 : Int), (Num.getT s k 16).isSome) := by unfold gM; exact if_pos (.inl a)
    rw [hA]
    conv => whnf
    refine any0 ?_
    conv => whnf
    refine callr0 (num_GetText s k 16 (Nat.le_trans hs (by decide)) (by decide)) rfl ?_
    conv => whnf
    refine ⟨.inl (by kernel_rfl), after0 ?_⟩
    conv => whnf
    refine ⟨rfl, ?_, ?_, ?_⟩ <;> (repeat' apply And.intro) <;> first | exact trivial | rfl | assumption
  have a1 : ¬ f = 116 := of_decide_eq_false a
  clear a
  conv => whnf
  refine ⟨fun a => ?_, fun a => ?_⟩
  · have a : f = 101 := of_decide_eq_true a
    have hA : gM s m f k = (mT m (tS s k).1, ((tS s k).2 : Int), (Num.getT s k 16).isSome) := by unfold gM; exact if_pos (.inr a)
    rw [hA]
    conv => whnf
    refine any0 ?_
    conv => whnf
    refine callr0 (num_GetText s k 16 (Nat.le_trans hs (by decide)) (by decide)) rfl ?_
    conv => whnf
    refine ⟨.inl (by kernel_rfl), after0 ?_⟩
    conv => whnf
    refine ⟨rfl, ?_, ?_, ?_⟩ <;> (repeat' apply And.intro) <;> first | exact trivial | rfl | assumption
  have a2 : ¬ f = 101 := of_decide_eq_false a
  have q1 : ¬ (f = 116 ∨ f = 101) := fun h => h.elim a1 a2
  clear a
  conv => whnf
  refine ⟨fun a => ?_, fun a => ?_⟩
  · have a : f = 110 := of_decide_eq_true a
    have hA : gM s m f k = (mNm m (tS s k).1, ((tS s k).2 : Int), (Num.getT s k 16).isSome) := by unfold gM; rw [if_neg q1, if_pos a]
    rw [hA]
    conv => whnf
    refine any0 ?_
    conv => whnf
    refine callr0 (num_GetText s k 16 (Nat.le_trans hs (by decide)) (by decide)) rfl ?_
    conv => whnf
    refine ⟨.inl (by kernel_rfl), after0 ?_⟩
    conv => whnf
    refine ⟨rfl, ?_, ?_, ?_⟩ <;> (repeat' apply And.intro) <;> first | exact trivial | rfl | assumption
  have a3 : ¬ f = 110 := of_decide_eq_false a
  clear a
  conv => whnf
  refine ⟨fun a => ?_, fun a => ?_⟩
  · have a : f = 105 := of_decide_eq_true a
    have hA : gM s m f k = (mI m (idN (nS s k).1), ((nS s k).2 : Int), (Num.getN s k).isSome) := by unfold gM; rw [if_neg q1, if_neg a3, if_pos a]
    rw [hA]
    conv => whnf
    refine call1 (num_Get s k (Nat.le_trans hs (by decide))) rfl ?_
    conv => whnf
    refine fk (by rw [a]; rfl) ?_
    conv => whnf
    refine fk (by rw [a]; rfl) ?_
    conv => whnf
    refine ⟨rfl, ?_, ?_, ?_⟩ <;> (repeat' apply And.intro) <;> first | exact trivial | rfl | assumption
  have a4 : ¬ f = 105 := of_decide_eq_false a
  clear a
  conv => whnf
  refine fk (decide_eq_false n1) ?_
  conv => whnf
  refine fk (decide_eq_false n2) ?_
  conv => whnf
  refine ⟨fun a => ?_, fun a => ?_⟩
  · have a : f = 118 := of_decide_eq_true a
    have hA : gM s m f k = (mVl m (vS' s k).1, ((vS' s k).2 : Int), (decV s k).isSome) := by unfold gM; rw [if_neg q1, if_neg a3, if_neg a4, if_pos (.inl a)]
    rw [hA]
    conv => whnf
    refine any0 ?_
    conv => whnf
    refine callr0 (val_Decode s k hs) rfl ?_
    conv => whnf
    refine ⟨.inl (by kernel_rfl), after0 ?_⟩
    conv => whnf
    refine ⟨rfl, ?_, ?_, ?_⟩ <;> (repeat' apply And.intro) <;> first | exact trivial | rfl | assumption
  have a7 : ¬ f = 118 := of_decide_eq_false a
  clear a
  conv => whnf
  refine ⟨fun a => ?_, fun a => ?_⟩
  · have a : f = 119 := of_decide_eq_true a
    have hA : gM s m f k = (mVl m (vS' s k).1, ((vS' s k).2 : Int), (decV s k).isSome) := by unfold gM; rw [if_neg q1, if_neg a3, if_neg a4, if_pos (.inr a)]
    rw [hA]
    conv => whnf
    refine any0 ?_
    conv => whnf
    refine callr0 (val_Decode s k hs) rfl ?_
    conv => whnf
    refine ⟨.inl (by kernel_rfl), after0 ?_⟩
    conv => whnf
    refine ⟨rfl, ?_, ?_, ?_⟩ <;> (repeat' apply And.intro) <;> first | exact trivial | rfl | assumption
  have a8 : ¬ f = 119 := of_decide_eq_false a
  have q2 : ¬ (f = 118 ∨ f = 119) := fun h => h.elim a7 a8
  clear a
  conv => whnf
  refine ⟨fun a => ?_, fun a => ?_⟩
  · have a : f = 120 := of_decide_eq_true a
    have hA : gM s m f k = (mW m (vS' s k).1, ((vS' s k).2 : Int), (decV s k).isSome) := by unfold gM; rw [if_neg q1, if_neg a3, if_neg a4, if_neg q2, if_pos a]
    rw [hA]
    conv => whnf
    refine any0 ?_
    conv => whnf
    refine callr0 (val_Decode s k hs) rfl ?_
    conv => whnf
    refine ⟨.inl (by kernel_rfl), after0 ?_⟩
    conv => whnf
    refine ⟨rfl, ?_, ?_, ?_⟩ <;> (repeat' apply And.intro) <;> first | exact trivial | rfl | assumption
  have a9 : ¬ f = 120 := of_decide_eq_false a
  clear a
  conv => whnf
  refine ⟨fun a => ?_, fun a => ?_⟩
  · have a : f = 107 := of_decide_eq_true a
    have hA : gM s m f k = (mM m (miN (nS s k).1), ((nS s k).2 : Int), (Num.getN s k).isSome) := by unfold gM; rw [if_neg q1, if_neg a3, if_neg a4, if_neg q2, if_neg a9, if_pos (.inl a)]
    rw [hA]
    conv => whnf
    refine call1 (num_Get s k (Nat.le_trans hs (by decide))) rfl ?_
    conv => whnf
    refine ⟨rfl, ?_, ?_, ?_⟩ <;> (repeat' apply And.intro) <;> first | exact trivial | rfl | assumption
  have a10 : ¬ f = 107 := of_decide_eq_false a
  clear a
  conv => whnf
  refine ⟨fun a => ?_, fun a => ?_⟩
  · have a : f = 109 := of_decide_eq_true a
    have hA : gM s m f k = (mM m (miN (nS s k).1), ((nS s k).2 : Int), (Num.getN s k).isSome) := by unfold gM; rw [if_neg q1, if_neg a3, if_neg a4, if_neg q2, if_neg a9, if_pos (.inr a)]
    rw [hA]
    conv => whnf
    refine call1 (num_Get s k (Nat.le_trans hs (by decide))) rfl ?_
    conv => whnf
    refine ⟨rfl, ?_, ?_, ?_⟩ <;> (repeat' apply And.intro) <;> first | exact trivial | rfl | assumption
  have a11 : ¬ f = 109 := of_decide_eq_false a
  have q3 : ¬ (f = 107 ∨ f = 109) := fun h => h.elim a10 a11
  clear a
  conv => whnf
  refine fk (decide_eq_false n3) ?_
  conv => whnf
  refine ⟨fun a => ?_, fun a => ?_⟩
  · have a : f = 114 := of_decide_eq_true a
    have hA : gM s m f k = (mR m (rS' s k).1, ((rS' s k).2 : Int), (decS s k).isSome) := by unfold gM; rw [if_neg q1, if_neg a3, if_neg a4, if_neg q2, if_neg a9, if_neg q3, if_pos a]
    rw [hA]
    conv => whnf
    refine any0 ?_
    conv => whnf
    refine callr0 (rule_Decode s k hs) rfl ?_
    conv => whnf
    refine ⟨.inl (by kernel_rfl), after0 ?_⟩
    conv => whnf
    refine ⟨rfl, ?_, ?_, ?_⟩ <;> (repeat' apply And.intro) <;> first | exact trivial | rfl | assumption
  have a12 : ¬ f = 114 := of_decide_eq_false a
  have a : f = 111 := by rcases hf with h | h | h | h | h | h | h | h | h | h | h <;> first | exact h | exact absurd h (by assumption)
  conv => whnf
  refine tk (by rw [a]; rfl) ?_
  have hA : gM s m f k = chR s m k := by unfold gM; rw [if_neg q1, if_neg a3, if_neg a4, if_neg q2, if_neg a9, if_neg q3, if_neg a12]
  rw [hA]
  conv => whnf
  refine callp0 [0] rfl rfl (wire_pchange m s hs k h0 h1) rfl rfl rfl rfl rfl ?_
  conv => whnf
  refine ⟨rfl, ?_, ?_, ?_⟩ <;> (repeat' apply And.intro) <;> first | exact trivial | rfl | assumption
theorem decS_bdZ {s : List UInt8} {a : Int} {r : RD.T} {n : Nat} (h : decS s a = some (r, n)) : a + n ≤ s.length := by
  unfold decS at h
  split at h
  · cases h
  rename_i p hp
  split at h
  · cases h
    unfold decP at hp
    repeat (split at hp; · cases hp)
    rename_i h8
    cases hp
    have := getT_bd h8
    omega
  · cases h
theorem rS_bd {s : List UInt8} {k : Int} (h : (decS s k).isSome = true) : k + ((rS' s k).2 : Int) ≤ s.length := by
  unfold rS'
  cases hg : decS s k with
  | none => rw [hg] at h; cases h
  | some p =>
    obtain ⟨r, i⟩ := p
    have := decS_bdZ hg
    simp only [Option.getD_some]
    omega
theorem gM_bd {s : List UInt8} {m : MD.T} {f k : Int} (h0 : 0 ≤ k) (h1 : k ≤ s.length) (h : (gM s m f k).2.2 = true) : 0 ≤ (gM s m f k).2.1 ∧ k + (gM s m f k).2.1 ≤ s.length := by
  generalize hr : gM s m f k = r at h ⊢
  unfold gM at hr
  repeat' split at hr
  all_goals subst hr
  all_goals first | exact ⟨Int.natCast_nonneg _, tS_bd h⟩ | exact ⟨Int.natCast_nonneg _, nS_bd h⟩ | exact ⟨Int.natCast_nonneg _, vS_bd h⟩ | exact ⟨Int.natCast_nonneg _, rS_bd h⟩ | skip
  generalize hr : chR s m k = r at h ⊢
  unfold chR at hr
  split at hr
  · subst hr; cases h
  · rename_i hc
    have hb := fld_bd (G := goM s) (n := s.length) (fun m f k h0 h1 h => goM_bd h0 h1 h) (gt (d := .str) opsL (bt s k)) (sO m (oK (mOp m) (bt s k))) (k + 1) 0 (by omega) (Int.le_refl 0) (by omega)
    subst hr
    dsimp only at h ⊢
    have := hb.2.1 h
    omega
theorem wire_fldM (m : MD.T) (l : List UInt8) (hl : l.length ≤ 100) (hf : ∀ f ∈ l, fM f.toNat) (s : List UInt8) (hs : s.length ≤ 1000000) (k : Int) (h0 : 0 ≤ k) (h1 : k ≤ s.length) :
    FnP Tryd.prog 59 [.agg plM, .c (.str l), .c (.str s), .c (.int .i64 k)] (obM m) 1 kp0 (geR (fldS (gM s) l m k 0).2.1 (fldS (gM s) l m k 0).2.2) (obM (fldS (gM s) l m k 0).1) 1 := by
  refine fnP noI Tryd.func59 rfl rfl rfl rfl ?_
  conv => whnf
  refine loop0 (α := Nat × MD.T × Int) (fun p => p.1 ≤ l.length ∧ 0 ≤ p.2.2 ∧ k + p.2.2 ≤ s.length ∧ fldS (gM s) l m k 0 = fldS (gM s) (l.drop p.1) p.2.1 k p.2.2)
    (fun p => ⟨[(1, .c (.str l)), (2, .c (.str s)), (3, .c (.int .i64 k)), (4, .c (.ptr 1 0)), (8, .c (.int .i64 p.2.2)), (14, .c (.int .i64 l.length)), (15, .c (.int .i64 p.1))], (1, .cells 96 (plM)) :: obM p.2.1, 2⟩) (fun p => l.length - p.1) ⟨(0, m, 0), ⟨by dsimp only; omega, Int.le_refl _, by dsimp only; omega, rfl⟩, ?_⟩ ?_
  · (conv => whnf); refine ⟨rfl, ?_, ?_, ?_⟩ <;> (repeat' apply And.intro) <;> first | exact trivial | rfl | exact wr_succ _ (by omega) | assumption | exact decide_eq_false (by assumption) | exact decide_eq_true (by assumption)
  rintro ⟨j, m', z⟩ ⟨hJ1, hJ2, hJ3, hJ4⟩
  dsimp only at hJ1 hJ2 hJ3 hJ4 ⊢
  conv => whnf
  refine ⟨fun h4 => ?_, fun h4 => ?_⟩
  · have h4 : j < l.length := by simp at h4; omega
    have hS : fldS (gM s) (l.drop j) m' k z = (if ((gM s) m' l[j].toNat (k + z)).2.2 = true then fldS (gM s) (l.drop (j + 1)) ((gM s) m' l[j].toNat (k + z)).1 k (z + ((gM s) m' l[j].toNat (k + z)).2.1) else (((gM s) m' l[j].toNat (k + z)).1, 0, false)) := by
      rw [List.drop_eq_getElem_cons h4]; rfl
    rw [hS] at hJ4
    have hk : IntKind.wrap .i64 (k + z) = k + z := wr64 _ (by omega) (by omega)
    have hGB : ((gM s) m' l[j].toNat (k + z)).2.2 = true → 0 ≤ ((gM s) m' l[j].toNat (k + z)).2.1 ∧ (k + z) + ((gM s) m' l[j].toNat (k + z)).2.1 ≤ s.length := fun h => gM_bd (by omega) (by omega) h
    conv => whnf
    refine any0 ?_
    conv => whnf
    refine ⟨by omega, ?_⟩
    conv => whnf
    rw [bt_nat l j h4, hk]
    refine callrp0 [0] rfl rfl rfl (wire_getM m' l[j].toNat (hf _ (List.getElem_mem h4)) s hs (k + z) (by omega) hJ3) rfl rfl rfl rfl rfl rfl [] rfl rfl ?_
    conv => whnf
    refine ⟨.inl (by kernel_rfl), after0 ?_⟩
    conv => whnf
    refine ⟨fun h5 => ?_, fun h5 => ?_⟩
    · have h5 : ((gM s) m' l[j].toNat (k + z)).2.2 = false := wnt h5
      rw [if_neg (by rw [h5]; decide)] at hJ4
      rw [hJ4]
      conv => whnf
      refine ⟨rfl, ?_, ?_, ?_⟩ <;> (repeat' apply And.intro) <;> first | exact trivial | rfl | assumption
    have h5 : ((gM s) m' l[j].toNat (k + z)).2.2 = true := wnf h5
    rw [if_pos h5] at hJ4
    obtain ⟨b1, b2⟩ := hGB h5
    conv => whnf
    refine ⟨(j + 1, ((gM s) m' l[j].toNat (k + z)).1, z + ((gM s) m' l[j].toNat (k + z)).2.1), ⟨⟨by dsimp only; omega, by dsimp only; omega, by dsimp only; omega, hJ4⟩, by dsimp only; omega⟩, ?_⟩
    have hw : z + ((gM s) m' l[j].toNat (k + z)).2.1 = IntKind.wrap .i64 (z + ((gM s) m' l[j].toNat (k + z)).2.1) := (wr64 _ (by omega) (by omega)).symm
    (conv => whnf); refine ⟨rfl, ?_, ?_, ?_⟩ <;> (repeat' apply And.intro) <;> first | exact trivial | rfl | exact wr_succ _ (by omega) | assumption | exact decide_eq_false (by assumption) | exact decide_eq_true (by assumption)
  · have h4 : l.length ≤ j := by simp at h4; omega
    rw [List.drop_eq_nil_of_le h4] at hJ4
    rw [show fldS (gM s) l m k 0 = (m', z, true) from hJ4]
    conv => whnf
    refine ⟨rfl, ?_, ?_, ?_⟩ <;> (repeat' apply And.intro) <;> first | exact trivial | rfl | assumption
/-- a command of a kind, else empty -/
def m0 (k : Int) : MD.T := (k, MD.df.2)
/-- the command of bytes, and whether there is one -/
def readS (s : List UInt8) : MD.T × Bool :=
  if s = [] ∨ knownM (bt s 0) = false then (MD.df, false)
  else ((fldS (gM s) (gt (d := .str) cmdL (bt s 0)) (m0 (bt s 0)) 1 0).1, (fldS (gM s) (gt (d := .str) cmdL (bt s 0)) (m0 (bt s 0)) 1 0).2.2)
theorem wire_read (s : List UInt8) (hs : s.length ≤ 1000000) : FnD Tryd.prog 33 [.c (.str s)] (· = .tup [(true, mc (readS s).1), (false, [.bool (.sym (readS s).2)])]) := by
  have hr := bt_rng s 0
  have hw : IntKind.wrap .i64 (bt s 0) = bt s 0 := wr64 _ (by omega) (by omega)
  refine fn0 Tryd.func33 rfl rfl rfl ?_
  conv => whnf
  refine ⟨fun h => ⟨by decide, by
    have h : ¬ s = [] := of_decide_eq_false h
    have : 0 < s.length := List.length_pos_iff.2 h
    omega⟩, ?_⟩
  conv => whnf
  rw [hw]
  refine callg0 (fun _ => wire_known (bt s 0)) rfl ?_
  conv => whnf
  refine ⟨fun a => ?_, fun a => ?_⟩
  · have a : s = [] ∨ knownM (bt s 0) = false := by
      rw [Bool.or_eq_true, decide_eq_true_eq, Bool.not_eq_true'] at a
      exact a
    rw [show readS s = (MD.df, false) from if_pos a]
    conv => whnf
    rfl
  have a : ¬ (s = [] ∨ knownM (bt s 0) = false) := by
    rw [Bool.or_eq_false_iff, decide_eq_false_iff_not, Bool.not_eq_false'] at a
    rintro (h | h)
    · exact a.1 h
    · rw [a.2] at h; cases h
  have a0 : 0 < s.length := List.length_pos_iff.2 fun h => a (.inl h)
  have a1 : 1 ≤ bt s 0 ∧ bt s 0 < 21 := by
    have : knownM (bt s 0) = true := by
      cases h : knownM (bt s 0) with
      | true => rfl
      | false => exact (a (.inr h)).elim
    simpa [knownM] using this
  conv => whnf
  refine ⟨by omega, ?_⟩
  conv => whnf
  rw [hw]
  refine ⟨weaken (st := ⟨[(0, .c (.str s)), (2, .c (.ptr 0 0)), (3, .c (.bool .ff)), (4, .c (.ptr 1 0))], [(0, .cells 29 (mc MD.df)), (1, .cells 29 (mc (m0 (bt s 0))))], 2⟩) ?_ (go0 ?_)⟩
  · (conv => whnf); refine ⟨rfl, ?_, ?_, ?_⟩ <;> (repeat' apply And.intro) <;> first | exact trivial | rfl | exact wr_succ _ (by omega) | assumption | exact decide_eq_false (by assumption) | exact decide_eq_true (by assumption)
  refine any0 ?_
  conv => whnf
  refine callrp0 [1] rfl rfl rfl (wire_ofCmd (m0 (bt s 0))) rfl rfl rfl rfl rfl rfl [0] rfl rfl ?_
  conv => whnf
  refine ⟨⟨⟨hr.1, a1.2⟩, a1.2⟩, ?_⟩
  conv => whnf
  refine callrp0 [1] rfl rfl rfl (wire_fldM (m0 (bt s 0)) (gt (d := .str) cmdL (bt s 0)) (cmd_ok _).1 (cmd_ok _).2 s hs 1 (by decide) (by omega)) rfl rfl rfl rfl rfl rfl [] rfl rfl ?_
  conv => whnf
  refine ⟨.inl (by kernel_rfl), after0 ?_⟩
  conv => whnf
  rw [show readS s = _ from if_neg a]
end Go.Proofs.YtnldokebmfojeaaDoor
