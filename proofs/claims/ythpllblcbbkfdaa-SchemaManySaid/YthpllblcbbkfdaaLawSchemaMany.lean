/- The walks of hedgerowkeep.Mod and of the law SchemaMany. Own work. -/
import Derived.Test.YthpllblcbbkfdaaLawSchemaBack
set_option linter.unusedVariables false
set_option maxRecDepth 100000
namespace Go.Proofs.Ythpllblcbbkfdaa
open Go Go.RowKit OE

theorem keep_Mod (k n : Int) (h0 : 0 < n) (h1 : n ≤ 1000000) : FnD Try.prog 29 [.c (.int .i64 k), .c (.int .i64 n)] (· = .c (.int .i64 (k % n))) := by
  have e1 : -n < k.tmod n ∧ k.tmod n < n := ⟨Int.lt_tmod_of_pos k h0, Int.tmod_lt_of_pos k h0⟩
  have e2 : IntKind.wrap .i64 (k.tmod n + n) = k.tmod n + n := wr64 _ (by omega) (by omega)
  have e3 : (k.tmod n + n).tmod n = k % n := by
    rw [Int.tmod_eq_emod_of_nonneg (by omega)]
    have : k.tmod n = k - n * k.tdiv n := by have := Int.tmod_add_mul_tdiv k n; omega
    rw [this, Int.add_emod_right]
    rw [show k - n * k.tdiv n = k + n * (-k.tdiv n) by rw [Int.mul_neg]; omega, Int.add_mul_emod_self_left]
  refine fn0 Try.func29 rfl rfl rfl ?_
  conv => whnf
  refine fk (decide_eq_false (by omega)) ?_
  conv => whnf
  refine ⟨by omega, ?_⟩
  conv => whnf
  refine ⟨by omega, ?_⟩
  conv => whnf
  rw [e2, e3]

def letS (m : Nat) : List UInt8 := [UInt8.ofNat (97 + m)]
theorem let_name : ∀ m, m < 26 → nameS (letS m) = true := by decide
theorem let_inj : ∀ a, a < 26 → ∀ b, b < 26 → letS a = letS b → a = b := by decide
theorem let_byl {m : Nat} (h : m < 26) : byl [IntKind.wrap .u8 (IntKind.wrap .i64 (97 + (m : Int)))] = letS m := by
  rw [wr64 _ (by omega) (by omega), wru8]
  have e : ((97 + (m : Int)) % 256).toNat = 97 + m := by omega
  show [UInt8.ofNat ((97 + (m : Int)) % 256).toNat] = _
  rw [e]; rfl

/-- what is marked is what is there -/
structure Mk (L : List SD.T) (A : List Bool) : Prop where
  ty : tyS L = true
  len : A.length = 26
  at_ : ∀ m, m < 26 → A[m]? = some (hasT L (letS m))
theorem has_with (L : List SD.T) (x y : List UInt8) : hasT (withS L x) y = (decide (y = x) || hasT L y) := by
  rw [Bool.eq_iff_iff, Bool.or_eq_true, has_iff, has_iff, with_mem, decide_eq_true_eq]
theorem Mk.add {L : List SD.T} {A : List Bool} (h : Mk L A) {m : Nat} (hm : m < 26) (h1 : hasT L (letS m) = false) (h2 : L.length < 16) : Mk (withS L (letS m)) (A.set m true) := by
  obtain ⟨g1, g2, g3⟩ := (ty_iff L).1 h.ty
  refine ⟨(ty_iff _).2 ⟨by rw [with_len]; omega, with_pw g2 (fun h => by rw [(has_iff _ _).2 h] at h1; cases h1), fun x hx => ?_⟩, by simp [h.len], fun n hn => ?_⟩
  · rcases with_mem.1 hx with rfl | hx
    · exact let_name m hm
    · exact g3 x hx
  · rw [List.getElem?_set, has_with]
    by_cases e : m = n
    · subst e
      rw [if_pos rfl, if_pos (by rw [h.len]; exact hm)]; simp
    · rw [if_neg e, h.at_ n hn, decide_eq_false (fun e2 => e (let_inj n hn m hm e2).symm)]; rfl

abbrev OD : D := .int .u8
theorem row_SchemaMany (o : List Int) (ho : Wf (.list (.int .u8)) o) (kd : Int) (wk : (Lit.int .i64 kd).wf = true) :
    FnD Try.prog 7 [.c (.dat (.int .u8) o), .c (.int .i64 kd)] (· = .c (.bool (.sym true))) := by
  refine fn0 Try.func7 rfl rfl rfl ?_
  conv => whnf
  refine call1 (keep_Mod kd 2 (by decide) (by decide)) rfl ?_
  conv => whnf
  have hk : kd % 2 = 0 ∨ kd % 2 = 1 := by omega
  have e0 : IntKind.wrap .i64 (1 + kd % 2) = 1 + kd % 2 := wr64 _ (by omega) (by omega)
  rw [e0]
  have hbd : ∀ (L : List SD.T), L.length ≤ 16 → (putS C0 (1 + kd % 2) L).1.length ≤ 1000 ∧ (putS C0 (1 + kd % 2) L).2.1.length ≤ 1000 ∧ (putS C0 (1 + kd % 2) L).2.2.1.length ≤ 1000 ∧ (putS C0 (1 + kd % 2) L).2.2.2.1.length ≤ 1000 := fun L hL => by
    rcases hk with e | e <;> rw [e]
    · exact ⟨by show L.length ≤ _; omega, Nat.zero_le _, Nat.zero_le _, Nat.zero_le _⟩
    · exact ⟨Nat.zero_le _, by show L.length ≤ _; omega, Nat.zero_le _, Nat.zero_le _⟩
  have hk2 : (1 + kd % 2 = 1 ∨ 1 + kd % 2 = 2) := by omega
  have hput : ∀ L L' : List SD.T, putS (putS C0 (1 + kd % 2) L) (1 + kd % 2) L' = putS C0 (1 + kd % 2) L' := fun L L' => by rcases hk with e | e <;> rw [e] <;> rfl
  have hty : ∀ L : List SD.T, tyS L = true → typesS (putS C0 (1 + kd % 2) L) = true := fun L h => put_types hk2 (by rfl) h
  have hsum : ∀ L : List SD.T, L.length ≤ 16 → IntKind.wrap .i64 (((putS C0 (1 + kd % 2) L).1.length : Int) + ((putS C0 (1 + kd % 2) L).2.1.length : Int)) = L.length := fun L hL => by
    rcases hk with e | e <;> rw [e]
    · show IntKind.wrap .i64 ((L.length : Int) + (0 : Nat)) = _
      rw [wr64 _ (by omega) (by omega)]; omega
    · show IntKind.wrap .i64 (((0 : Nat) : Int) + L.length) = _
      rw [wr64 _ (by omega) (by omega)]; omega
  have h0 : putS C0 (1 + kd % 2) [] = C0 := by rcases hk with e | e <;> rw [e] <;> rfl
  generalize 1 + kd % 2 = k at *
  refine arrl0 1 26 .bool rfl rfl rfl ?_
  conv => whnf
  refine loop0 (α := Nat × List SD.T × List Bool) (fun p => p.1 ≤ o.length ∧ Mk p.2.1 p.2.2)
    (fun p => ⟨[(0, .c (.dat (.int .u8) o)), (5, .c (.int .i64 k)), (6, .c (.ptr 0 0)), (7, .c (.int .i64 p.2.1.length)), (8, .c (.ptr 1 0)), (9, .c (.int .i64 p.1))],
      [(0, .cells 26 (cc (putS C0 k p.2.1))), (1, .wid 44 .bool p.2.2 26)], 2⟩) (fun p => o.length - p.1) ⟨(0, [], List.replicate 26 false), ⟨by simp, ⟨by decide, by simp, by decide⟩⟩, ?_⟩ ?_
  · dsimp only
    rw [h0]
    (conv => whnf); refine ⟨rfl, ?_, ?_, ?_⟩ <;> (repeat' apply And.intro) <;> first | exact trivial | rfl | exact wr_succ _ (by omega) | assumption | exact decide_eq_false (by assumption) | exact decide_eq_true (by assumption)
  rintro ⟨i, L, A⟩ ⟨hI, hM⟩
  dsimp only at hI hM ⊢
  conv => whnf
  intro _
  conv => whnf
  refine ⟨fun h1 => ?_, fun h1 => ?_⟩
  · have hi : i < o.length := by simp at h1; omega
    have hob : 0 ≤ o[i] ∧ o[i] ≤ 255 := by
      have := ho.2 o[i] (List.getElem_mem hi)
      simpa [Wf, Lit.wf, IntKind.min, IntKind.max, IntKind.bits, IntKind.signed] using this
    have e1 : IntKind.wrap .i64 o[i] = o[i] := wr64 _ (by omega) (by omega)
    obtain ⟨m, hm, em⟩ : ∃ m : Nat, m < 26 ∧ o[i].tmod 26 = (m : Int) := ⟨(o[i] % 26).toNat, by omega, by rw [Int.tmod_eq_emod_of_nonneg hob.1]; omega⟩
    conv => whnf
    try (intro _; conv => whnf)
    refine ⟨by omega, ?_⟩
    rw [gt_nat (d := OD) o i hi]
    conv => whnf
    rw [e1]
    refine ⟨by decide, ?_⟩
    rw [em]
    conv => whnf
    have el := let_byl hm
    obtain ⟨b1, b2, b3, b4⟩ := hbd L ((ty_iff L).1 hM.ty).1
    have hL := ((ty_iff L).1 hM.ty).1
    refine call1 (schema_Add (putS C0 k L) k (byl [IntKind.wrap .u8 (IntKind.wrap .i64 (97 + (m : Int)))]) b1 b2 b3 b4) rfl ?_
    conv => whnf
    rw [el]
    have hA : gt (d := .bool) A (m : Int) = hasT L (letS m) := by
      have := hM.at_ m hm
      rw [gt_nat (d := .bool) A m (by rw [hM.len]; exact hm)]
      rw [List.getElem?_eq_getElem (by rw [hM.len]; exact hm)] at this
      simpa using this
    have hkd : kindS (putS C0 k L) k = L := put_kind C0 hk2 L
    conv => whnf
    refine ⟨by omega, ?_⟩
    conv => whnf
    refine ⟨by rw [hM.len]; omega, ?_⟩
    rw [hA]
    conv => whnf
    cases hh : hasT L (letS m) with
    | true =>
      have hE : addS (putS C0 k L) k (letS m) = (C0, 61) := by
        unfold addS
        rw [if_neg (by simp [hk2, let_name m hm]), hkd, if_pos hh]
      rw [hE]
      refine tk rfl ?_
      conv => whnf
      refine fk rfl ?_
      conv => whnf
      refine fk rfl ?_
      conv => whnf
      refine call1 (schema_Types (putS C0 k L)) rfl ?_
      conv => whnf
      intro _
      conv => whnf
      intro _
      conv => whnf
      refine fk (by
        have hs := hsum L (by first | exact hL2 | exact hL)
        have ht := hty L (by first | exact hM2.ty | exact hM.ty)
        rw [ht, hs]
        first | (simp; done) | (rw [wr64 _ (by omega) (by omega), with_len]; simp)) ?_
      conv => whnf
      refine ⟨(i + 1, L, A), ⟨⟨by omega, hM⟩, by dsimp only; omega⟩, ?_⟩
      (conv => whnf); refine ⟨rfl, ?_, ?_, ?_⟩ <;> (repeat' apply And.intro) <;> first | exact trivial | rfl | exact wr_succ _ (by omega) | assumption | exact decide_eq_false (by assumption) | exact decide_eq_true (by assumption)
    | false =>
      refine fk rfl ?_
      conv => whnf
      refine ⟨fun h16 => ?_, fun h16 => ?_⟩
      · have h16 : 16 ≤ L.length := by simp at h16; omega
        have hE : addS (putS C0 k L) k (letS m) = (C0, 3) := by
          unfold addS
          rw [if_neg (by simp [hk2, let_name m hm]), hkd, if_neg (by simp [hh]), if_pos h16]
        rw [hE]
        conv => whnf
        refine fk rfl ?_
        conv => whnf
        refine fk rfl ?_
        conv => whnf
        refine call1 (schema_Types (putS C0 k L)) rfl ?_
        conv => whnf
        intro _
        conv => whnf
        intro _
        conv => whnf
        refine fk (by
          have hs := hsum L (by first | exact hL2 | exact hL)
          have ht := hty L (by first | exact hM2.ty | exact hM.ty)
          rw [ht, hs]
          first | (simp; done) | (rw [wr64 _ (by omega) (by omega), with_len]; simp)) ?_
        conv => whnf
        refine ⟨(i + 1, L, A), ⟨⟨by omega, hM⟩, by dsimp only; omega⟩, ?_⟩
        (conv => whnf); refine ⟨rfl, ?_, ?_, ?_⟩ <;> (repeat' apply And.intro) <;> first | exact trivial | rfl | exact wr_succ _ (by omega) | assumption | exact decide_eq_false (by assumption) | exact decide_eq_true (by assumption)
      · have h16 : L.length < 16 := by simp at h16; omega
        have hE : addS (putS C0 k L) k (letS m) = (putS C0 k (withS L (letS m)), 0) := by
          unfold addS
          rw [if_neg (by simp [hk2, let_name m hm]), hkd, if_neg (by simp [hh]), if_neg (by omega), hput]
        have hM2 := hM.add hm hh h16
        have hL2 := ((ty_iff _).1 hM2.ty).1
        rw [hE]
        conv => whnf
        refine fk rfl ?_
        conv => whnf
        refine tk rfl ?_
        conv => whnf
        refine ⟨by omega, ?_⟩
        conv => whnf
        refine ⟨by rw [hM.len]; omega, ?_⟩
        conv => whnf
        refine call1 (schema_Types (putS C0 k (withS L (letS m)))) rfl ?_
        conv => whnf
        intro _
        conv => whnf
        intro _
        conv => whnf
        refine fk (by
          have hs := hsum (withS L (letS m)) (by first | exact hL2 | exact hL)
          have ht := hty (withS L (letS m)) (by first | exact hM2.ty | exact hM.ty)
          rw [ht, hs]
          first | (simp; done) | (rw [wr64 _ (by omega) (by omega), with_len]; simp)) ?_
        conv => whnf
        have e7 : (((withS L (letS m)).length : Nat) : Int) = IntKind.wrap .i64 ((L.length : Int) + 1) := by rw [with_len]; exact wr_succ _ (by omega)
        refine ⟨(i + 1, withS L (letS m), A.set m true), ⟨⟨by omega, hM2⟩, by dsimp only; omega⟩, ?_⟩
        (conv => whnf); refine ⟨rfl, ?_, ?_, ?_⟩ <;> (repeat' apply And.intro) <;> first | exact trivial | rfl | exact wr_succ _ (by omega) | assumption | exact decide_eq_false (by assumption) | exact decide_eq_true (by assumption)
  · conv => whnf
    refine call1 (schema_wakes) rfl ?_
    conv => whnf
end Go.Proofs.Ythpllblcbbkfdaa
