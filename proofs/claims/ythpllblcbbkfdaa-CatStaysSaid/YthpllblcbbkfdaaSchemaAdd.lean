/- The walks of schema.Add, schema.Drop and of the reference's. Own work. -/
import Derived.Test.YthpllblcbbkfdaaSchemaCopy
import Derived.Test.YthpllblcbbkfdaaSchemaWith
import Derived.Test.YthpllblcbbkfdaaSchemaUsed
import Derived.Test.YthpllblcbbkfdaaSchemaTypes
set_option linter.unusedVariables false
set_option maxRecDepth 100000
namespace Go.Proofs.Ythpllblcbbkfdaa
open Go Go.RowKit OE

def C0 : CD.T := CD.df
/-- the catalog's cells where all its lists are nil -/
abbrev cn : List C := [.val (.slice none 0 0), .val (.slice none 0 0), .val (.slice none 0 0), .val (.slice none 0 0), .int .i64 0]
def catT (c : CD.T) (rest : List (Bool × List C)) (r : SV) : Prop := r = .tup ((true, cc c) :: rest) ∨ (c = C0 ∧ r = .tup ((true, cn) :: rest))
theorem nilC {w : World} {ok : Nat → Prop} {d : D} {v : Value} (h : RC (DX w ok) (.val (.slice none 0 0)) v) : RC (DX w ok) (.dat d []) v := nilA v h
theorem FnD.cat {P : Program} {f : Nat} {args : List SV} {c : CD.T} {rest : List (Bool × List C)} (h : FnD P f args (catT c rest)) : FnD P f args (· = .tup ((true, cc c) :: rest)) :=
  h.res fun r hr w ok v hv => by
    rcases hr with rfl | ⟨rfl, rfl⟩
    · exact hv
    · obtain ⟨vs, e, hl⟩ := hv
      refine ⟨vs, e, ?_⟩
      generalize vs.toList = m at hl
      cases m with
      | nil => exact hl.elim
      | cons x m =>
        refine ⟨?_, hl.2⟩
        have h1 := hl.1
        unfold RP at h1 ⊢
        simp only [if_true] at h1 ⊢
        obtain ⟨us, e2, hl2⟩ := h1
        refine ⟨us, e2, ?_⟩
        generalize us.toList = n at hl2
        match n, hl2 with
        | [a, b, c, d, e], ⟨h1, h2, h3, h4, h5, _⟩ => exact ⟨nilC h1, nilC h2, nilC h3, nilC h4, h5, trivial⟩

/-- a catalog with other types of a kind -/
def putS (c : CD.T) (k : Int) (l : List SD.T) : CD.T := if k = 1 then (l, c.2) else (c.1, l, c.2.2)
def addS (c : CD.T) (k : Int) (v : List UInt8) : CD.T × Int :=
  if ¬ (k = 1 ∨ k = 2) ∨ nameS v = false then (C0, 1)
  else if hasT (kindS c k) v = true then (C0, 61)
  else if 16 ≤ (kindS c k).length then (C0, 3)
  else (putS c k (withS (kindS c k) v), 0)
def dropS (c : CD.T) (k : Int) (v : List UInt8) : CD.T × Int :=
  if ¬ (k = 1 ∨ k = 2) then (C0, 1)
  else if hasT (kindS c k) v = false then (C0, 60)
  else if usedS c k v = true then (C0, 160)
  else (putS c k (woS (kindS c k) v), 0)

theorem schema_Add (c : CD.T) (k : Int) (v : List UInt8) (g1 : c.1.length ≤ 1000) (g2 : c.2.1.length ≤ 1000) (g3 : c.2.2.1.length ≤ 1000) (g4 : c.2.2.2.1.length ≤ 1000) :
    FnD Try.prog 23 [.agg (cc c), .c (.int .i64 k), .c (.str v)] (· = .tup [(true, cc (addS c k v).1), (false, [.int .i64 (addS c k v).2])]) := by
  refine FnD.cat ?_
  refine fnI inlN Try.func23 rfl rfl rfl ?_
  conv => whnf
  refine call1 (dat_Copy c g1 g2 g3 g4) rfl ?_
  conv => whnf
  refine ⟨fun h1 => ?_, fun h1 => ?_⟩
  · have h1 : k = 1 := by simpa using h1
    subst h1
    conv => whnf
    refine call1 (val_Name v) rfl ?_
    conv => whnf
    refine ⟨fun h3 => ?_, fun h3 => ?_⟩
    · have hA : addS c 1 v = (C0, 1) := if_pos (.inr (not_t h3))
      rw [hA]
      conv => whnf
      exact .inr ⟨rfl, rfl⟩
    conv => whnf
    have hK : kindS c 1 = c.1 := rfl
    refine call1 (slices_Contains c.1 v) rfl ?_
    conv => whnf
    refine ⟨fun h4 => ?_, fun h4 => ?_⟩
    · have hA : addS c 1 v = (C0, 61) := by unfold addS; rw [if_neg (by simp [not_f h3]), hK, if_pos h4]
      rw [hA]
      conv => whnf
      exact .inr ⟨rfl, rfl⟩
    conv => whnf
    intro _
    conv => whnf
    refine ⟨fun h5 => ?_, fun h5 => ?_⟩
    · have hA : addS c 1 v = (C0, 3) := by
        have h6 : 16 ≤ (kindS c 1).length := by simp at h5; show 16 ≤ (c.1).length; omega
        unfold addS; rw [if_neg (by simp [not_f h3]), if_neg (by show ¬ hasT c.1 v = true; simp [h4]), if_pos h6]
      rw [hA]
      conv => whnf
      exact .inr ⟨rfl, rfl⟩
    have hA : addS c 1 v = (putS c 1 (withS c.1 v), 0) := by
      have h6 : ¬ 16 ≤ (kindS c 1).length := by simp at h5; show ¬ 16 ≤ (c.1).length; omega
      unfold addS; rw [if_neg (by simp [not_f h3]), if_neg (by show ¬ hasT c.1 v = true; simp [h4]), if_neg h6]; rfl
    rw [hA]
    conv => whnf
    refine call1 (schema_with c.1 v (by omega)) rfl ?_
    conv => whnf
    exact .inl rfl
  · have h1 : k ≠ 1 := by simpa using h1
    conv => whnf
    refine ⟨fun h2 => ?_, fun h2 => ?_⟩
    · have h2 : k = 2 := by simpa using h2
      subst h2
      conv => whnf
      refine call1 (val_Name v) rfl ?_
      conv => whnf
      refine ⟨fun h3 => ?_, fun h3 => ?_⟩
      · have hA : addS c 2 v = (C0, 1) := if_pos (.inr (not_t h3))
        rw [hA]
        conv => whnf
        exact .inr ⟨rfl, rfl⟩
      conv => whnf
      have hK : kindS c 2 = c.2.1 := rfl
      refine call1 (slices_Contains c.2.1 v) rfl ?_
      conv => whnf
      refine ⟨fun h4 => ?_, fun h4 => ?_⟩
      · have hA : addS c 2 v = (C0, 61) := by unfold addS; rw [if_neg (by simp [not_f h3]), hK, if_pos h4]
        rw [hA]
        conv => whnf
        exact .inr ⟨rfl, rfl⟩
      conv => whnf
      intro _
      conv => whnf
      refine ⟨fun h5 => ?_, fun h5 => ?_⟩
      · have hA : addS c 2 v = (C0, 3) := by
          have h6 : 16 ≤ (kindS c 2).length := by simp at h5; show 16 ≤ (c.2.1).length; omega
          unfold addS; rw [if_neg (by simp [not_f h3]), if_neg (by show ¬ hasT c.2.1 v = true; simp [h4]), if_pos h6]
        rw [hA]
        conv => whnf
        exact .inr ⟨rfl, rfl⟩
      have hA : addS c 2 v = (putS c 2 (withS c.2.1 v), 0) := by
        have h6 : ¬ 16 ≤ (kindS c 2).length := by simp at h5; show ¬ 16 ≤ (c.2.1).length; omega
        unfold addS; rw [if_neg (by simp [not_f h3]), if_neg (by show ¬ hasT c.2.1 v = true; simp [h4]), if_neg h6]; rfl
      rw [hA]
      conv => whnf
      refine call1 (schema_with c.2.1 v (by omega)) rfl ?_
      conv => whnf
      exact .inl rfl
    · have h2 : k ≠ 2 := by simpa using h2
      have hA : addS c k v = (C0, 1) := if_pos (.inl (by omega))
      rw [hA]
      conv => whnf
      exact .inr ⟨rfl, rfl⟩

theorem schema_Drop (c : CD.T) (k : Int) (v : List UInt8) (g1 : c.1.length ≤ 1000) (g2 : c.2.1.length ≤ 1000) (g3 : c.2.2.1.length ≤ 1000) (g4 : c.2.2.2.1.length ≤ 1000) :
    FnD Try.prog 25 [.agg (cc c), .c (.int .i64 k), .c (.str v)] (· = .tup [(true, cc (dropS c k v).1), (false, [.int .i64 (dropS c k v).2])]) := by
  refine FnD.cat ?_
  refine fnI inlN Try.func25 rfl rfl rfl ?_
  conv => whnf
  refine call1 (dat_Copy c g1 g2 g3 g4) rfl ?_
  conv => whnf
  refine ⟨fun h1 => ?_, fun h1 => ?_⟩
  · have h1 : k = 1 := by simpa using h1
    subst h1
    conv => whnf
    have hK : kindS c 1 = c.1 := rfl
    refine call1 (slices_Contains c.1 v) rfl ?_
    conv => whnf
    refine ⟨fun h3 => ?_, fun h3 => ?_⟩
    · have hA : dropS c 1 v = (C0, 60) := by unfold dropS; rw [if_neg (by simp), hK, if_pos (not_t h3)]
      rw [hA]
      conv => whnf
      exact .inr ⟨rfl, rfl⟩
    conv => whnf
    refine call1 (schema_used c 1 v) rfl ?_
    conv => whnf
    refine ⟨fun h4 => ?_, fun h4 => ?_⟩
    · have hA : dropS c 1 v = (C0, 160) := by unfold dropS; rw [if_neg (by simp), hK, if_neg (by simp [not_f h3]), if_pos h4]
      rw [hA]
      conv => whnf
      exact .inr ⟨rfl, rfl⟩
    have hA : dropS c 1 v = (putS c 1 (woS c.1 v), 0) := by unfold dropS; rw [if_neg (by simp), hK, if_neg (by simp [not_f h3]), if_neg (by simp [h4])]
    rw [hA]
    conv => whnf
    refine call1 (schema_without c.1 v (by omega)) rfl ?_
    conv => whnf
    exact .inl rfl
  · have h1 : k ≠ 1 := by simpa using h1
    conv => whnf
    refine ⟨fun h2 => ?_, fun h2 => ?_⟩
    · have h2 : k = 2 := by simpa using h2
      subst h2
      conv => whnf
      have hK : kindS c 2 = c.2.1 := rfl
      refine call1 (slices_Contains c.2.1 v) rfl ?_
      conv => whnf
      refine ⟨fun h3 => ?_, fun h3 => ?_⟩
      · have hA : dropS c 2 v = (C0, 60) := by unfold dropS; rw [if_neg (by simp), hK, if_pos (not_t h3)]
        rw [hA]
        conv => whnf
        exact .inr ⟨rfl, rfl⟩
      conv => whnf
      refine call1 (schema_used c 2 v) rfl ?_
      conv => whnf
      refine ⟨fun h4 => ?_, fun h4 => ?_⟩
      · have hA : dropS c 2 v = (C0, 160) := by unfold dropS; rw [if_neg (by simp), hK, if_neg (by simp [not_f h3]), if_pos h4]
        rw [hA]
        conv => whnf
        exact .inr ⟨rfl, rfl⟩
      have hA : dropS c 2 v = (putS c 2 (woS c.2.1 v), 0) := by unfold dropS; rw [if_neg (by simp), hK, if_neg (by simp [not_f h3]), if_neg (by simp [h4])]
      rw [hA]
      conv => whnf
      refine call1 (schema_without c.2.1 v (by omega)) rfl ?_
      conv => whnf
      exact .inl rfl
    · have h2 : k ≠ 2 := by simpa using h2
      have hA : dropS c k v = (C0, 1) := if_pos (by omega)
      rw [hA]
      conv => whnf
      exact .inr ⟨rfl, rfl⟩

theorem ref14_with (c : CD.T) (k : Int) (l : List SD.T) (g1 : c.1.length ≤ 1000) (g2 : c.2.1.length ≤ 1000) (g3 : c.2.2.1.length ≤ 1000) (g4 : c.2.2.2.1.length ≤ 1000) :
    FnD Try.prog 62 [.agg (cc c), .c (.int .i64 k), .c (.dat SD l)] (· = .agg (cc (putS c k l))) := by
  refine fn0 Try.func62 rfl rfl rfl ?_
  conv => whnf
  refine call1 (keep_CopyCat c g1 g2 g3 g4) rfl ?_
  conv => whnf
  refine ⟨fun h1 => ?_, fun h1 => ?_⟩
  · have h1 : k = 1 := by simpa using h1
    have hA : putS c k l = (l, c.2) := if_pos h1
    rw [hA]
    conv => whnf
  · have h1 : k ≠ 1 := by simpa using h1
    have hA : putS c k l = (c.1, l, c.2.2) := if_neg h1
    rw [hA]
    conv => whnf
end Go.Proofs.Ythpllblcbbkfdaa
