/- The walks of the laws SchemaTells and SchemaTurns. Own work. -/
import Derived.Test.YthpllblcbbkfdaaSchemaRef
set_option linter.unusedVariables false
set_option maxRecDepth 100000
namespace Go.Proofs.Ythpllblcbbkfdaa
open Go Go.RowKit OE

theorem wkA : addS C0 1 [99, 105, 116, 121] = (([[99, 105, 116, 121]], [], [], [], 0), 0) := by rfl
theorem wkD : dropS ([[99, 105, 116, 121]], [], [], [], 0) 1 [99, 105, 116, 121] = (([], [], [], [], 0), 0) := by rfl
theorem zero_cat {w : World} {ok : Nat → Prop} {v : Value} (h : RS (DX w ok) (.agg cn) v) : RS (DX w ok) (.agg (cc C0)) v := by
  obtain ⟨vs, e, hl⟩ := h
  refine ⟨vs, e, ?_⟩
  generalize vs.toList = n at hl
  match n, hl with
  | [a, b, c, d, e], ⟨h1, h2, h3, h4, h5, _⟩ => exact ⟨nilC h1, nilC h2, nilC h3, nilC h4, h5, trivial⟩
theorem schema_wakes : FnD Try.prog 16 [] (· = .c (.bool (.sym true))) := by
  refine fn0 Try.func16 rfl rfl rfl ?_
  conv => whnf
  refine call1 ((schema_Add C0 1 [99, 105, 116, 121] (by decide) (by decide) (by decide) (by decide)).args fun w ok => ⟨fun _ h => zero_cat h, sameA, sameA, trivial⟩) rfl ?_
  conv => whnf
  rw [wkA]
  conv => whnf
  refine call1 (schema_Drop ([[99, 105, 116, 121]], [], [], [], 0) 1 [99, 105, 116, 121] (by decide) (by decide) (by decide) (by decide)) rfl ?_
  conv => whnf
  rw [wkD]
  conv => whnf
  refine callg0 (fun _ => schema_Has ([[99, 105, 116, 121]], [], [], [], 0) 1 [99, 105, 116, 121]) rfl ?_
  conv => whnf
  refine callg0 (fun _ => schema_Has ([[99, 105, 116, 121]], [], [], [], 0) 2 [99, 105, 116, 121]) rfl ?_
  conv => whnf
  intro _
  conv => whnf
  refine callg0 (fun _ => schema_Types ([[99, 105, 116, 121]], [], [], [], 0)) rfl ?_
  conv => whnf
  rfl

theorem eqC_self (c : CD.T) : CD.eqb c c = true := (D.eqb_iff CD c c).2 rfl
theorem row_SchemaTells (c : CD.T) (hc : Wf CD c) (k : Int) (wk : (Lit.int .i64 k).wf = true) (v : List UInt8) (hv : v.length ≤ 140737488351232) :
    FnD Try.prog 3 [.agg (cc c), .c (.int .i64 k), .c (.str v)] (· = .c (.bool (.sym true))) := by
  refine fn0 Try.func3 rfl rfl rfl ?_
  conv => whnf
  refine call1 (keep_LargeCat c) rfl ?_
  conv => whnf
  refine ⟨fun h1 => ?_, fun h1 => ?_⟩
  · conv => whnf
    refine call1 (schema_wakes) rfl ?_
    conv => whnf
  rw [Bool.or_eq_false_iff] at h1
  obtain ⟨s1, s2, s3, s4⟩ := small_cat h1.1
  conv => whnf
  refine call1 (keep_CopyCat c s1 s2 s3 s4) rfl ?_
  conv => whnf
  refine any0 ?_
  conv => whnf
  refine callr0 (schema_Types c) rfl ?_
  conv => whnf
  refine callr0 (ref14_Types c) rfl ?_
  conv => whnf
  refine callrg0 (fun _ => schema_Has c k v) rfl ?_
  conv => whnf
  refine callrg0 (fun _ => ref_Has c k v) rfl ?_
  conv => whnf
  refine callrg0 (fun _ => keep_Cats c c) rfl ?_
  conv => whnf
  refine callrg0 (fun _ => schema_wakes) rfl ?_
  conv => whnf
  refine ⟨.inl (by kernel_rfl), after0 ?_⟩
  conv => whnf
  rw [eqC_self]
  simp

theorem row_SchemaTurns (c : CD.T) (hc : Wf CD c) (k : Int) (wk : (Lit.int .i64 k).wf = true) (v : List UInt8) (hv : v.length ≤ 140737488351232) :
    FnD Try.prog 4 [.agg (cc c), .c (.int .i64 k), .c (.str v)] (· = .c (.bool (.sym true))) := by
  refine fn0 Try.func4 rfl rfl rfl ?_
  conv => whnf
  refine call1 (keep_LargeCat c) rfl ?_
  conv => whnf
  refine ⟨fun h1 => ?_, fun h1 => ?_⟩
  · conv => whnf
    refine call1 (schema_wakes) rfl ?_
    conv => whnf
  rw [Bool.or_eq_false_iff] at h1
  obtain ⟨s1, s2, s3, s4⟩ := small_cat h1.1
  conv => whnf
  refine call1 (keep_CopyCat c s1 s2 s3 s4) rfl ?_
  conv => whnf
  refine call1 (schema_Add c k v s1 s2 s3 s4) rfl ?_
  conv => whnf
  refine call1 (ref14_Add c k v s1 s2 s3 s4) rfl ?_
  conv => whnf
  refine call1 (schema_Drop c k v s1 s2 s3 s4) rfl ?_
  conv => whnf
  refine call1 (ref14_Drop c k v s1 s2 s3 s4) rfl ?_
  conv => whnf
  refine call1 (keep_Cats (addS c k v).1 (addS c k v).1) rfl ?_
  conv => whnf
  refine callg0 (fun _ => keep_Cats (dropS c k v).1 (dropS c k v).1) rfl ?_
  conv => whnf
  refine callg0 (fun _ => keep_Cats c c) rfl ?_
  conv => whnf
  refine callg0 (fun _ => schema_wakes) rfl ?_
  conv => whnf
  rw [eqC_self, eqC_self, eqC_self]
  simp
end Go.Proofs.Ythpllblcbbkfdaa
