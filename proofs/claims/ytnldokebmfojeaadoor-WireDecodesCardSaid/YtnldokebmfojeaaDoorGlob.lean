/- The package's variables that hold texts: what the row's condition gives a walk; a world that meets it. Own work. -/
import Derived.Test.YtnldokebmfojeaaDoorRows
import Derived.Test.YtnldokebmfojeaaDoorTab
import Derived.WalkKit
import Derived.ProofKit
import Derived.OpenShut
import Derived.ShutString
import Derived.ChangeOld
import Derived.Below
import Derived.SizedLaws
import Derived.ChangeArms
import Derived.ChangeSame
import Derived.ChangeVars
import Derived.JoinedOf
import Derived.LaidLaws
import Derived.LaidHandle
import Derived.LaidSub
import Derived.Handed
import Derived.KernelRfl
set_option linter.unusedVariables false
namespace Go.Proofs.YtnldokebmfojeaaDoor
open Go Go.ChangeShapes Go.RowKit OE

theorem trod_texts {H : Type} {enc : TypeId × Value → H} {P : Program} {w : World} {base : Nat} {spare : Nat → Bool} {held : Bool} {fuel n : Nat} {t e : TypeId} {cs : List Value} {l : List (List UInt8)} {p : List MemPlace}
    (ht : P.underlying t = some (.array n e)) (he : P.underlying e = some .string) (hc : P.cellsOf e = 1) (hn : P.cellsOf t = n)
    (h : DataW.trod enc P w base spare held fuel t cs = some (.agg (l.map fun s => .lit (.string s)), p)) : cs = glC l := by
  obtain ⟨xs, m, _, hx, hl, hn2, hel⟩ := DataW.trod_array ht h
  simp only [Prod.mk.injEq, DataW.agg.injEq] at hx
  obtain ⟨hx, _⟩ := hx
  have hlen : l.length = n := by
    have := congrArg List.length hx
    simp only [List.length_map] at this
    omega
  apply List.ext_getElem?
  intro i
  rcases Nat.lt_or_ge i n with hi | hi
  · have h1 := hel i hi
    rw [hc, Nat.mul_one, List.getElem?_eq_getElem (by omega)] at h1
    obtain ⟨s, h2, h3, _⟩ := DataW.trod_string he h1
    have h4 : cs[i]? = some (.string s) := by
      have := congrArg (fun l : List Value => l[0]?) h2
      simpa [List.getElem?_take, List.getElem?_drop] using this
    have h5 : (xs.map (·.1))[i]? = some (.lit (.string s.data.toList)) := by
      rw [List.getElem?_map, List.getElem?_eq_getElem (by omega), h3]; rfl
    rw [← hx, List.getElem?_map, List.getElem?_eq_getElem (by omega)] at h5
    simp only [Option.map_some, Option.some.injEq, DataW.lit.injEq, Lit.string.injEq] at h5
    unfold glC
    rw [h4, List.getElem?_map, List.getElem?_eq_getElem (by omega), h5]
    rfl
  · rw [List.getElem?_eq_none (by omega), List.getElem?_eq_none (by unfold glC; rw [List.length_map]; omega)]
theorem var_heap {P : Program} {w : World} {n : String} {g : Nat} {cs : Array Value} (hg : P.globalNamed n = some g) (h : w.var? P n = some cs) : ∃ T fz, w.heap[g]? = some (.cells cs T fz) := by
  unfold World.var? at h
  rw [hg] at h
  simp only [Option.bind_some] at h
  split at h
  · rename_i cs' T fz hh
    cases h
    exact ⟨T, fz, hh⟩
  · cases h
abbrev laidL : List (String × DataW Unit) := [("hedgerow/wire.fieldsOf", Rows.laid_hedgerow_wire_fieldsOf), ("hedgerow/wire.opsOf", Rows.laid_hedgerow_wire_opsOf)]
theorem plainL (w : World) : laidMetH Tryd.prog laidL w = laidMet Tryd.prog laidL w := rfl
/-- what the condition gives a walk -/
theorem glo_of {W : World} (h : laidMetH Tryd.prog laidL W) : OkW W (fun k => k < W.heap.size) := by
  rw [plainL] at h
  obtain ⟨ps, ⟨g, t, cs, fuel, p, q, a1, a2, a3, a4, ⟨g', t', cs', fuel', p', q', b1, b2, b3, b4, _⟩, _⟩, _⟩ := h
  obtain rfl : g = 0 := Option.some.inj (a1.symm.trans (show Tryd.prog.globalNamed "hedgerow/wire.fieldsOf" = some 0 by kernel_rfl))
  obtain rfl : g' = 1 := Option.some.inj (b1.symm.trans (show Tryd.prog.globalNamed "hedgerow/wire.opsOf" = some 1 by kernel_rfl))
  obtain rfl : t = 87 := Option.some.inj (a2.symm.trans (show (Tryd.prog.globals[0]?).map (·.type) = some 87 by kernel_rfl))
  obtain rfl : t' = 135 := Option.some.inj (b2.symm.trans (show (Tryd.prog.globals[1]?).map (·.type) = some 135 by kernel_rfl))
  obtain ⟨T, fz, hh⟩ := var_heap a1 a3
  obtain ⟨T', fz', hh'⟩ := var_heap b1 b3
  have e1 := trod_texts (l := [[], [], [], [], [110], [110], [111], [105], [105], [105, 101], [105, 101], [116], [116, 110, 118], [116, 110, 119, 120], [116, 107], [116, 107], [114], [109], [116, 110], [116, 110], []]) Tryd.underlying87 Tryd.underlying9 (show Tryd.prog.cellsOf 9 = 1 by kernel_rfl) (show Tryd.prog.cellsOf 87 = 21 by kernel_rfl) a4
  have e2 := trod_texts (l := [[], [116], [105, 99], [116, 97, 98], [105], [105, 110, 119]]) Tryd.underlying135 Tryd.underlying9 (show Tryd.prog.cellsOf 9 = 1 by kernel_rfl) (show Tryd.prog.cellsOf 135 = 6 by kernel_rfl) b4
  refine ⟨fun _ h => h, fun g l hg => ?_⟩
  unfold glS at hg
  split at hg
  · cases hg
    have : 0 < W.heap.size := (Array.getElem?_eq_some_iff.1 hh).1
    exact ⟨⟨this, id⟩, this, cs, T, fz, hh, e1⟩
  · cases hg
    have : 1 < W.heap.size := (Array.getElem?_eq_some_iff.1 hh').1
    exact ⟨⟨this, id⟩, this, cs', T', fz', hh', e2⟩
  · cases hg
/-- a world that meets the condition -/
noncomputable def laidWorld (os : Os) : World :=
  let w0 := World.holding Tryd.prog os ⟨#[], #[], []⟩
  { w0 with heap := (w0.heap.modify 0 fun
      | .cells _ t frozen => .cells (glC ((glS 0).getD [])).toArray t frozen
      | o => o).modify 1 fun
      | .cells _ t frozen => .cells (glC ((glS 1).getD [])).toArray t frozen
      | o => o }
theorem laidWorld_met (os : Os) (args : Array Value) : laidMetH Tryd.prog laidL ((laidWorld os).forCall (fun _ _ => 0) ⟨#[], args, []⟩).memory := by
  rw [plainL]
  exact laidMet_of_run' 50 (by kernel_rfl) (by kernel_rfl)
end Go.Proofs.YtnldokebmfojeaaDoor
