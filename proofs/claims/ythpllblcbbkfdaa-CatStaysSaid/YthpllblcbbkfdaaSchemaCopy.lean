/- The walk of schema.Copy. Own work. -/
import Derived.Test.YthpllblcbbkfdaaSlicesClone
set_option linter.unusedVariables false
set_option maxRecDepth 100000
namespace Go.Proofs.Ythpllblcbbkfdaa
open Go Go.RowKit OE

theorem own_Copy (c : CD.T) (h1 : c.1.length ≤ 1000) (h2 : c.2.1.length ≤ 1000) (h3 : c.2.2.1.length ≤ 1000) (h4 : c.2.2.2.1.length ≤ 1000) :
    FnO Try.prog 27 [.agg (cc c)] (.agg [.row 0, .row 1, .row 2, .row 3, .int .i64 c.2.2.2.2]) [(0, .row 9 SD c.1), (1, .row 9 SD c.2.1), (2, .row 38 RD c.2.2.1), (3, .row 40 ID c.2.2.2.1)] 4 := by
  refine fnO noI Try.func27 rfl rfl rfl ?_
  conv => whnf
  refine any0 ?_
  conv => whnf
  refine callro0 (own_texts c.1 h1) rfl ?_
  conv => whnf
  refine callro0 (own_texts c.2.1 h2) rfl ?_
  conv => whnf
  refine ⟨.inl (by kernel_rfl), after0 ?_⟩
  conv => whnf
  refine any0 ?_
  conv => whnf
  refine callro0 (own_rules c.2.2.1 h3) rfl ?_
  conv => whnf
  refine callro0 (own_indexes c.2.2.2.1 h4) rfl ?_
  conv => whnf
  refine ⟨.inl (by kernel_rfl), after0 ?_⟩
  conv => whnf
  exact ⟨rfl, ⟨⟨trivial, trivial, trivial, trivial, rfl, trivial⟩, trivial⟩, trivial, rfl, rfl, rfl, rfl, trivial⟩
theorem dat_Copy (c : CD.T) (h1 : c.1.length ≤ 1000) (h2 : c.2.1.length ≤ 1000) (h3 : c.2.2.1.length ≤ 1000) (h4 : c.2.2.2.1.length ≤ 1000) :
    FnD Try.prog 27 [.agg (cc c)] (· = .agg (cc c)) := (own_Copy c h1 h2 h3 h4).dat rfl
end Go.Proofs.Ythpllblcbbkfdaa
