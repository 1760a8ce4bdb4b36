/- The walks of slices.Clone. Own work. -/
import Derived.Test.YthpllblcbbkfdaaKeepCat
set_option linter.unusedVariables false
set_option maxRecDepth 100000
namespace Go.Proofs.Ythpllblcbbkfdaa
open Go Go.RowKit OE

theorem own_texts (l : List (SD).T) (h : l.length ≤ 1000) : FnO Try.prog 65 [.c (.dat SD l)] (.c (.row 0)) [(0, .row 9 SD l)] 1 := by
  refine fnO noI Try.func65 rfl rfl rfl ?_
  conv => whnf
  refine nilq0 (nq := false) (e := 9) rfl rfl rfl rfl rfl rfl ?_ ?_
  · intro e
    subst e
    conv => whnf
    exact ⟨rfl, ⟨trivial, trivial⟩, trivial, rfl, trivial⟩
  · conv => whnf
    refine ⟨by show (0 + l.length) * 16 ≤ 140737488355328; omega, ?_⟩
    conv => whnf
    exact ⟨rfl, ⟨trivial, trivial⟩, trivial, rfl, trivial⟩
theorem dat_texts (l : List (SD).T) (h : l.length ≤ 1000) : FnD Try.prog 65 [.c (.dat SD l)] (· = .c (.dat SD l)) := (own_texts l h).dat rfl
theorem own_rules (l : List (RD).T) (h : l.length ≤ 1000) : FnO Try.prog 66 [.c (.dat RD l)] (.c (.row 0)) [(0, .row 38 RD l)] 1 := by
  refine fnO noI Try.func66 rfl rfl rfl ?_
  conv => whnf
  refine nilq0 (nq := false) (e := 38) rfl rfl rfl rfl rfl rfl ?_ ?_
  · intro e
    subst e
    conv => whnf
    exact ⟨rfl, ⟨trivial, trivial⟩, trivial, rfl, trivial⟩
  · conv => whnf
    refine ⟨by show (0 + l.length) * 96 ≤ 140737488355328; omega, ?_⟩
    conv => whnf
    exact ⟨rfl, ⟨trivial, trivial⟩, trivial, rfl, trivial⟩
theorem dat_rules (l : List (RD).T) (h : l.length ≤ 1000) : FnD Try.prog 66 [.c (.dat RD l)] (· = .c (.dat RD l)) := (own_rules l h).dat rfl
theorem own_indexes (l : List (ID).T) (h : l.length ≤ 1000) : FnO Try.prog 67 [.c (.dat ID l)] (.c (.row 0)) [(0, .row 40 ID l)] 1 := by
  refine fnO noI Try.func67 rfl rfl rfl ?_
  conv => whnf
  refine nilq0 (nq := false) (e := 40) rfl rfl rfl rfl rfl rfl ?_ ?_
  · intro e
    subst e
    conv => whnf
    exact ⟨rfl, ⟨trivial, trivial⟩, trivial, rfl, trivial⟩
  · conv => whnf
    refine ⟨by show (0 + l.length) * 32 ≤ 140737488355328; omega, ?_⟩
    conv => whnf
    exact ⟨rfl, ⟨trivial, trivial⟩, trivial, rfl, trivial⟩
theorem dat_indexes (l : List (ID).T) (h : l.length ≤ 1000) : FnD Try.prog 67 [.c (.dat ID l)] (· = .c (.dat ID l)) := (own_indexes l h).dat rfl
end Go.Proofs.Ythpllblcbbkfdaa
