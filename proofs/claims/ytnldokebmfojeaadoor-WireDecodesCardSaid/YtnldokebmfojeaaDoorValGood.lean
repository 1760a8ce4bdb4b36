/- The walks of val.Good, of the three methods behind it, and of the reference's Good and Blank. Own work. -/
import Derived.Test.YtnldokebmfojeaaDoorKeepVal
set_option linter.unusedVariables false
set_option maxRecDepth 100000
namespace Go.Proofs.YtnldokebmfojeaaDoor
open Go Go.RowKit OE

def good1 (v : VD.T) : Bool := (decide (v.2.1 = 0) || decide (v.2.1 = 1)) && decide (v.2.2 = [])
def good3 (v : VD.T) : Bool := decide (v.2.1 = 0) && decide ((v.2.2.length : Int) ≤ 1024)
def goodV (v : VD.T) : Bool := if v.1 = 1 then good1 v else if v.1 = 2 then decide (v.2.2 = []) else if v.1 = 3 then good3 v else false
def blankV (v : VD.T) : Bool := decide (v.1 = 0) && decide (v.2.1 = 0) && decide (v.2.2 = [])

theorem own_bool (v : VD.T) : FnD Tryd.prog 83 [.agg (vc v)] (· = .c (.bool (.sym (good1 v)))) := by
  refine fn0 Tryd.func83 rfl rfl rfl ?_
  conv => whnf
  rfl
theorem own_int (v : VD.T) : FnD Tryd.prog 84 [.agg (vc v)] (· = .c (.bool (.sym (decide (v.2.2 = []))))) := by
  refine fn0 Tryd.func84 rfl rfl rfl ?_
  conv => whnf
theorem own_text (v : VD.T) : FnD Tryd.prog 85 [.agg (vc v)] (· = .c (.bool (.sym (good3 v)))) := by
  refine fn0 Tryd.func85 rfl rfl rfl ?_
  conv => whnf
  rfl

theorem val_Good (v : VD.T) (hk : (Lit.int .i64 v.1).wf = true) : FnD Tryd.prog 81 [.agg (vc v)] (· = .c (.bool (.sym (goodV v)))) := by
  refine fn0 Tryd.func81 rfl rfl rfl ?_
  conv => whnf
  refine ⟨by decide, ?_⟩
  conv => whnf
  refine ⟨by decide, ?_⟩
  conv => whnf
  refine ⟨by decide, ?_⟩
  conv => whnf
  refine ⟨hk, ⟨fun h1 => ?_, fun h1 => ⟨fun h2 => ?_, fun h2 => ⟨fun h3 => ?_, fun h3 => ?_⟩⟩⟩⟩
  · conv => whnf
    refine call1 (own_bool v) rfl ?_
    conv => whnf
    simp at h1; simp [goodV, h1]
  · conv => whnf
    refine call1 (own_int v) rfl ?_
    conv => whnf
    simp at h1 h2; simp [goodV, h2]
  · conv => whnf
    refine call1 (own_text v) rfl ?_
    conv => whnf
    simp at h1 h2 h3; simp [goodV, h3]
  · conv => whnf
    simp at h1 h2 h3; simp [goodV, h1, h2, h3]

theorem ref_Good (v : VD.T) : FnD Tryd.prog 37 [.agg (vc v)] (· = .c (.bool (.sym (goodV v)))) := by
  refine fn0 Tryd.func37 rfl rfl rfl ?_
  conv => whnf
  refine ⟨fun h1 => ?_, fun h1 => ?_⟩
  · conv => whnf
    simp at h1; simp [goodV, good1, h1]
  conv => whnf
  refine ⟨fun h2 => ?_, fun h2 => ?_⟩
  · conv => whnf
    simp at h1 h2; simp [goodV, h2]
  conv => whnf
  refine ⟨fun h3 => ?_, fun h3 => ?_⟩
  · conv => whnf
    simp at h1 h2 h3; simp [goodV, good3, h3]
  · conv => whnf
    simp at h1 h2 h3; simp [goodV, h1, h2, h3]
theorem ref_Blank (v : VD.T) : FnD Tryd.prog 55 [.agg (vc v)] (· = .c (.bool (.sym (blankV v)))) := by
  refine fn0 Tryd.func55 rfl rfl rfl ?_
  conv => whnf
  rfl
end Go.Proofs.YtnldokebmfojeaaDoor
