/- The walk of the laws' wakes. Own work. -/
import Derived.Test.YtfpgjaallhpddabValDecode
import Derived.Test.YtfpgjaallhpddabValSet
import Derived.Test.YtfpgjaallhpddabValName
set_option linter.unusedVariables false
set_option maxRecDepth 100000
namespace Go.Proofs.Ytfpgjaallhpddab
open Go Go.RowKit OE

theorem val_Set (l : List PD.T) (n : List UInt8) (v : VD.T) (hl : l.length ≤ 1000) : FnD Try.prog 15 [.c (.dat PD l), .c (.str n), .agg (vc v)] (· = .c (.dat PD (setP l n v))) := (val_Set' l n v hl).nil

theorem wk1 : decV [2, 216, 4] 0 = some ((2, 300, []), 3) := by rfl
theorem wk2 : setP [([98], ((2 : Int), (300 : Int), []))] [97] ((1 : Int), (1 : Int), []) = [([97], (1, 1, [])), ([98], (2, 300, []))] := by rfl
theorem wk3 : encV ((2 : Int), (300 : Int), []) = [2, 216, 4] := by
  have e : Num.putZ 300 = [216, 4] := by
    show Num.putN 600 = _
    rw [Num.putN_ge (by decide), Num.putN_lt (by decide)]; rfl
  show kb 2 ++ Num.putZ 300 = _
  rw [e]; rfl
theorem val_wakes : FnD Try.prog 6 [] (· = .c (.bool (.sym true))) := by
  refine fn0 Try.func6 rfl rfl rfl ?_
  conv => whnf
  refine call1 (val_Decode [2, 216, 4] 0 (by decide)) rfl ?_
  conv => whnf
  rw [wk1]
  conv => whnf
  refine fzc 1 rfl ?_
  conv => whnf
  refine call1 (val_Set [([98], ((2 : Int), (300 : Int), []))] [97] (1, 1, []) (by decide)) rfl ?_
  conv => whnf
  rw [wk2]
  dsimp only [Option.getD_some, Option.isSome_some]
  conv => whnf
  refine callg0 (fun _ => val_Encode (2, 300, []) (by decide)) rfl ?_
  conv => whnf
  rw [wk3]
  intro _
  conv => whnf
  intro _
  conv => whnf
  refine ⟨fun _ => by decide, ?_⟩
  conv => whnf
  refine callg0 (fun _ => val_Name [97, 95, 49]) rfl ?_
  conv => whnf
  refine callg0 (fun _ => val_Name [49, 97]) rfl ?_
  conv => whnf
  rfl
end Go.Proofs.Ytfpgjaallhpddab
