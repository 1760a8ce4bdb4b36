/- Lists with one element put in, as slices.Insert leaves them; no program in sight. Own work. -/
import Derived.Test.YthpllblcbbkfdaaTab
set_option linter.unusedVariables false
set_option maxRecDepth 100000
namespace Go.Proofs.Ythpllblcbbkfdaa
open Go Go.RowKit OE

theorem growL {α : Type} (X Y : List α) (x z : α) (j : Nat) (hj : j < X.length) (hY : X.take j ++ List.replicate (X.length + 1 - j) z = Y) :
    List.take Y.length (List.drop 0 (List.take (0 + (j + 1)) (List.take (0 + j) Y ++ List.take (Y.length - j) [x] ++ List.drop (0 + j + min 1 (Y.length - j)) Y) ++ List.take (min (X.length - j) (Y.length - (j + 1))) (List.drop (0 + j) X) ++ List.drop (0 + (j + 1) + min (X.length - j) (Y.length - (j + 1))) (List.take (0 + j) Y ++ List.take (Y.length - j) [x] ++ List.drop (0 + j + min 1 (Y.length - j)) Y))) = X.take j ++ [x] ++ X.drop j := by
  have hYl : Y.length = X.length + 1 := by
    rw [← hY]; simp only [List.length_append, List.length_take, List.length_replicate]; omega
  have h1 : List.take j Y = X.take j := by
    rw [← hY, List.take_append_of_le_length (by rw [List.length_take]; omega), List.take_take, Nat.min_self]
  have m1 : min 1 (Y.length - j) = 1 := by omega
  have m2 : min (X.length - j) (Y.length - (j + 1)) = X.length - j := by omega
  rw [m1, m2, Nat.zero_add, Nat.zero_add, List.drop_zero, h1, List.take_of_length_le (l := [x]) (by rw [List.length_singleton]; omega)]
  have h2 : List.take (j + 1) (X.take j ++ [x] ++ Y.drop (j + 1)) = X.take j ++ [x] := by
    rw [List.take_append_of_le_length (by simp only [List.length_append, List.length_take, List.length_singleton]; omega)]
    exact List.take_of_length_le (by simp only [List.length_append, List.length_take, List.length_singleton]; omega)
  have h3 : List.drop (j + 1 + (X.length - j)) (X.take j ++ [x] ++ Y.drop (j + 1)) = [] :=
    List.drop_of_length_le (by simp only [List.length_append, List.length_take, List.length_drop, List.length_singleton]; omega)
  rw [h2, h3, List.take_of_length_le (l := X.drop j) (by rw [List.length_drop]; omega), List.append_nil]
  exact List.take_of_length_le (by simp only [List.length_append, List.length_take, List.length_drop, List.length_singleton]; omega)

theorem shiftL {α : Type} (X : List α) (x : α) (j : Nat) (hj : j < X.length) :
    List.take (X.length + 1 - 0) (List.drop (0 + 0) (List.take (0 + 0 + j) (List.take (0 + 0 + (j + 1)) X ++ List.take (min (X.length + 1 - 0 - j) (X.length + 1 - 0 - (j + 1))) (List.drop (0 + 0 + j) X) ++ List.drop (0 + 0 + (j + 1) + min (X.length + 1 - 0 - j) (X.length + 1 - 0 - (j + 1))) X) ++ List.take (X.length + 1 - 0 - j) [x] ++ List.drop (0 + 0 + j + min 1 (X.length + 1 - 0 - j)) (List.take (0 + 0 + (j + 1)) X ++ List.take (min (X.length + 1 - 0 - j) (X.length + 1 - 0 - (j + 1))) (List.drop (0 + 0 + j) X) ++ List.drop (0 + 0 + (j + 1) + min (X.length + 1 - 0 - j) (X.length + 1 - 0 - (j + 1))) X))) = X.take j ++ [x] ++ X.drop j := by
  have m1 : min (X.length + 1 - 0 - j) (X.length + 1 - 0 - (j + 1)) = X.length - j := by omega
  have m2 : min 1 (X.length + 1 - 0 - j) = 1 := by omega
  rw [m1, m2]
  simp only [Nat.zero_add, List.drop_zero, Nat.sub_zero]
  have h1 : List.drop (j + 1 + (X.length - j)) X = [] := List.drop_of_length_le (by omega)
  have h2 : List.take (X.length - j) (List.drop j X) = X.drop j := List.take_of_length_le (by rw [List.length_drop]; omega)
  have h3 : List.take j (List.take (j + 1) X ++ X.drop j) = X.take j := by
    rw [List.take_append_of_le_length (by rw [List.length_take]; omega), List.take_take, Nat.min_eq_left (by omega)]
  have h4 : List.drop (j + 1) (List.take (j + 1) X ++ X.drop j) = X.drop j := by
    rw [List.drop_append_of_le_length (by rw [List.length_take]; omega), List.drop_of_length_le (by rw [List.length_take]; omega), List.nil_append]
  rw [h1, h2, List.append_nil, h3, h4, List.take_of_length_le (l := [x]) (by rw [List.length_singleton]; omega)]
  exact List.take_of_length_le (by simp only [List.length_append, List.length_take, List.length_drop, List.length_singleton]; omega)

end Go.Proofs.Ythpllblcbbkfdaa
