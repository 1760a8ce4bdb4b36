/- The walks of all, change, of changes. Own work. -/
import Derived.Test.YtnldokebmfojeaaDoorWirePut
set_option linter.unusedVariables false
set_option maxRecDepth 100000
namespace Go.Proofs.YtnldokebmfojeaaDoor
open Go Go.RowKit OE

/-- a kind's byte and its fields -/
def allS (P : Int → List UInt8 × Bool) (k : Int) (l : List UInt8) : List UInt8 × Bool :=
  if (l.all fun f => (P f.toNat).2) = true then (byl [k] ++ l.flatMap (fun f => (P f.toNat).1), true) else ([], false)
theorem flat_len {P : Int → List UInt8 × Bool} {B : Nat} (h : ∀ f, (P f).1.length ≤ B) : ∀ l : List UInt8, (l.flatMap fun f => (P f.toNat).1).length ≤ l.length * B
  | [] => by simp
  | f :: l => by
    have ih := flat_len h l
    have h1 := h f.toNat
    simp only [List.flatMap_cons, List.length_append, List.length_cons, Nat.add_mul, Nat.one_mul]
    omega
theorem wire_allO (o : OD.T) (k : Int) (l : List UInt8) (hl : l.length ≤ 100) (hf : ∀ f ∈ l, fO f.toNat) (hb : ∀ f, (putO o f).1.length ≤ 1000000) (h1 : o.2.2.1.length ≤ 140737488355327) (h2 : o.2.2.2.2.2.1.length ≤ 140737488355327) (h3 : Wf VD (oV o)) :
    FnP Tryd.prog 52 [.c (.int .u8 k), .c (.str l), .agg (plO 0 0)] (obO o) 1 kp0 (paR (allS (putO o) k l)) (obO o) 1 := by
  refine fnP noI Tryd.func52 rfl rfl rfl rfl ?_
  conv => whnf
  refine loop0 (α := Nat) (fun j => j ≤ l.length ∧ ((l.take j).all fun f => (putO o f.toNat).2) = true)
    (fun j => ⟨[(1, .c (.str l)), (5, .c (.ptr 1 0)), (8, .c (.str (byl [k] ++ (l.take j).flatMap fun f => (putO o f.toNat).1))), (16, .c (.int .i64 l.length)), (17, .c (.int .i64 j))], (1, .cells 96 (plO 0 0)) :: obO o, 2⟩) (fun j => l.length - j) ⟨0, ⟨by omega, rfl⟩, ?_⟩ ?_
  · (conv => whnf); refine ⟨rfl, ?_, ?_, ?_⟩ <;> (repeat' apply And.intro) <;> first | exact trivial | rfl | exact wr_succ _ (by omega) | assumption | exact decide_eq_false (by assumption) | exact decide_eq_true (by assumption)
  rintro j ⟨hJ1, hJ2⟩
  conv => whnf
  refine ⟨fun h4 => ?_, fun h4 => ?_⟩
  · have h4 : j < l.length := by simp at h4; omega
    conv => whnf
    refine any0 ?_
    conv => whnf
    refine ⟨by omega, ?_⟩
    conv => whnf
    rw [bt_nat l j h4]
    refine callrp0 [0] rfl rfl rfl (wire_putO o l[j].toNat (hf _ (List.getElem_mem h4)) h1 h2 h3) rfl rfl rfl rfl rfl rfl [0] rfl rfl ?_
    conv => whnf
    refine ⟨.inl (by kernel_rfl), after0 ?_⟩
    conv => whnf
    refine ⟨fun h5 => ?_, fun h5 => ?_⟩
    · have h5 : (putO o l[j].toNat).2 = false := by simpa using h5
      have hA : allS (putO o) k l = ([], false) := if_neg fun h => by
        have := List.all_eq_true.1 h _ (List.getElem_mem h4)
        rw [h5] at this; cases this
      rw [hA]
      conv => whnf
      refine ⟨rfl, ?_, ?_, ?_⟩ <;> (repeat' apply And.intro) <;> first | exact trivial | rfl | assumption
    have h5 : (putO o l[j].toNat).2 = true := by simpa using h5
    have hT : l.take (j + 1) = l.take j ++ [l[j]] := take_step h4
    conv => whnf
    refine ⟨by
      have e1 := flat_len hb (l.take j)
      have e2 := hb l[j].toNat
      have e3 : (l.take j).length * 1000000 ≤ 100 * 1000000 := Nat.mul_le_mul_right _ (by rw [List.length_take]; omega)
      have e4 : (byl [k]).length = 1 := rfl
      rw [List.length_append, e4]
      omega, ?_⟩
    conv => whnf
    refine ⟨j + 1, ⟨⟨by omega, ?_⟩, by omega⟩, ?_⟩
    · rw [hT, List.all_append, hJ2]; simpa using h5
    rw [hT, List.flatMap_append, ← List.append_assoc, show List.flatMap (fun f => (putO o f.toNat).1) [l[j]] = (putO o l[j].toNat).1 from by simp]
    (conv => whnf); refine ⟨rfl, ?_, ?_, ?_⟩ <;> (repeat' apply And.intro) <;> first | exact trivial | rfl | exact wr_succ _ (by omega) | assumption | exact decide_eq_false (by assumption) | exact decide_eq_true (by assumption)
  · have h4 : l.length ≤ j := by simp at h4; omega
    rw [List.take_of_length_le h4] at hJ2 ⊢
    have hA : allS (putO o) k l = (byl [k] ++ l.flatMap (fun f => (putO o f.toNat).1), true) := if_pos hJ2
    rw [hA]
    conv => whnf
    refine ⟨rfl, ?_, ?_, ?_⟩ <;> (repeat' apply And.intro) <;> first | exact trivial | rfl | assumption
end Go.Proofs.YtnldokebmfojeaaDoor
