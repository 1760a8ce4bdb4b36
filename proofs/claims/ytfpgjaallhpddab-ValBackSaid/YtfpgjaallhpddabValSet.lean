/- The walk of val.Set. Own work. -/
import Derived.Test.YtfpgjaallhpddabKeepVal
set_option linter.unusedVariables false
set_option maxRecDepth 100000
namespace Go.Proofs.Ytfpgjaallhpddab
open Go Go.RowKit OE

noncomputable def inlS : Nat → Option (FI × Code) := lk [
  (25, fiOf Try.f25, bodyOf Try.f25),
  (26, fiOf Try.f26, bodyOf Try.f26),
  (27, fiOf Try.f27, bodyOf Try.f27)]
instance : InlOk inlS := inl_cons Try.func25 rfl rfl <| inl_cons Try.func26 rfl rfl <| inl_cons Try.func27 rfl rfl inl_nil

/-- without a name; where a name belongs; with it -/
def outP (l : List PD.T) (n : List UInt8) : List PD.T := l.filter fun p => !decide (p.1 = n)
def geP (n : List UInt8) (p : PD.T) : Bool := !Op.bytesLess p.1 n
def idxP (l : List PD.T) (n : List UInt8) : Nat := l.findIdx (geP n)
def setP (l : List PD.T) (n : List UInt8) (v : VD.T) : List PD.T :=
  if v.1 = 0 then outP l n else (outP l n).take (idxP (outP l n) n) ++ [(n, v)] ++ (outP l n).drop (idxP (outP l n) n)

def setSt (l : List PD.T) (n : List UInt8) (v : VD.T) (i : Nat) : List PD.T → St
  | [] => ⟨[(4, .c (.ptr 0 0)), (5, .c (.ptr 1 0)), (7, .c (.val (.slice none 0 0))), (11, .c (.dat PD l)), (12, .c (.int .i64 l.length)), (13, .c (.int .i64 i))], [(0, .cells 9 [.str n]), (1, .cells 23 (vc v))], 2⟩
  | x :: xs => ⟨[(4, .c (.ptr 0 0)), (5, .c (.ptr 1 0)), (7, .c (.row 2)), (11, .c (.dat PD l)), (12, .c (.int .i64 l.length)), (13, .c (.int .i64 i))], [(0, .cells 9 [.str n]), (1, .cells 23 (vc v)), (2, .row 41 PD (x :: xs))], 3⟩

theorem grow_list (X Y : List PD.T) (x z : PD.T) (j : Nat) (hj : j < X.length) (hY : X.take j ++ List.replicate (X.length + 1 - j) z = Y) :
    List.take Y.length (List.drop 0 (List.take (0 + (j + 1)) (List.take (0 + j) Y ++ List.take (Y.length - j) [x] ++ List.drop (0 + j + min 1 (Y.length - j)) Y) ++ List.take (min (X.length - j) (Y.length - (j + 1))) (List.drop (0 + j) X) ++ List.drop (0 + (j + 1) + min (X.length - j) (Y.length - (j + 1))) (List.take (0 + j) Y ++ List.take (Y.length - j) [x] ++ List.drop (0 + j + min 1 (Y.length - j)) Y))) = X.take j ++ [x] ++ X.drop j := by
  have hYl : Y.length = X.length + 1 := by
    rw [← hY]; simp only [List.length_append, List.length_take, List.length_replicate]; omega
  have h1 : List.take j Y = X.take j := by
    rw [← hY, List.take_append_of_le_length (by rw [List.length_take]; omega), List.take_take, Nat.min_self]
  have m1 : min 1 (Y.length - j) = 1 := by omega
  have m2 : min (X.length - j) (Y.length - (j + 1)) = X.length - j := by omega
  rw [m1, m2, Nat.zero_add, Nat.zero_add, List.drop_zero, h1, List.take_of_length_le (l := [x]) (by rw [List.length_singleton]; omega)]
  have h2 : List.take (j + 1) (X.take j ++ [x] ++ Y.drop (j + 1)) = X.take j ++ [x] := by
    rw [List.take_append_of_le_length (by simp only [List.length_append, List.length_take, List.length_singleton]; omega)]
    exact List.take_of_length_le (by simp only [List.length_append, List.length_take, List.length_singleton]; omega)
  have h3 : List.drop (j + 1 + (X.length - j)) (X.take j ++ [x] ++ Y.drop (j + 1)) = [] :=
    List.drop_of_length_le (by simp only [List.length_append, List.length_take, List.length_drop, List.length_singleton]; omega)
  rw [h2, h3, List.take_of_length_le (l := X.drop j) (by rw [List.length_drop]; omega), List.append_nil]
  exact List.take_of_length_le (by simp only [List.length_append, List.length_take, List.length_drop, List.length_singleton]; omega)

theorem shift_list (X : List PD.T) (x : PD.T) (j : Nat) (hj : j < X.length) :
    List.take (X.length + 1 - 0) (List.drop (0 + 0) (List.take (0 + 0 + j) (List.take (0 + 0 + (j + 1)) X ++ List.take (min (X.length + 1 - 0 - j) (X.length + 1 - 0 - (j + 1))) (List.drop (0 + 0 + j) X) ++ List.drop (0 + 0 + (j + 1) + min (X.length + 1 - 0 - j) (X.length + 1 - 0 - (j + 1))) X) ++ List.take (X.length + 1 - 0 - j) [x] ++ List.drop (0 + 0 + j + min 1 (X.length + 1 - 0 - j)) (List.take (0 + 0 + (j + 1)) X ++ List.take (min (X.length + 1 - 0 - j) (X.length + 1 - 0 - (j + 1))) (List.drop (0 + 0 + j) X) ++ List.drop (0 + 0 + (j + 1) + min (X.length + 1 - 0 - j) (X.length + 1 - 0 - (j + 1))) X))) = X.take j ++ [x] ++ X.drop j := by
  have m1 : min (X.length + 1 - 0 - j) (X.length + 1 - 0 - (j + 1)) = X.length - j := by omega
  have m2 : min 1 (X.length + 1 - 0 - j) = 1 := by omega
  rw [m1, m2]
  simp only [Nat.zero_add, List.drop_zero, Nat.sub_zero]
  have h1 : List.drop (j + 1 + (X.length - j)) X = [] := List.drop_of_length_le (by omega)
  have h2 : List.take (X.length - j) (List.drop j X) = X.drop j := List.take_of_length_le (by rw [List.length_drop]; omega)
  have h3 : List.take j (List.take (j + 1) X ++ X.drop j) = X.take j := by
    rw [List.take_append_of_le_length (by rw [List.length_take]; omega), List.take_take, Nat.min_eq_left (by omega)]
  have h4 : List.drop (j + 1) (List.take (j + 1) X ++ X.drop j) = X.drop j := by
    rw [List.drop_append_of_le_length (by rw [List.length_take]; omega), List.drop_of_length_le (by rw [List.length_take]; omega), List.nil_append]
  rw [h1, h2, List.append_nil, h3, h4, List.take_of_length_le (l := [x]) (by rw [List.length_singleton]; omega)]
  exact List.take_of_length_le (by simp only [List.length_append, List.length_take, List.length_drop, List.length_singleton]; omega)

theorem val_Set' (l : List PD.T) (n : List UInt8) (v : VD.T) (hl : l.length ≤ 1000) : FnD Try.prog 15 [.c (.dat PD l), .c (.str n), .agg (vc v)] (nilOr PD (setP l n v)) := by
  refine fnI inlS Try.func15 rfl rfl rfl ?_
  conv => whnf
  intro _
  conv => whnf
  refine loop0 (α := Nat) (fun i => i ≤ l.length) (fun i => setSt l n v i (outP (l.take i) n)) (fun i => l.length - i) ⟨0, by omega, ?_⟩ ?_
  · (conv => whnf); refine ⟨rfl, ?_, ?_, ?_⟩ <;> (repeat' apply And.intro) <;> first | exact trivial | rfl | exact wr_succ _ (by omega) | assumption | exact decide_eq_false (by assumption) | exact decide_eq_true (by assumption)
  intro i hI
  have hlen : (outP (l.take i) n).length ≤ 1000 := Nat.le_trans (List.length_filter_le _ _) (by rw [List.length_take]; omega)
  have hstep : ∀ h : i < l.length, outP (l.take (i + 1)) n = outP (l.take i) n ++ (if (!decide (l[i].1 = n)) = true then [l[i]] else []) := fun h => filter_step h
  have hend : l.length ≤ i → outP l n = outP (l.take i) n := fun h => by rw [List.take_of_length_le h]
  generalize outP (l.take i) n = ys at hlen hstep hend
  cases ys with
  | nil =>
    conv => whnf
    refine ⟨fun h2 => ?_, fun h2 => ?_⟩
    · have h2 : i < l.length := by simp at h2; omega
      have hstep := hstep h2
      conv => whnf
      try (intro _; conv => whnf)
      refine ⟨by omega, ?_⟩
      rw [gt_nat (d := PD) l i h2]
      conv => whnf
      refine ⟨fun h3 => ?_, fun h3 => ?_⟩
      · rw [h3] at hstep
        conv => whnf
        refine ⟨by show 1 * 48 ≤ 140737488355328; omega, ?_⟩
        conv => whnf
        refine ⟨i + 1, ⟨by omega, by omega⟩, ?_⟩
        rw [hstep]
        (conv => whnf); refine ⟨rfl, ?_, ?_, ?_⟩ <;> (repeat' apply And.intro) <;> first | exact trivial | rfl | exact wr_succ _ (by omega) | assumption | exact decide_eq_false (by assumption) | exact decide_eq_true (by assumption)
      · rw [h3] at hstep
        conv => whnf
        refine ⟨i + 1, ⟨by omega, by omega⟩, ?_⟩
        rw [hstep, if_neg (by simp), List.append_nil]
        (conv => whnf); refine ⟨rfl, ?_, ?_, ?_⟩ <;> (repeat' apply And.intro) <;> first | exact trivial | rfl | exact wr_succ _ (by omega) | assumption | exact decide_eq_false (by assumption) | exact decide_eq_true (by assumption)
    · have hend := hend (by simp at h2; omega)
      conv => whnf
      refine ⟨fun h4 => ?_, fun h4 => ?_⟩
      · conv => whnf
        simp at h4
        have hS : setP l n v = outP l n := by unfold setP; rw [if_pos h4]
        rw [hS, hend]
        exact .inr ⟨rfl, rfl⟩
      simp at h4
      have hS : setP l n v = (outP l n).take (idxP (outP l n) n) ++ [(n, v)] ++ (outP l n).drop (idxP (outP l n) n) := by unfold setP; rw [if_neg h4]
      rw [hS, hend]
      conv => whnf
      refine unroll0 1 ?_
      conv => whnf
      refine fk rfl ?_
      conv => whnf
      refine tk rfl ?_
      conv => whnf
      refine ⟨by decide, ?_⟩
      conv => whnf
      intro _
      conv => whnf
      refine fk rfl ?_
      conv => whnf
      refine tk rfl ?_
      conv => whnf
      refine ⟨by show 1 * 48 ≤ 140737488355328; omega, ?_⟩
      conv => whnf
      exact .inl rfl
  | cons x xs =>
    conv => whnf
    refine ⟨fun h2 => ?_, fun h2 => ?_⟩
    · have h2 : i < l.length := by simp at h2; omega
      have hstep := hstep h2
      conv => whnf
      try (intro _; conv => whnf)
      refine ⟨by omega, ?_⟩
      rw [gt_nat (d := PD) l i h2]
      conv => whnf
      refine ⟨fun h3 => ?_, fun h3 => ?_⟩
      · rw [h3] at hstep
        conv => whnf
        refine ⟨by show ((x :: xs).length + 1) * 48 ≤ 140737488355328; omega, ?_⟩
        conv => whnf
        refine ⟨i + 1, ⟨by omega, by omega⟩, ?_⟩
        rw [hstep]
        (conv => whnf); refine ⟨rfl, ?_, ?_, ?_⟩ <;> (repeat' apply And.intro) <;> first | exact trivial | rfl | exact wr_succ _ (by omega) | assumption | exact decide_eq_false (by assumption) | exact decide_eq_true (by assumption)
      · rw [h3] at hstep
        conv => whnf
        refine ⟨i + 1, ⟨by omega, by omega⟩, ?_⟩
        rw [hstep, if_neg (by simp), List.append_nil]
        (conv => whnf); refine ⟨rfl, ?_, ?_, ?_⟩ <;> (repeat' apply And.intro) <;> first | exact trivial | rfl | exact wr_succ _ (by omega) | assumption | exact decide_eq_false (by assumption) | exact decide_eq_true (by assumption)
    · have hend := hend (by simp at h2; omega)
      conv => whnf
      refine ⟨fun h4 => ?_, fun h4 => ?_⟩
      · conv => whnf
        simp at h4
        have hS : setP l n v = outP l n := by unfold setP; rw [if_pos h4]
        rw [hS, hend]
        exact .inl rfl
      simp at h4
      have hS : setP l n v = (outP l n).take (idxP (outP l n) n) ++ [(n, v)] ++ (outP l n).drop (idxP (outP l n) n) := by unfold setP; rw [if_neg h4]
      rw [hS, hend]
      conv => whnf
      generalize hX : x :: xs = X at hlen hend
      have hne : X.length ≠ 0 := by rw [← hX]; simp
      intro _
      conv => whnf
      refine loop0 (α := Nat) (fun j => j ≤ X.length ∧ idxP X n = j + (X.drop j).findIdx (geP n))
        (fun j => ⟨[(0, .c (.row 2)), (1, .c (.fn 26 [(0, 0)])), (7, .c (.int .i64 X.length)), (8, .c (.int .i64 j))], [(0, .cells 9 [.str n]), (1, .cells 23 (vc v)), (2, .row 41 PD X)], 3⟩) (fun j => X.length - j) ⟨0, ⟨by omega, by simp [idxP]⟩, ?_⟩ ?_
      · (conv => whnf); refine ⟨rfl, ?_, ?_, ?_⟩ <;> (repeat' apply And.intro) <;> first | exact trivial | rfl | exact wr_succ _ (by omega) | assumption | exact decide_eq_false (by assumption) | exact decide_eq_true (by assumption)
      rintro j ⟨hJ1, hJ2⟩
      conv => whnf
      refine ⟨fun h5 => ?_, fun h5 => ?_⟩
      · have h5 : j < X.length := by simp at h5; omega
        rw [List.drop_eq_getElem_cons h5, List.findIdx_cons] at hJ2
        conv => whnf
        intro _
        conv => whnf
        refine ⟨by omega, ?_⟩
        conv => whnf
        refine ⟨by omega, ?_⟩
        rw [gt_nat (d := PD) X j h5]
        conv => whnf
        refine ⟨fun h6 => ?_, fun h6 => ?_⟩
        · have h6' : geP n X[j] = true := h6
          rw [h6'] at hJ2
          have hJ2 : idxP X n = j := hJ2
          rw [hJ2]
          conv => whnf
          refine fk (by simp) ?_
          conv => whnf
          refine opns 2 rfl hne fun c hc1 hc2 => ?_
          conv => whnf
          refine ⟨by omega, ?_⟩
          conv => whnf
          intro _
          conv => whnf
          refine fk rfl ?_
          conv => whnf
          intro _
          conv => whnf
          refine fk (by simp; omega) ?_
          conv => whnf
          intro _
          conv => whnf
          have e1 : IntKind.wrap .i64 ((X.length : Int) + (([(n, v.1, v.2.1, v.2.2)] : List PD.T).length : Nat)) = ((X.length + 1 : Nat) : Int) := by
            show IntKind.wrap .i64 ((X.length : Int) + 1) = _
            rw [wr64 _ (by omega) (by omega)]; omega
          have e2 : IntKind.wrap .i64 ((j : Int) + (([(n, v.1, v.2.1, v.2.2)] : List PD.T).length : Nat)) = ((j + 1 : Nat) : Int) := by
            show IntKind.wrap .i64 ((j : Int) + 1) = _
            rw [wr64 _ (by omega) (by omega)]; omega
          refine ⟨fun h7 => ?_, fun h7 => ?_⟩
          · rw [e1] at h7
            simp at h7
            conv => whnf
            refine ⟨by omega, ?_⟩
            conv => whnf
            rw [e1]
            have e3 : IntKind.wrap .i64 (((X.length + 1 : Nat) : Int) - j) = ((X.length + 1 - j : Nat) : Int) := by rw [wr64 _ (by omega) (by omega)]; omega
            refine ⟨?_, ?_⟩
            · rw [e3]
              show 0 < _ ∧ ((c - 0 : Nat) : Int) < (((j : Int).toNat - 0 : Nat) : Int) + _ ∧ 0 + 0 + ((j : Int).toNat - 0) ≤ X.length ∧ ((((j : Int).toNat - 0 : Nat) : Int) + _) * ((48 : Nat) : Int) ≤ 140737488355328
              omega
            conv => whnf
            rw [e3]
            generalize hY : (List.take ((j : Int).toNat - 0) (List.drop (0 + 0) X) ++ List.replicate (((X.length + 1 - j : Nat) : Int)).toNat (([], 0, 0, []) : PD.T)) = Y
            have hYl : Y.length = X.length + 1 := by
              rw [← hY]; simp only [List.length_append, List.length_take, List.length_drop, List.length_replicate]; omega
            refine opns 5 rfl (by rw [hYl]; omega) fun c' hc3 hc4 => ?_
            conv => whnf
            refine ⟨by rw [hYl]; omega, ?_⟩
            conv => whnf
            refine ⟨⟨trivial, ?_, ?_⟩, ?_⟩
            · rw [hYl]; show 0 + (j : Int).toNat ≤ _; omega
            · rw [hYl]; show 0 + (j : Int).toNat + min 1 _ ≤ _; omega
            conv => whnf
            refine any0 ?_
            conv => whnf
            rw [e2]
            refine ⟨by omega, ?_⟩
            conv => whnf
            refine ⟨by omega, ?_⟩
            conv => whnf
            refine ⟨⟨?_, ?_, ?_⟩, ?_⟩
            · show 0 + j + min (X.length - j) (Y.length - (j + 1)) ≤ X.length
              rw [hYl]; omega
            · show 0 + (j + 1) ≤ List.length (List.take (0 + j) Y ++ List.take (Y.length - j) [((n, v.1, v.2.1, v.2.2) : PD.T)] ++ List.drop (0 + j + min 1 (Y.length - j)) Y)
              simp only [List.length_append, List.length_take, List.length_drop, List.length_singleton]
              rw [hYl]; omega
            · show 0 + (j + 1) + min (X.length - j) (Y.length - (j + 1)) ≤ c'
              rw [hYl] at hc3 ⊢; omega
            conv => whnf
            refine ⟨.inl (by kernel_rfl), after0 ?_⟩
            conv => whnf
            refine ⟨rfl, ?_, .inl ?_⟩
            · show 0 + Y.length ≤ List.length (List.take (0 + (j + 1)) (List.take (0 + j) Y ++ List.take (Y.length - j) [((n, v.1, v.2.1, v.2.2) : PD.T)] ++ List.drop (0 + j + min 1 (Y.length - j)) Y) ++ List.take (min (X.length - j) (Y.length - (j + 1))) (List.drop (0 + j) X) ++ List.drop (0 + (j + 1) + min (X.length - j) (Y.length - (j + 1))) (List.take (0 + j) Y ++ List.take (Y.length - j) [((n, v.1, v.2.1, v.2.2) : PD.T)] ++ List.drop (0 + j + min 1 (Y.length - j)) Y))
              simp only [List.length_append, List.length_take, List.length_drop, List.length_singleton]
              rw [hYl]; omega
            · exact congrArg (fun l => SV.c (.dat PD l)) (grow_list X Y (n, v.1, v.2.1, v.2.2) _ j h5 hY)
          · rw [e1] at h7
            simp at h7
            conv => whnf
            rw [e1]
            refine ⟨by omega, ?_⟩
            conv => whnf
            rw [e2]
            refine ⟨by show 0 ≤ _ ∧ _ ≤ ((X.length + 1 - 0 : Nat) : Int); omega, ?_⟩
            conv => whnf
            refine ovl0 (tS := 24) (tR := 4) (e := 41) Try.func31 rfl rfl (by kernel_rfl) (by kernel_rfl) rfl rfl rfl rfl rfl rfl (by simp) hne ?_
            conv => whnf
            refine any0 ?_
            conv => whnf
            rw [e2]
            refine ⟨by show 0 ≤ _ ∧ _ ≤ ((X.length + 1 - 0 : Nat) : Int); omega, ?_⟩
            conv => whnf
            refine ⟨by show 0 ≤ _ ∧ _ ≤ ((X.length + 1 - 0 : Nat) : Int); omega, ?_⟩
            conv => whnf
            refine ⟨⟨?_, ?_, ?_⟩, ?_⟩
            · show 0 + 0 + j + min (X.length + 1 - 0 - j) (X.length + 1 - 0 - (j + 1)) ≤ X.length
              omega
            · show 0 + 0 + (j + 1) ≤ X.length
              omega
            · show 0 + 0 + (j + 1) + min (X.length + 1 - 0 - j) (X.length + 1 - 0 - (j + 1)) ≤ c
              omega
            conv => whnf
            refine ⟨.inl (by kernel_rfl), after0 ?_⟩
            conv => whnf
            refine ⟨by show 0 ≤ _ ∧ _ ≤ ((X.length + 1 - 0 : Nat) : Int); omega, ?_⟩
            conv => whnf
            refine ⟨⟨trivial, ?_, ?_⟩, ?_⟩
            · show 0 + 0 + j ≤ List.length (List.take (0 + 0 + (j + 1)) X ++ List.take (min (X.length + 1 - 0 - j) (X.length + 1 - 0 - (j + 1))) (List.drop (0 + 0 + j) X) ++ List.drop (0 + 0 + (j + 1) + min (X.length + 1 - 0 - j) (X.length + 1 - 0 - (j + 1))) X)
              simp only [List.length_append, List.length_take, List.length_drop]
              omega
            · show 0 + 0 + j + min 1 (X.length + 1 - 0 - j) ≤ c
              omega
            conv => whnf
            refine ⟨rfl, ?_, .inl ?_⟩
            · show 0 + 0 + (X.length + 1 - 0) ≤ List.length (List.take (0 + 0 + j) (List.take (0 + 0 + (j + 1)) X ++ List.take (min (X.length + 1 - 0 - j) (X.length + 1 - 0 - (j + 1))) (List.drop (0 + 0 + j) X) ++ List.drop (0 + 0 + (j + 1) + min (X.length + 1 - 0 - j) (X.length + 1 - 0 - (j + 1))) X) ++ List.take (X.length + 1 - 0 - j) [((n, v.1, v.2.1, v.2.2) : PD.T)] ++ List.drop (0 + 0 + j + min 1 (X.length + 1 - 0 - j)) (List.take (0 + 0 + (j + 1)) X ++ List.take (min (X.length + 1 - 0 - j) (X.length + 1 - 0 - (j + 1))) (List.drop (0 + 0 + j) X) ++ List.drop (0 + 0 + (j + 1) + min (X.length + 1 - 0 - j) (X.length + 1 - 0 - (j + 1))) X))
              simp only [List.length_append, List.length_take, List.length_drop, List.length_singleton]
              omega
            · exact congrArg (fun l => SV.c (.dat PD l)) (shift_list X (n, v.1, v.2.1, v.2.2) j h5)
        · have h6' : geP n X[j] = false := h6
          rw [h6'] at hJ2
          conv => whnf
          refine ⟨j + 1, ⟨⟨by omega, by rw [hJ2]; simp only [cond_false]; omega⟩, by omega⟩, ?_⟩
          (conv => whnf); refine ⟨rfl, ?_, ?_, ?_⟩ <;> (repeat' apply And.intro) <;> first | exact trivial | rfl | exact wr_succ _ (by omega) | assumption | exact decide_eq_false (by assumption) | exact decide_eq_true (by assumption)
      · have h5 : j = X.length := by simp at h5; omega
        have hJ2 : idxP X n = X.length := by rw [hJ2, h5, List.drop_length]; rfl
        rw [hJ2]
        conv => whnf
        refine tk rfl ?_
        conv => whnf
        intro _
        conv => whnf
        refine opns 2 rfl hne fun c hc1 hc2 => ?_
        conv => whnf
        refine ⟨by omega, ?_⟩
        conv => whnf
        intro _
        conv => whnf
        refine fk rfl ?_
        conv => whnf
        intro _
        conv => whnf
        refine tk (by simp) ?_
        conv => whnf
        refine ⟨⟨⟨rfl, rfl, rfl⟩, by show (X.length + 1) * 48 ≤ 140737488355328; omega⟩, ?_⟩
        conv => whnf
        refine .inl ?_
        rw [List.take_length, List.drop_length, List.append_nil]
end Go.Proofs.Ytfpgjaallhpddab
