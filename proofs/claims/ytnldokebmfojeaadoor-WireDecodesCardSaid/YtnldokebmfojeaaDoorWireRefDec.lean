/- The walk of the reference's Decode of commands. Printed by genwdec.py. Own work. -/
import Derived.Test.YtnldokebmfojeaaDoorWireRefRead
set_option linter.unusedVariables false
set_option maxRecDepth 100000
namespace Go.Proofs.YtnldokebmfojeaaDoor
open Go Go.RowKit OE

theorem rl_c {x : Cx} {b c : BE} (h : b.v = c.v) : ∀ (A B : List C) (l : List Value), RL (RC x) (A ++ .bool b :: B) l → RL (RC x) (A ++ .bool c :: B) l
  | [], B, [], hv => hv.elim
  | [], B, v :: l, ⟨h1, h2⟩ => ⟨by show v = .bool c.v; rw [← h]; exact h1, h2⟩
  | a :: A, B, [], hv => hv.elim
  | a :: A, B, v :: l, ⟨h1, h2⟩ => ⟨h1, rl_c h A B l h2⟩
/-- a command's cells, of which one truth may stand otherwise -/
def mcB (m : MD.T) (b : BE) : List C := (mc m).take 20 ++ .bool b :: (mc m).drop 21
def cascM (m : MD.T) : Bool := (mOp m).2.2.2.2.2.2.2
abbrev decPR (m : MD.T) (n : Int) (x : SV) : Prop := ∃ b : BE, b.v = cascM m ∧ x = .tup [(true, mcB m b), (false, [.int .i64 n])]
theorem dec_tup {P : Program} {f : Nat} {args : List SV} {m : MD.T} {n : Int} (h : FnD P f args (decPR m n)) : FnD P f args (· = .tup [(true, mc m), (false, [.int .i64 n])]) :=
  h.res fun r hr w ok v hv => by
    obtain ⟨b, hb, rfl⟩ := hr
    obtain ⟨vs, e, hl⟩ := hv
    refine ⟨vs, e, ?_⟩
    generalize vs.toList = l at hl
    cases l with
    | nil => exact hl.elim
    | cons v1 l =>
      refine ⟨?_, hl.2⟩
      obtain ⟨us, e1, h1⟩ := (show ∃ us, v1 = .agg us ∧ RL (RC (DX w ok)) (mcB m b) us.toList from hl.1)
      exact (show ∃ us, v1 = .agg us ∧ RL (RC (DX w ok)) (mc m) us.toList from ⟨us, e1, rl_c (c := .sym (cascM m)) hb ((mc m).take 20) ((mc m).drop 21) us.toList h1⟩)
theorem rS_le {s : List UInt8} (hs : s.length ≤ 1000000) {q : Int × Bool} (h : inS s q) : q.1 + ((rS' s q.1).2 : Int) ≤ s.length := by
  cases hh : (decS s q.1).isSome with
  | true => exact rS_bd hh
  | false =>
    have e : decS s q.1 = none := by simpa using hh
    unfold rS'
    rw [e]
    show q.1 + ((0 : Nat) : Int) ≤ _
    have := h.2
    omega
theorem ref24_Decode' (s : List UInt8) (hs : s.length ≤ 1000000) : FnD Tryd.prog 17 [.c (.str s)] (decPR (decRP s (rdM s)) (derRP s (rdM s))) := by
  have h0 : inS s (0, false) := ⟨Int.le_refl 0, Int.natCast_nonneg _⟩
  have hy := rdY_in h0
  unfold rdM
  refine fn0 Tryd.func17 rfl rfl rfl ?_
  conv => whnf
  refine ⟨fun _ => weaken (st := ⟨[(0, .c (.str s)), (2, .c (.ptr 0 0)), (3, .c (.int .i64 0)), (4, .c (.ptr 1 0)), (10, .c (.ptr 1 0))], [(0, .cells 29 (mc MD.df)), (1, .cells 70 [.str s, .int .i64 0, .bool (.sym false)])], 2⟩) ?_ (go0 ?_)⟩
  · (conv => whnf); refine ⟨rfl, ?_, ?_, ?_⟩ <;> (repeat' apply And.intro) <;> first | exact trivial | rfl | exact wr_succ _ (by omega) | assumption | exact decide_eq_false (by assumption) | exact decide_eq_true (by assumption)
  conv => whnf
  refine callp0 [1] rfl rfl (rd_Byte s hs (0, false) h0) rfl rfl rfl rfl rfl ?_
  conv => whnf
  rename_i hx
  clear hx
  generalize rdY s (0, false) = y at hy
  obtain ⟨k, q⟩ := y
  dsimp only at hy
  generalize hF : List.foldl (fun (st : MD.T × Int × Bool) (f : UInt8) => rdMf s st f.toNat) (m0 k, q) (gt (d := .str) cmdL k) = F
  refine ⟨fun a => ?_, fun a => ?_⟩
  · have a : k = 4 := of_decide_eq_true a
    subst a
    obtain rfl : F = (mNm (m0 4) (rdT s q).1, (rdT s q).2) := hF.symm
    conv => whnf
    refine callp0 [1] rfl rfl (rd_Text s hs q hy) rfl rfl rfl rfl rfl ?_
    conv => whnf
    refine callg0 (fun _ => ref24_Good (mNm (m0 4) (rdT s q).1)) rfl ?_
    conv => whnf
    refine ⟨fun g => ?_, fun g => ?_⟩
    · have hg : ¬ okRD s (mNm (m0 4) (rdT s q).1, (rdT s q).2) = true := fun h => by
        have h2 : (!okRD s (mNm (m0 4) (rdT s q).1, (rdT s q).2)) = true := by unfold okRD; rw [Bool.not_not]; exact g
        rw [h] at h2; cases h2
      rw [show decRP s (mNm (m0 4) (rdT s q).1, (rdT s q).2) = MD.df from if_neg hg, show derRP s (mNm (m0 4) (rdT s q).1, (rdT s q).2) = 11 from if_neg hg]
      conv => whnf
      refine ⟨_, ?_, rfl⟩
      rfl
    · have hg : okRD s (mNm (m0 4) (rdT s q).1, (rdT s q).2) = true := by unfold okRD; rw [Bool.not_eq_true']; exact g
      rw [show decRP s (mNm (m0 4) (rdT s q).1, (rdT s q).2) = (mNm (m0 4) (rdT s q).1, (rdT s q).2).1 from if_pos hg, show derRP s (mNm (m0 4) (rdT s q).1, (rdT s q).2) = 0 from if_pos hg]
      conv => whnf
      refine ⟨_, ?_, rfl⟩
      rfl
  have a4 : ¬ k = 4 := of_decide_eq_false a
  clear a
  conv => whnf
  refine ⟨fun a => ?_, fun a => ?_⟩
  · have a : k = 5 := of_decide_eq_true a
    subst a
    obtain rfl : F = (mNm (m0 5) (rdT s q).1, (rdT s q).2) := hF.symm
    conv => whnf
    refine callp0 [1] rfl rfl (rd_Text s hs q hy) rfl rfl rfl rfl rfl ?_
    conv => whnf
    refine callg0 (fun _ => ref24_Good (mNm (m0 5) (rdT s q).1)) rfl ?_
    conv => whnf
    refine ⟨fun g => ?_, fun g => ?_⟩
    · have hg : ¬ okRD s (mNm (m0 5) (rdT s q).1, (rdT s q).2) = true := fun h => by
        have h2 : (!okRD s (mNm (m0 5) (rdT s q).1, (rdT s q).2)) = true := by unfold okRD; rw [Bool.not_not]; exact g
        rw [h] at h2; cases h2
      rw [show decRP s (mNm (m0 5) (rdT s q).1, (rdT s q).2) = MD.df from if_neg hg, show derRP s (mNm (m0 5) (rdT s q).1, (rdT s q).2) = 11 from if_neg hg]
      conv => whnf
      refine ⟨_, ?_, rfl⟩
      rfl
    · have hg : okRD s (mNm (m0 5) (rdT s q).1, (rdT s q).2) = true := by unfold okRD; rw [Bool.not_eq_true']; exact g
      rw [show decRP s (mNm (m0 5) (rdT s q).1, (rdT s q).2) = (mNm (m0 5) (rdT s q).1, (rdT s q).2).1 from if_pos hg, show derRP s (mNm (m0 5) (rdT s q).1, (rdT s q).2) = 0 from if_pos hg]
      conv => whnf
      refine ⟨_, ?_, rfl⟩
      rfl
  have a5 : ¬ k = 5 := of_decide_eq_false a
  clear a
  conv => whnf
  refine ⟨fun a => ?_, fun a => ?_⟩
  · have a : k = 6 := of_decide_eq_true a
    subst a
    obtain rfl : F = (sO (m0 6) (rdO s q).1, (rdO s q).2) := hF.symm
    conv => whnf
    refine callp0 [1] rfl rfl (rd_Op s hs q hy) rfl rfl rfl rfl rfl ?_
    conv => whnf
    refine callg0 (fun _ => ref24_Good (sO (m0 6) (rdO s q).1)) rfl ?_
    conv => whnf
    refine ⟨fun g => ?_, fun g => ?_⟩
    · have hg : ¬ okRD s (sO (m0 6) (rdO s q).1, (rdO s q).2) = true := fun h => by
        have h2 : (!okRD s (sO (m0 6) (rdO s q).1, (rdO s q).2)) = true := by unfold okRD; rw [Bool.not_not]; exact g
        rw [h] at h2; cases h2
      rw [show decRP s (sO (m0 6) (rdO s q).1, (rdO s q).2) = MD.df from if_neg hg, show derRP s (sO (m0 6) (rdO s q).1, (rdO s q).2) = 11 from if_neg hg]
      conv => whnf
      refine ⟨_, ?_, rfl⟩
      rfl
    · have hg : okRD s (sO (m0 6) (rdO s q).1, (rdO s q).2) = true := by unfold okRD; rw [Bool.not_eq_true']; exact g
      rw [show decRP s (sO (m0 6) (rdO s q).1, (rdO s q).2) = (sO (m0 6) (rdO s q).1, (rdO s q).2).1 from if_pos hg, show derRP s (sO (m0 6) (rdO s q).1, (rdO s q).2) = 0 from if_pos hg]
      conv => whnf
      refine ⟨_, ?_, rfl⟩
      rfl
  have a6 : ¬ k = 6 := of_decide_eq_false a
  clear a
  conv => whnf
  refine ⟨fun a => ?_, fun a => ?_⟩
  · have a : k = 7 := of_decide_eq_true a
    subst a
    obtain rfl : F = (mI (m0 7) (rdN s 4611686018427387903 q).1, (rdN s 4611686018427387903 q).2) := hF.symm
    conv => whnf
    refine callp0 [1] rfl rfl (rd_Num s hs 4611686018427387903 q hy) rfl rfl rfl rfl rfl ?_
    conv => whnf
    refine callg0 (fun _ => ref24_Good (mI (m0 7) (rdN s 4611686018427387903 q).1)) rfl ?_
    conv => whnf
    refine ⟨fun g => ?_, fun g => ?_⟩
    · have hg : ¬ okRD s (mI (m0 7) (rdN s 4611686018427387903 q).1, (rdN s 4611686018427387903 q).2) = true := fun h => by
        have h2 : (!okRD s (mI (m0 7) (rdN s 4611686018427387903 q).1, (rdN s 4611686018427387903 q).2)) = true := by unfold okRD; rw [Bool.not_not]; exact g
        rw [h] at h2; cases h2
      rw [show decRP s (mI (m0 7) (rdN s 4611686018427387903 q).1, (rdN s 4611686018427387903 q).2) = MD.df from if_neg hg, show derRP s (mI (m0 7) (rdN s 4611686018427387903 q).1, (rdN s 4611686018427387903 q).2) = 11 from if_neg hg]
      conv => whnf
      refine ⟨_, ?_, rfl⟩
      rfl
    · have hg : okRD s (mI (m0 7) (rdN s 4611686018427387903 q).1, (rdN s 4611686018427387903 q).2) = true := by unfold okRD; rw [Bool.not_eq_true']; exact g
      rw [show decRP s (mI (m0 7) (rdN s 4611686018427387903 q).1, (rdN s 4611686018427387903 q).2) = (mI (m0 7) (rdN s 4611686018427387903 q).1, (rdN s 4611686018427387903 q).2).1 from if_pos hg, show derRP s (mI (m0 7) (rdN s 4611686018427387903 q).1, (rdN s 4611686018427387903 q).2) = 0 from if_pos hg]
      conv => whnf
      refine ⟨_, ?_, rfl⟩
      rfl
  have a7 : ¬ k = 7 := of_decide_eq_false a
  clear a
  conv => whnf
  refine ⟨fun a => ?_, fun a => ?_⟩
  · have a : k = 8 := of_decide_eq_true a
    subst a
    obtain rfl : F = (mI (m0 8) (rdN s 4611686018427387903 q).1, (rdN s 4611686018427387903 q).2) := hF.symm
    conv => whnf
    refine callp0 [1] rfl rfl (rd_Num s hs 4611686018427387903 q hy) rfl rfl rfl rfl rfl ?_
    conv => whnf
    refine callg0 (fun _ => ref24_Good (mI (m0 8) (rdN s 4611686018427387903 q).1)) rfl ?_
    conv => whnf
    refine ⟨fun g => ?_, fun g => ?_⟩
    · have hg : ¬ okRD s (mI (m0 8) (rdN s 4611686018427387903 q).1, (rdN s 4611686018427387903 q).2) = true := fun h => by
        have h2 : (!okRD s (mI (m0 8) (rdN s 4611686018427387903 q).1, (rdN s 4611686018427387903 q).2)) = true := by unfold okRD; rw [Bool.not_not]; exact g
        rw [h] at h2; cases h2
      rw [show decRP s (mI (m0 8) (rdN s 4611686018427387903 q).1, (rdN s 4611686018427387903 q).2) = MD.df from if_neg hg, show derRP s (mI (m0 8) (rdN s 4611686018427387903 q).1, (rdN s 4611686018427387903 q).2) = 11 from if_neg hg]
      conv => whnf
      refine ⟨_, ?_, rfl⟩
      rfl
    · have hg : okRD s (mI (m0 8) (rdN s 4611686018427387903 q).1, (rdN s 4611686018427387903 q).2) = true := by unfold okRD; rw [Bool.not_eq_true']; exact g
      rw [show decRP s (mI (m0 8) (rdN s 4611686018427387903 q).1, (rdN s 4611686018427387903 q).2) = (mI (m0 8) (rdN s 4611686018427387903 q).1, (rdN s 4611686018427387903 q).2).1 from if_pos hg, show derRP s (mI (m0 8) (rdN s 4611686018427387903 q).1, (rdN s 4611686018427387903 q).2) = 0 from if_pos hg]
      conv => whnf
      refine ⟨_, ?_, rfl⟩
      rfl
  have a8 : ¬ k = 8 := of_decide_eq_false a
  clear a
  conv => whnf
  refine ⟨fun a => ?_, fun a => ?_⟩
  · have a : k = 9 := of_decide_eq_true a
    subst a
    obtain rfl : F = (mT (mI (m0 9) (rdN s 4611686018427387903 q).1) (rdT s (rdN s 4611686018427387903 q).2).1, (rdT s (rdN s 4611686018427387903 q).2).2) := hF.symm
    conv => whnf
    refine callp0 [1] rfl rfl (rd_Num s hs 4611686018427387903 q hy) rfl rfl rfl rfl rfl ?_
    conv => whnf
    refine callp0 [1] rfl rfl (rd_Text s hs (rdN s 4611686018427387903 q).2 (rdN_in hy)) rfl rfl rfl rfl rfl ?_
    conv => whnf
    refine callg0 (fun _ => ref24_Good (mT (mI (m0 9) (rdN s 4611686018427387903 q).1) (rdT s (rdN s 4611686018427387903 q).2).1)) rfl ?_
    conv => whnf
    refine ⟨fun g => ?_, fun g => ?_⟩
    · have hg : ¬ okRD s (mT (mI (m0 9) (rdN s 4611686018427387903 q).1) (rdT s (rdN s 4611686018427387903 q).2).1, (rdT s (rdN s 4611686018427387903 q).2).2) = true := fun h => by
        have h2 : (!okRD s (mT (mI (m0 9) (rdN s 4611686018427387903 q).1) (rdT s (rdN s 4611686018427387903 q).2).1, (rdT s (rdN s 4611686018427387903 q).2).2)) = true := by unfold okRD; rw [Bool.not_not]; exact g
        rw [h] at h2; cases h2
      rw [show decRP s (mT (mI (m0 9) (rdN s 4611686018427387903 q).1) (rdT s (rdN s 4611686018427387903 q).2).1, (rdT s (rdN s 4611686018427387903 q).2).2) = MD.df from if_neg hg, show derRP s (mT (mI (m0 9) (rdN s 4611686018427387903 q).1) (rdT s (rdN s 4611686018427387903 q).2).1, (rdT s (rdN s 4611686018427387903 q).2).2) = 11 from if_neg hg]
      conv => whnf
      refine ⟨_, ?_, rfl⟩
      rfl
    · have hg : okRD s (mT (mI (m0 9) (rdN s 4611686018427387903 q).1) (rdT s (rdN s 4611686018427387903 q).2).1, (rdT s (rdN s 4611686018427387903 q).2).2) = true := by unfold okRD; rw [Bool.not_eq_true']; exact g
      rw [show decRP s (mT (mI (m0 9) (rdN s 4611686018427387903 q).1) (rdT s (rdN s 4611686018427387903 q).2).1, (rdT s (rdN s 4611686018427387903 q).2).2) = (mT (mI (m0 9) (rdN s 4611686018427387903 q).1) (rdT s (rdN s 4611686018427387903 q).2).1, (rdT s (rdN s 4611686018427387903 q).2).2).1 from if_pos hg, show derRP s (mT (mI (m0 9) (rdN s 4611686018427387903 q).1) (rdT s (rdN s 4611686018427387903 q).2).1, (rdT s (rdN s 4611686018427387903 q).2).2) = 0 from if_pos hg]
      conv => whnf
      refine ⟨_, ?_, rfl⟩
      rfl
  have a9 : ¬ k = 9 := of_decide_eq_false a
  clear a
  conv => whnf
  refine ⟨fun a => ?_, fun a => ?_⟩
  · have a : k = 10 := of_decide_eq_true a
    subst a
    obtain rfl : F = (mT (mI (m0 10) (rdN s 4611686018427387903 q).1) (rdT s (rdN s 4611686018427387903 q).2).1, (rdT s (rdN s 4611686018427387903 q).2).2) := hF.symm
    conv => whnf
    refine callp0 [1] rfl rfl (rd_Num s hs 4611686018427387903 q hy) rfl rfl rfl rfl rfl ?_
    conv => whnf
    refine callp0 [1] rfl rfl (rd_Text s hs (rdN s 4611686018427387903 q).2 (rdN_in hy)) rfl rfl rfl rfl rfl ?_
    conv => whnf
    refine callg0 (fun _ => ref24_Good (mT (mI (m0 10) (rdN s 4611686018427387903 q).1) (rdT s (rdN s 4611686018427387903 q).2).1)) rfl ?_
    conv => whnf
    refine ⟨fun g => ?_, fun g => ?_⟩
    · have hg : ¬ okRD s (mT (mI (m0 10) (rdN s 4611686018427387903 q).1) (rdT s (rdN s 4611686018427387903 q).2).1, (rdT s (rdN s 4611686018427387903 q).2).2) = true := fun h => by
        have h2 : (!okRD s (mT (mI (m0 10) (rdN s 4611686018427387903 q).1) (rdT s (rdN s 4611686018427387903 q).2).1, (rdT s (rdN s 4611686018427387903 q).2).2)) = true := by unfold okRD; rw [Bool.not_not]; exact g
        rw [h] at h2; cases h2
      rw [show decRP s (mT (mI (m0 10) (rdN s 4611686018427387903 q).1) (rdT s (rdN s 4611686018427387903 q).2).1, (rdT s (rdN s 4611686018427387903 q).2).2) = MD.df from if_neg hg, show derRP s (mT (mI (m0 10) (rdN s 4611686018427387903 q).1) (rdT s (rdN s 4611686018427387903 q).2).1, (rdT s (rdN s 4611686018427387903 q).2).2) = 11 from if_neg hg]
      conv => whnf
      refine ⟨_, ?_, rfl⟩
      rfl
    · have hg : okRD s (mT (mI (m0 10) (rdN s 4611686018427387903 q).1) (rdT s (rdN s 4611686018427387903 q).2).1, (rdT s (rdN s 4611686018427387903 q).2).2) = true := by unfold okRD; rw [Bool.not_eq_true']; exact g
      rw [show decRP s (mT (mI (m0 10) (rdN s 4611686018427387903 q).1) (rdT s (rdN s 4611686018427387903 q).2).1, (rdT s (rdN s 4611686018427387903 q).2).2) = (mT (mI (m0 10) (rdN s 4611686018427387903 q).1) (rdT s (rdN s 4611686018427387903 q).2).1, (rdT s (rdN s 4611686018427387903 q).2).2).1 from if_pos hg, show derRP s (mT (mI (m0 10) (rdN s 4611686018427387903 q).1) (rdT s (rdN s 4611686018427387903 q).2).1, (rdT s (rdN s 4611686018427387903 q).2).2) = 0 from if_pos hg]
      conv => whnf
      refine ⟨_, ?_, rfl⟩
      rfl
  have a10 : ¬ k = 10 := of_decide_eq_false a
  clear a
  conv => whnf
  refine ⟨fun a => ?_, fun a => ?_⟩
  · have a : k = 11 := of_decide_eq_true a
    subst a
    obtain rfl : F = (mT (m0 11) (rdT s q).1, (rdT s q).2) := hF.symm
    conv => whnf
    refine callp0 [1] rfl rfl (rd_Text s hs q hy) rfl rfl rfl rfl rfl ?_
    conv => whnf
    refine callg0 (fun _ => ref24_Good (mT (m0 11) (rdT s q).1)) rfl ?_
    conv => whnf
    refine ⟨fun g => ?_, fun g => ?_⟩
    · have hg : ¬ okRD s (mT (m0 11) (rdT s q).1, (rdT s q).2) = true := fun h => by
        have h2 : (!okRD s (mT (m0 11) (rdT s q).1, (rdT s q).2)) = true := by unfold okRD; rw [Bool.not_not]; exact g
        rw [h] at h2; cases h2
      rw [show decRP s (mT (m0 11) (rdT s q).1, (rdT s q).2) = MD.df from if_neg hg, show derRP s (mT (m0 11) (rdT s q).1, (rdT s q).2) = 11 from if_neg hg]
      conv => whnf
      refine ⟨_, ?_, rfl⟩
      rfl
    · have hg : okRD s (mT (m0 11) (rdT s q).1, (rdT s q).2) = true := by unfold okRD; rw [Bool.not_eq_true']; exact g
      rw [show decRP s (mT (m0 11) (rdT s q).1, (rdT s q).2) = (mT (m0 11) (rdT s q).1, (rdT s q).2).1 from if_pos hg, show derRP s (mT (m0 11) (rdT s q).1, (rdT s q).2) = 0 from if_pos hg]
      conv => whnf
      refine ⟨_, ?_, rfl⟩
      rfl
  have a11 : ¬ k = 11 := of_decide_eq_false a
  clear a
  conv => whnf
  refine ⟨fun a => ?_, fun a => ?_⟩
  · have a : k = 12 := of_decide_eq_true a
    subst a
    obtain rfl : F = (mVl (mNm (mT (m0 12) (rdT s q).1) (rdT s (rdT s q).2).1) (rdV s (rdT s (rdT s q).2).2).1, (rdV s (rdT s (rdT s q).2).2).2) := hF.symm
    conv => whnf
    refine callp0 [1] rfl rfl (rd_Text s hs q hy) rfl rfl rfl rfl rfl ?_
    conv => whnf
    refine callp0 [1] rfl rfl (rd_Text s hs (rdT s q).2 (rdT_in hy)) rfl rfl rfl rfl rfl ?_
    conv => whnf
    refine callp0 [1] rfl rfl (rd_Val s hs (rdT s (rdT s q).2).2 (rdT_in (rdT_in hy))) rfl rfl rfl rfl rfl ?_
    conv => whnf
    refine fk rfl ?_
    conv => whnf
    refine callg0 (fun _ => ref24_Good (mVl (mNm (mT (m0 12) (rdT s q).1) (rdT s (rdT s q).2).1) (rdV s (rdT s (rdT s q).2).2).1)) rfl ?_
    conv => whnf
    refine ⟨fun g => ?_, fun g => ?_⟩
    · have hg : ¬ okRD s (mVl (mNm (mT (m0 12) (rdT s q).1) (rdT s (rdT s q).2).1) (rdV s (rdT s (rdT s q).2).2).1, (rdV s (rdT s (rdT s q).2).2).2) = true := fun h => by
        have h2 : (!okRD s (mVl (mNm (mT (m0 12) (rdT s q).1) (rdT s (rdT s q).2).1) (rdV s (rdT s (rdT s q).2).2).1, (rdV s (rdT s (rdT s q).2).2).2)) = true := by unfold okRD; rw [Bool.not_not]; exact g
        rw [h] at h2; cases h2
      rw [show decRP s (mVl (mNm (mT (m0 12) (rdT s q).1) (rdT s (rdT s q).2).1) (rdV s (rdT s (rdT s q).2).2).1, (rdV s (rdT s (rdT s q).2).2).2) = MD.df from if_neg hg, show derRP s (mVl (mNm (mT (m0 12) (rdT s q).1) (rdT s (rdT s q).2).1) (rdV s (rdT s (rdT s q).2).2).1, (rdV s (rdT s (rdT s q).2).2).2) = 11 from if_neg hg]
      conv => whnf
      refine ⟨_, ?_, rfl⟩
      rfl
    · have hg : okRD s (mVl (mNm (mT (m0 12) (rdT s q).1) (rdT s (rdT s q).2).1) (rdV s (rdT s (rdT s q).2).2).1, (rdV s (rdT s (rdT s q).2).2).2) = true := by unfold okRD; rw [Bool.not_eq_true']; exact g
      rw [show decRP s (mVl (mNm (mT (m0 12) (rdT s q).1) (rdT s (rdT s q).2).1) (rdV s (rdT s (rdT s q).2).2).1, (rdV s (rdT s (rdT s q).2).2).2) = (mVl (mNm (mT (m0 12) (rdT s q).1) (rdT s (rdT s q).2).1) (rdV s (rdT s (rdT s q).2).2).1, (rdV s (rdT s (rdT s q).2).2).2).1 from if_pos hg, show derRP s (mVl (mNm (mT (m0 12) (rdT s q).1) (rdT s (rdT s q).2).1) (rdV s (rdT s (rdT s q).2).2).1, (rdV s (rdT s (rdT s q).2).2).2) = 0 from if_pos hg]
      conv => whnf
      refine ⟨_, ?_, rfl⟩
      rfl
  have a12 : ¬ k = 12 := of_decide_eq_false a
  clear a
  conv => whnf
  refine ⟨fun a => ?_, fun a => ?_⟩
  · have a : k = 13 := of_decide_eq_true a
    subst a
    obtain rfl : F = (mW (mVl (mNm (mT (m0 13) (rdT s q).1) (rdT s (rdT s q).2).1) (rdV s (rdT s (rdT s q).2).2).1) (rdV s (rdV s (rdT s (rdT s q).2).2).2).1, (rdV s (rdV s (rdT s (rdT s q).2).2).2).2) := hF.symm
    conv => whnf
    refine callp0 [1] rfl rfl (rd_Text s hs q hy) rfl rfl rfl rfl rfl ?_
    conv => whnf
    refine callp0 [1] rfl rfl (rd_Text s hs (rdT s q).2 (rdT_in hy)) rfl rfl rfl rfl rfl ?_
    conv => whnf
    refine callp0 [1] rfl rfl (rd_Val s hs (rdT s (rdT s q).2).2 (rdT_in (rdT_in hy))) rfl rfl rfl rfl rfl ?_
    conv => whnf
    refine tk rfl ?_
    conv => whnf
    refine callp0 [1] rfl rfl (rd_Val s hs (rdV s (rdT s (rdT s q).2).2).2 (rdV_in (rdT_in (rdT_in hy)))) rfl rfl rfl rfl rfl ?_
    conv => whnf
    refine callg0 (fun _ => ref24_Good (mW (mVl (mNm (mT (m0 13) (rdT s q).1) (rdT s (rdT s q).2).1) (rdV s (rdT s (rdT s q).2).2).1) (rdV s (rdV s (rdT s (rdT s q).2).2).2).1)) rfl ?_
    conv => whnf
    refine ⟨fun g => ?_, fun g => ?_⟩
    · have hg : ¬ okRD s (mW (mVl (mNm (mT (m0 13) (rdT s q).1) (rdT s (rdT s q).2).1) (rdV s (rdT s (rdT s q).2).2).1) (rdV s (rdV s (rdT s (rdT s q).2).2).2).1, (rdV s (rdV s (rdT s (rdT s q).2).2).2).2) = true := fun h => by
        have h2 : (!okRD s (mW (mVl (mNm (mT (m0 13) (rdT s q).1) (rdT s (rdT s q).2).1) (rdV s (rdT s (rdT s q).2).2).1) (rdV s (rdV s (rdT s (rdT s q).2).2).2).1, (rdV s (rdV s (rdT s (rdT s q).2).2).2).2)) = true := by unfold okRD; rw [Bool.not_not]; exact g
        rw [h] at h2; cases h2
      rw [show decRP s (mW (mVl (mNm (mT (m0 13) (rdT s q).1) (rdT s (rdT s q).2).1) (rdV s (rdT s (rdT s q).2).2).1) (rdV s (rdV s (rdT s (rdT s q).2).2).2).1, (rdV s (rdV s (rdT s (rdT s q).2).2).2).2) = MD.df from if_neg hg, show derRP s (mW (mVl (mNm (mT (m0 13) (rdT s q).1) (rdT s (rdT s q).2).1) (rdV s (rdT s (rdT s q).2).2).1) (rdV s (rdV s (rdT s (rdT s q).2).2).2).1, (rdV s (rdV s (rdT s (rdT s q).2).2).2).2) = 11 from if_neg hg]
      conv => whnf
      refine ⟨_, ?_, rfl⟩
      rfl
    · have hg : okRD s (mW (mVl (mNm (mT (m0 13) (rdT s q).1) (rdT s (rdT s q).2).1) (rdV s (rdT s (rdT s q).2).2).1) (rdV s (rdV s (rdT s (rdT s q).2).2).2).1, (rdV s (rdV s (rdT s (rdT s q).2).2).2).2) = true := by unfold okRD; rw [Bool.not_eq_true']; exact g
      rw [show decRP s (mW (mVl (mNm (mT (m0 13) (rdT s q).1) (rdT s (rdT s q).2).1) (rdV s (rdT s (rdT s q).2).2).1) (rdV s (rdV s (rdT s (rdT s q).2).2).2).1, (rdV s (rdV s (rdT s (rdT s q).2).2).2).2) = (mW (mVl (mNm (mT (m0 13) (rdT s q).1) (rdT s (rdT s q).2).1) (rdV s (rdT s (rdT s q).2).2).1) (rdV s (rdV s (rdT s (rdT s q).2).2).2).1, (rdV s (rdV s (rdT s (rdT s q).2).2).2).2).1 from if_pos hg, show derRP s (mW (mVl (mNm (mT (m0 13) (rdT s q).1) (rdT s (rdT s q).2).1) (rdV s (rdT s (rdT s q).2).2).1) (rdV s (rdV s (rdT s (rdT s q).2).2).2).1, (rdV s (rdV s (rdT s (rdT s q).2).2).2).2) = 0 from if_pos hg]
      conv => whnf
      refine ⟨_, ?_, rfl⟩
      rfl
  have a13 : ¬ k = 13 := of_decide_eq_false a
  clear a
  conv => whnf
  refine ⟨fun a => ?_, fun a => ?_⟩
  · have a : k = 14 := of_decide_eq_true a
    subst a
    obtain rfl : F = (mM (mT (m0 14) (rdT s q).1) (rdN s 2 (rdT s q).2).1, (rdN s 2 (rdT s q).2).2) := hF.symm
    conv => whnf
    refine callp0 [1] rfl rfl (rd_Text s hs q hy) rfl rfl rfl rfl rfl ?_
    conv => whnf
    refine callp0 [1] rfl rfl (rd_Num s hs 2 (rdT s q).2 (rdT_in hy)) rfl rfl rfl rfl rfl ?_
    conv => whnf
    refine callg0 (fun _ => ref24_Good (mM (mT (m0 14) (rdT s q).1) (rdN s 2 (rdT s q).2).1)) rfl ?_
    conv => whnf
    refine ⟨fun g => ?_, fun g => ?_⟩
    · have hg : ¬ okRD s (mM (mT (m0 14) (rdT s q).1) (rdN s 2 (rdT s q).2).1, (rdN s 2 (rdT s q).2).2) = true := fun h => by
        have h2 : (!okRD s (mM (mT (m0 14) (rdT s q).1) (rdN s 2 (rdT s q).2).1, (rdN s 2 (rdT s q).2).2)) = true := by unfold okRD; rw [Bool.not_not]; exact g
        rw [h] at h2; cases h2
      rw [show decRP s (mM (mT (m0 14) (rdT s q).1) (rdN s 2 (rdT s q).2).1, (rdN s 2 (rdT s q).2).2) = MD.df from if_neg hg, show derRP s (mM (mT (m0 14) (rdT s q).1) (rdN s 2 (rdT s q).2).1, (rdN s 2 (rdT s q).2).2) = 11 from if_neg hg]
      conv => whnf
      refine ⟨_, ?_, rfl⟩
      rfl
    · have hg : okRD s (mM (mT (m0 14) (rdT s q).1) (rdN s 2 (rdT s q).2).1, (rdN s 2 (rdT s q).2).2) = true := by unfold okRD; rw [Bool.not_eq_true']; exact g
      rw [show decRP s (mM (mT (m0 14) (rdT s q).1) (rdN s 2 (rdT s q).2).1, (rdN s 2 (rdT s q).2).2) = (mM (mT (m0 14) (rdT s q).1) (rdN s 2 (rdT s q).2).1, (rdN s 2 (rdT s q).2).2).1 from if_pos hg, show derRP s (mM (mT (m0 14) (rdT s q).1) (rdN s 2 (rdT s q).2).1, (rdN s 2 (rdT s q).2).2) = 0 from if_pos hg]
      conv => whnf
      refine ⟨_, ?_, rfl⟩
      rfl
  have a14 : ¬ k = 14 := of_decide_eq_false a
  clear a
  conv => whnf
  refine ⟨fun a => ?_, fun a => ?_⟩
  · have a : k = 15 := of_decide_eq_true a
    subst a
    obtain rfl : F = (mM (mT (m0 15) (rdT s q).1) (rdN s 2 (rdT s q).2).1, (rdN s 2 (rdT s q).2).2) := hF.symm
    conv => whnf
    refine callp0 [1] rfl rfl (rd_Text s hs q hy) rfl rfl rfl rfl rfl ?_
    conv => whnf
    refine callp0 [1] rfl rfl (rd_Num s hs 2 (rdT s q).2 (rdT_in hy)) rfl rfl rfl rfl rfl ?_
    conv => whnf
    refine callg0 (fun _ => ref24_Good (mM (mT (m0 15) (rdT s q).1) (rdN s 2 (rdT s q).2).1)) rfl ?_
    conv => whnf
    refine ⟨fun g => ?_, fun g => ?_⟩
    · have hg : ¬ okRD s (mM (mT (m0 15) (rdT s q).1) (rdN s 2 (rdT s q).2).1, (rdN s 2 (rdT s q).2).2) = true := fun h => by
        have h2 : (!okRD s (mM (mT (m0 15) (rdT s q).1) (rdN s 2 (rdT s q).2).1, (rdN s 2 (rdT s q).2).2)) = true := by unfold okRD; rw [Bool.not_not]; exact g
        rw [h] at h2; cases h2
      rw [show decRP s (mM (mT (m0 15) (rdT s q).1) (rdN s 2 (rdT s q).2).1, (rdN s 2 (rdT s q).2).2) = MD.df from if_neg hg, show derRP s (mM (mT (m0 15) (rdT s q).1) (rdN s 2 (rdT s q).2).1, (rdN s 2 (rdT s q).2).2) = 11 from if_neg hg]
      conv => whnf
      refine ⟨_, ?_, rfl⟩
      rfl
    · have hg : okRD s (mM (mT (m0 15) (rdT s q).1) (rdN s 2 (rdT s q).2).1, (rdN s 2 (rdT s q).2).2) = true := by unfold okRD; rw [Bool.not_eq_true']; exact g
      rw [show decRP s (mM (mT (m0 15) (rdT s q).1) (rdN s 2 (rdT s q).2).1, (rdN s 2 (rdT s q).2).2) = (mM (mT (m0 15) (rdT s q).1) (rdN s 2 (rdT s q).2).1, (rdN s 2 (rdT s q).2).2).1 from if_pos hg, show derRP s (mM (mT (m0 15) (rdT s q).1) (rdN s 2 (rdT s q).2).1, (rdN s 2 (rdT s q).2).2) = 0 from if_pos hg]
      conv => whnf
      refine ⟨_, ?_, rfl⟩
      rfl
  have a15 : ¬ k = 15 := of_decide_eq_false a
  clear a
  conv => whnf
  refine ⟨fun a => ?_, fun a => ?_⟩
  · have a : k = 16 := of_decide_eq_true a
    subst a
    obtain rfl : F = (mR (m0 16) (rS' s q.1).1, (q.1 + (rS' s q.1).2, q.2 || !(decS s q.1).isSome)) := hF.symm
    conv => whnf
    have hl := rS_le hs hy
    refine call1 (refrule_Decode s q.1 hs) rfl ?_
    conv => whnf
    refine any0 ?_
    conv => whnf
    refine ⟨.inl (by kernel_rfl), after0 ?_⟩
    conv => whnf
    rw [show (decS s q.1).getD (R0, 0) = rS' s q.1 from rfl, wr64 (q.1 + ((rS' s q.1).2 : Int)) (by have := hy.1; omega) (by omega)]
    conv => whnf
    refine callg0 (fun _ => ref24_Good (mR (m0 16) (rS' s q.1).1)) rfl ?_
    conv => whnf
    refine ⟨fun g => ?_, fun g => ?_⟩
    · have hg : ¬ okRD s (mR (m0 16) (rS' s q.1).1, (q.1 + (rS' s q.1).2, q.2 || !(decS s q.1).isSome)) = true := fun h => by
        have h2 : (!okRD s (mR (m0 16) (rS' s q.1).1, (q.1 + (rS' s q.1).2, q.2 || !(decS s q.1).isSome))) = true := by unfold okRD; rw [Bool.not_not]; exact g
        rw [h] at h2; cases h2
      rw [show decRP s (mR (m0 16) (rS' s q.1).1, (q.1 + (rS' s q.1).2, q.2 || !(decS s q.1).isSome)) = MD.df from if_neg hg, show derRP s (mR (m0 16) (rS' s q.1).1, (q.1 + (rS' s q.1).2, q.2 || !(decS s q.1).isSome)) = 11 from if_neg hg]
      conv => whnf
      refine ⟨_, ?_, rfl⟩
      rfl
    · have hg : okRD s (mR (m0 16) (rS' s q.1).1, (q.1 + (rS' s q.1).2, q.2 || !(decS s q.1).isSome)) = true := by unfold okRD; rw [Bool.not_eq_true']; exact g
      rw [show decRP s (mR (m0 16) (rS' s q.1).1, (q.1 + (rS' s q.1).2, q.2 || !(decS s q.1).isSome)) = (mR (m0 16) (rS' s q.1).1, (q.1 + (rS' s q.1).2, q.2 || !(decS s q.1).isSome)).1 from if_pos hg, show derRP s (mR (m0 16) (rS' s q.1).1, (q.1 + (rS' s q.1).2, q.2 || !(decS s q.1).isSome)) = 0 from if_pos hg]
      conv => whnf
      refine ⟨_, ?_, rfl⟩
      rfl
  have a16 : ¬ k = 16 := of_decide_eq_false a
  clear a
  conv => whnf
  refine ⟨fun a => ?_, fun a => ?_⟩
  · have a : k = 17 := of_decide_eq_true a
    subst a
    obtain rfl : F = (mM (m0 17) (rdN s 1000000 q).1, (rdN s 1000000 q).2) := hF.symm
    conv => whnf
    refine callp0 [1] rfl rfl (rd_Num s hs 1000000 q hy) rfl rfl rfl rfl rfl ?_
    conv => whnf
    refine callg0 (fun _ => ref24_Good (mM (m0 17) (rdN s 1000000 q).1)) rfl ?_
    conv => whnf
    refine ⟨fun g => ?_, fun g => ?_⟩
    · have hg : ¬ okRD s (mM (m0 17) (rdN s 1000000 q).1, (rdN s 1000000 q).2) = true := fun h => by
        have h2 : (!okRD s (mM (m0 17) (rdN s 1000000 q).1, (rdN s 1000000 q).2)) = true := by unfold okRD; rw [Bool.not_not]; exact g
        rw [h] at h2; cases h2
      rw [show decRP s (mM (m0 17) (rdN s 1000000 q).1, (rdN s 1000000 q).2) = MD.df from if_neg hg, show derRP s (mM (m0 17) (rdN s 1000000 q).1, (rdN s 1000000 q).2) = 11 from if_neg hg]
      conv => whnf
      refine ⟨_, ?_, rfl⟩
      rfl
    · have hg : okRD s (mM (m0 17) (rdN s 1000000 q).1, (rdN s 1000000 q).2) = true := by unfold okRD; rw [Bool.not_eq_true']; exact g
      rw [show decRP s (mM (m0 17) (rdN s 1000000 q).1, (rdN s 1000000 q).2) = (mM (m0 17) (rdN s 1000000 q).1, (rdN s 1000000 q).2).1 from if_pos hg, show derRP s (mM (m0 17) (rdN s 1000000 q).1, (rdN s 1000000 q).2) = 0 from if_pos hg]
      conv => whnf
      refine ⟨_, ?_, rfl⟩
      rfl
  have a17 : ¬ k = 17 := of_decide_eq_false a
  clear a
  conv => whnf
  refine ⟨fun a => ?_, fun a => ?_⟩
  · have a : k = 18 := of_decide_eq_true a
    subst a
    obtain rfl : F = (mNm (mT (m0 18) (rdT s q).1) (rdT s (rdT s q).2).1, (rdT s (rdT s q).2).2) := hF.symm
    conv => whnf
    refine callp0 [1] rfl rfl (rd_Text s hs q hy) rfl rfl rfl rfl rfl ?_
    conv => whnf
    refine callp0 [1] rfl rfl (rd_Text s hs (rdT s q).2 (rdT_in hy)) rfl rfl rfl rfl rfl ?_
    conv => whnf
    refine callg0 (fun _ => ref24_Good (mNm (mT (m0 18) (rdT s q).1) (rdT s (rdT s q).2).1)) rfl ?_
    conv => whnf
    refine ⟨fun g => ?_, fun g => ?_⟩
    · have hg : ¬ okRD s (mNm (mT (m0 18) (rdT s q).1) (rdT s (rdT s q).2).1, (rdT s (rdT s q).2).2) = true := fun h => by
        have h2 : (!okRD s (mNm (mT (m0 18) (rdT s q).1) (rdT s (rdT s q).2).1, (rdT s (rdT s q).2).2)) = true := by unfold okRD; rw [Bool.not_not]; exact g
        rw [h] at h2; cases h2
      rw [show decRP s (mNm (mT (m0 18) (rdT s q).1) (rdT s (rdT s q).2).1, (rdT s (rdT s q).2).2) = MD.df from if_neg hg, show derRP s (mNm (mT (m0 18) (rdT s q).1) (rdT s (rdT s q).2).1, (rdT s (rdT s q).2).2) = 11 from if_neg hg]
      conv => whnf
      refine ⟨_, ?_, rfl⟩
      rfl
    · have hg : okRD s (mNm (mT (m0 18) (rdT s q).1) (rdT s (rdT s q).2).1, (rdT s (rdT s q).2).2) = true := by unfold okRD; rw [Bool.not_eq_true']; exact g
      rw [show decRP s (mNm (mT (m0 18) (rdT s q).1) (rdT s (rdT s q).2).1, (rdT s (rdT s q).2).2) = (mNm (mT (m0 18) (rdT s q).1) (rdT s (rdT s q).2).1, (rdT s (rdT s q).2).2).1 from if_pos hg, show derRP s (mNm (mT (m0 18) (rdT s q).1) (rdT s (rdT s q).2).1, (rdT s (rdT s q).2).2) = 0 from if_pos hg]
      conv => whnf
      refine ⟨_, ?_, rfl⟩
      rfl
  have a18 : ¬ k = 18 := of_decide_eq_false a
  clear a
  conv => whnf
  refine ⟨fun a => ?_, fun a => ?_⟩
  · have a : k = 19 := of_decide_eq_true a
    subst a
    obtain rfl : F = (mNm (mT (m0 19) (rdT s q).1) (rdT s (rdT s q).2).1, (rdT s (rdT s q).2).2) := hF.symm
    conv => whnf
    refine callp0 [1] rfl rfl (rd_Text s hs q hy) rfl rfl rfl rfl rfl ?_
    conv => whnf
    refine callp0 [1] rfl rfl (rd_Text s hs (rdT s q).2 (rdT_in hy)) rfl rfl rfl rfl rfl ?_
    conv => whnf
    refine callg0 (fun _ => ref24_Good (mNm (mT (m0 19) (rdT s q).1) (rdT s (rdT s q).2).1)) rfl ?_
    conv => whnf
    refine ⟨fun g => ?_, fun g => ?_⟩
    · have hg : ¬ okRD s (mNm (mT (m0 19) (rdT s q).1) (rdT s (rdT s q).2).1, (rdT s (rdT s q).2).2) = true := fun h => by
        have h2 : (!okRD s (mNm (mT (m0 19) (rdT s q).1) (rdT s (rdT s q).2).1, (rdT s (rdT s q).2).2)) = true := by unfold okRD; rw [Bool.not_not]; exact g
        rw [h] at h2; cases h2
      rw [show decRP s (mNm (mT (m0 19) (rdT s q).1) (rdT s (rdT s q).2).1, (rdT s (rdT s q).2).2) = MD.df from if_neg hg, show derRP s (mNm (mT (m0 19) (rdT s q).1) (rdT s (rdT s q).2).1, (rdT s (rdT s q).2).2) = 11 from if_neg hg]
      conv => whnf
      refine ⟨_, ?_, rfl⟩
      rfl
    · have hg : okRD s (mNm (mT (m0 19) (rdT s q).1) (rdT s (rdT s q).2).1, (rdT s (rdT s q).2).2) = true := by unfold okRD; rw [Bool.not_eq_true']; exact g
      rw [show decRP s (mNm (mT (m0 19) (rdT s q).1) (rdT s (rdT s q).2).1, (rdT s (rdT s q).2).2) = (mNm (mT (m0 19) (rdT s q).1) (rdT s (rdT s q).2).1, (rdT s (rdT s q).2).2).1 from if_pos hg, show derRP s (mNm (mT (m0 19) (rdT s q).1) (rdT s (rdT s q).2).1, (rdT s (rdT s q).2).2) = 0 from if_pos hg]
      conv => whnf
      refine ⟨_, ?_, rfl⟩
      rfl
  have a19 : ¬ k = 19 := of_decide_eq_false a
  clear a
  conv => whnf
  have hn : gt (d := .str) cmdL k = [] := by
    have : ∀ k' : Int, ¬ k' = 4 → ¬ k' = 5 → ¬ k' = 6 → ¬ k' = 7 → ¬ k' = 8 → ¬ k' = 9 → ¬ k' = 10 → ¬ k' = 11 → ¬ k' = 12 → ¬ k' = 13 → ¬ k' = 14 → ¬ k' = 15 → ¬ k' = 16 → ¬ k' = 17 → ¬ k' = 18 → ¬ k' = 19 → gt (d := .str) cmdL k' = [] := by
      intro k' b4 b5 b6 b7 b8 b9 b10 b11 b12 b13 b14 b15 b16 b17 b18 b19
      show cmdL.getD k'.toNat [] = []
      rcases Nat.lt_or_ge k'.toNat 21 with h | h
      · have : k'.toNat = 0 ∨ k'.toNat = 1 ∨ k'.toNat = 2 ∨ k'.toNat = 3 ∨ k'.toNat = 20 := by omega
        rcases this with h | h | h | h | h <;> rw [h] <;> rfl
      · rw [List.getD_eq_getElem?_getD, List.getElem?_eq_none h]; rfl
    exact this k a4 a5 a6 a7 a8 a9 a10 a11 a12 a13 a14 a15 a16 a17 a18 a19
  rw [hn] at hF
  obtain rfl : F = (m0 k, q) := hF.symm
  conv => whnf
  refine callg0 (fun _ => ref24_Good (m0 k)) rfl ?_
  conv => whnf
  refine ⟨fun g => ?_, fun g => ?_⟩
  · have hg : ¬ okRD s (m0 k, q) = true := fun h => by
      have h2 : (!okRD s (m0 k, q)) = true := by unfold okRD; rw [Bool.not_not]; exact g
      rw [h] at h2; cases h2
    rw [show decRP s (m0 k, q) = MD.df from if_neg hg, show derRP s (m0 k, q) = 11 from if_neg hg]
    conv => whnf
    refine ⟨_, ?_, rfl⟩
    rfl
  · have hg : okRD s (m0 k, q) = true := by unfold okRD; rw [Bool.not_eq_true']; exact g
    rw [show decRP s (m0 k, q) = (m0 k, q).1 from if_pos hg, show derRP s (m0 k, q) = 0 from if_pos hg]
    conv => whnf
    refine ⟨_, ?_, rfl⟩
    rfl
theorem ref24_Decode (s : List UInt8) (hs : s.length ≤ 1000000) : FnD Tryd.prog 17 [.c (.str s)] (· = .tup [(true, mc (decRP s (rdM s))), (false, [.int .i64 (derRP s (rdM s))])]) :=
  dec_tup (ref24_Decode' s hs)
end Go.Proofs.YtnldokebmfojeaaDoor
