/- Several texts of the proof, one behind the other; put together by a program of the session (mrg.py). Own work. -/
import Derived.Test.YtmdjonckcapkeaaGreatDoorRows
import Derived.WalkKit
import Derived.ProofKit
import Derived.OpenShut
import Derived.ShutString
import Derived.ChangeOld
import Derived.Below
import Derived.SizedLaws
import Derived.ChangeArms
import Derived.ChangeSame
import Derived.ChangeVars
import Derived.JoinedOf
import Derived.LaidLaws
import Derived.LaidHandle
import Derived.LaidSub
import Derived.Handed
import Derived.KernelRfl
import Derived.Test.YtmdjonckcapkeaaGreatDoorPart7
/- The walks of the reference's reading of commands. Own work. -/
set_option linter.unusedVariables false
set_option maxRecDepth 100000
namespace Go.Proofs.YtmdjonckcapkeaaGreatDoor
open Go Go.RowKit OE

/-- bytes that are read: where, and whether something was bad -/
abbrev obR (s : List UInt8) (q : Int × Bool) : List (Nat × Ob) := [(0, .cells 92 [.str s, .int .i64 q.1, .bool (.sym q.2)])]
def rdY (s : List UInt8) (q : Int × Bool) : Int × Int × Bool := if q.2 = true ∨ (s.length : Int) ≤ q.1 then (0, q.1, true) else (bt s q.1, q.1 + 1, q.2)
def rdN (s : List UInt8) (most : Int) (q : Int × Bool) : Int × Int × Bool := if q.2 = true ∨ (Num.getN s q.1).isSome = false ∨ most < ((nS s q.1).1 : Int) then (0, q.1, true) else (IntKind.wrap .i64 (nS s q.1).1, q.1 + (nS s q.1).2, q.2)
def rdT (s : List UInt8) (q : Int × Bool) : List UInt8 × Int × Bool := if q.2 = true ∨ (Num.getT s q.1 16).isSome = false then ([], q.1, true) else ((tS s q.1).1, q.1 + (tS s q.1).2, q.2)
def rdV (s : List UInt8) (q : Int × Bool) : VD.T × Int × Bool := if q.2 = true ∨ (decV s q.1).isSome = false then (VD.df, q.1, true) else ((vS' s q.1).1, q.1 + (vS' s q.1).2, q.2)
/-- where reading stands, is within the bytes -/
def inS (s : List UInt8) (q : Int × Bool) : Prop := 0 ≤ q.1 ∧ q.1 ≤ s.length
theorem rdY_in {s : List UInt8} {q : Int × Bool} (h : inS s q) : inS s (rdY s q).2 := by
  unfold rdY
  obtain ⟨h0, h1⟩ := h
  split
  · exact ⟨h0, h1⟩
  · rename_i hc
    have : q.1 < s.length := Int.not_le.1 fun h => hc (.inr h)
    exact ⟨by dsimp only; omega, by dsimp only; omega⟩
theorem rdN_in {s : List UInt8} {q : Int × Bool} {most : Int} (h : inS s q) : inS s (rdN s most q).2 := by
  unfold rdN
  obtain ⟨h0, h1⟩ := h
  split
  · exact ⟨h0, h1⟩
  · rename_i hc
    have hs : (Num.getN s q.1).isSome = true := by
      cases hh : (Num.getN s q.1).isSome with
      | true => rfl
      | false => exact (hc (.inr (.inl hh))).elim
    have := nS_bd hs
    exact ⟨by dsimp only; omega, by dsimp only; omega⟩
theorem rdT_in {s : List UInt8} {q : Int × Bool} (h : inS s q) : inS s (rdT s q).2 := by
  unfold rdT
  obtain ⟨h0, h1⟩ := h
  split
  · exact ⟨h0, h1⟩
  · rename_i hc
    have hs : (Num.getT s q.1 16).isSome = true := by
      cases hh : (Num.getT s q.1 16).isSome with
      | true => rfl
      | false => exact (hc (.inr hh)).elim
    have := tS_bd hs
    exact ⟨by dsimp only; omega, by dsimp only; omega⟩
theorem rdV_in {s : List UInt8} {q : Int × Bool} (h : inS s q) : inS s (rdV s q).2 := by
  unfold rdV
  obtain ⟨h0, h1⟩ := h
  split
  · exact ⟨h0, h1⟩
  · rename_i hc
    have hs : (decV s q.1).isSome = true := by
      cases hh : (decV s q.1).isSome with
      | true => rfl
      | false => exact (hc (.inr hh)).elim
    have := vS_bd hs
    exact ⟨by dsimp only; omega, by dsimp only; omega⟩
theorem rd_Byte (s : List UInt8) (hs : s.length ≤ 100000000) (q : Int × Bool) (h : inS s q) : FnP Tryz.prog 38 [.c (.ptr 0 0)] (obR s q) 1 kp0 (.c (.int .i64 (rdY s q).1)) (obR s (rdY s q).2) 1 := by
  obtain ⟨h0, h1⟩ := h
  refine fnP noI Tryz.func38 rfl rfl rfl rfl ?_
  conv => whnf
  refine any0 ?_
  conv => whnf
  refine ⟨.inl (by kernel_rfl), after0 ?_⟩
  conv => whnf
  refine ⟨fun a => ?_, fun a => ?_⟩
  · rw [show rdY s q = (0, q.1, true) from if_pos (by simpa using a)]
    conv => whnf
    refine ⟨rfl, ?_, ?_, ?_⟩ <;> (repeat' apply And.intro) <;> first | exact trivial | rfl | assumption
  have a : ¬ (q.2 = true ∨ (s.length : Int) ≤ q.1) := by
    rw [Bool.or_eq_false_iff, decide_eq_false_iff_not] at a
    rintro (h | h)
    · rw [h] at a; cases a.1
    · exact a.2 h
  rw [show rdY s q = (bt s q.1, q.1 + 1, q.2) from if_neg a]
  have hlt : q.1 < s.length := Int.not_le.1 fun h => a (.inr h)
  have e1 : IntKind.wrap .i64 (q.1 + 1) = q.1 + 1 := wr64 _ (by omega) (by omega)
  have e2 : IntKind.wrap .i64 (q.1 + 1 - 1) = q.1 := by rw [wr64 _ (by omega) (by omega)]; omega
  have hb := bt_rng s q.1
  have e3 : IntKind.wrap .i64 (bt s q.1) = bt s q.1 := wr64 _ (by omega) (by omega)
  conv => whnf
  rw [e1]
  refine any0 ?_
  conv => whnf
  rw [e2]
  refine ⟨⟨h0, hlt⟩, ?_⟩
  conv => whnf
  rw [e3]
  refine ⟨.inl (by kernel_rfl), after0 ?_⟩
  conv => whnf
  refine ⟨rfl, ?_, ?_, ?_⟩ <;> (repeat' apply And.intro) <;> first | exact trivial | rfl | assumption
theorem yesno {a b : Bool} {X Y : Prop} [Decidable X] (h : (a || !b || decide X) = false) : ¬ (a = true ∨ b = false ∨ X) := by
  rw [Bool.or_eq_false_iff, Bool.or_eq_false_iff, decide_eq_false_iff_not] at h
  rintro (e | e | e)
  · rw [e] at h; cases h.1.1
  · rw [e] at h; cases h.1.2
  · exact h.2 e
theorem yesyes {a b : Bool} {X : Prop} [Decidable X] (h : (a || !b || decide X) = true) : a = true ∨ b = false ∨ X := by
  rw [Bool.or_eq_true, Bool.or_eq_true, decide_eq_true_eq, Bool.not_eq_true'] at h
  rcases h with (h | h) | h
  · exact .inl h
  · exact .inr (.inl h)
  · exact .inr (.inr h)
theorem yesno2 {a b : Bool} (h : (a || !b) = false) : ¬ (a = true ∨ b = false) := by
  cases a <;> cases b <;> simp_all
theorem yesyes2 {a b : Bool} (h : (a || !b) = true) : a = true ∨ b = false := by
  cases a <;> cases b <;> simp_all
theorem not_false' {b : Bool} (h : ¬ b = false) : b = true := by cases b <;> simp_all
theorem rd_Num (s : List UInt8) (hs : s.length ≤ 100000000) (most : Int) (q : Int × Bool) (h : inS s q) : FnP Tryz.prog 41 [.c (.ptr 0 0), .c (.int .u64 most)] (obR s q) 1 kp0 (.c (.int .i64 (rdN s most q).1)) (obR s (rdN s most q).2) 1 := by
  obtain ⟨h0, h1⟩ := h
  refine fnP noI Tryz.func41 rfl rfl rfl rfl ?_
  conv => whnf
  refine any0 ?_
  conv => whnf
  refine callr0 (refnum_Get s q.1 (Nat.le_trans hs (by decide))) rfl ?_
  conv => whnf
  refine ⟨.inl (by kernel_rfl), after0 ?_⟩
  conv => whnf
  refine ⟨fun a => ?_, fun a => ?_⟩
  · rw [show rdN s most q = (0, q.1, true) from if_pos (yesyes a)]
    conv => whnf
    refine ⟨rfl, ?_, ?_, ?_⟩ <;> (repeat' apply And.intro) <;> first | exact trivial | rfl | assumption
  have a := yesno (Y := True) a
  have hl := nS_bd (not_false' fun h => a (.inr (.inl h)))
  have e1 : IntKind.wrap .i64 (q.1 + ((nS s q.1).2 : Int)) = q.1 + ((nS s q.1).2 : Int) := wr64 _ (by omega) (by omega)
  rw [show rdN s most q = (IntKind.wrap .i64 (nS s q.1).1, q.1 + (nS s q.1).2, q.2) from if_neg a]
  rw [show (Num.getN s q.1).getD (0, 0) = nS s q.1 from rfl]
  conv => whnf
  refine any0 ?_
  conv => whnf
  refine ⟨.inl (by kernel_rfl), after0 ?_⟩
  conv => whnf
  rw [e1]
  refine ⟨rfl, ?_, ?_, ?_⟩ <;> (repeat' apply And.intro) <;> first | exact trivial | rfl | assumption
theorem rd_Text (s : List UInt8) (hs : s.length ≤ 100000000) (q : Int × Bool) (h : inS s q) : FnP Tryz.prog 39 [.c (.ptr 0 0), .c (.int .i64 16)] (obR s q) 1 kp0 (.c (.str (rdT s q).1)) (obR s (rdT s q).2) 1 := by
  obtain ⟨h0, h1⟩ := h
  refine fnP noI Tryz.func39 rfl rfl rfl rfl ?_
  conv => whnf
  refine any0 ?_
  conv => whnf
  refine callr0 (refnum_GetText s q.1 16 (Nat.le_trans hs (by decide)) (by decide)) rfl ?_
  conv => whnf
  refine ⟨.inl (by kernel_rfl), after0 ?_⟩
  conv => whnf
  refine ⟨fun a => ?_, fun a => ?_⟩
  · rw [show rdT s q = ([], q.1, true) from if_pos (yesyes2 a)]
    conv => whnf
    refine ⟨rfl, ?_, ?_, ?_⟩ <;> (repeat' apply And.intro) <;> first | exact trivial | rfl | assumption
  have a := yesno2 a
  have hl := tS_bd (not_false' fun h => a (.inr h))
  have e1 : IntKind.wrap .i64 (q.1 + ((tS s q.1).2 : Int)) = q.1 + ((tS s q.1).2 : Int) := wr64 _ (by omega) (by omega)
  rw [show rdT s q = ((tS s q.1).1, q.1 + (tS s q.1).2, q.2) from if_neg a]
  rw [show (Num.getT s q.1 16).getD ([], 0) = tS s q.1 from rfl]
  conv => whnf
  refine any0 ?_
  conv => whnf
  refine ⟨.inl (by kernel_rfl), after0 ?_⟩
  conv => whnf
  rw [e1]
  refine ⟨rfl, ?_, ?_, ?_⟩ <;> (repeat' apply And.intro) <;> first | exact trivial | rfl | assumption
theorem rd_Val (s : List UInt8) (hs : s.length ≤ 100000000) (q : Int × Bool) (h : inS s q) : FnP Tryz.prog 42 [.c (.ptr 0 0)] (obR s q) 1 kp0 (.agg (vc (rdV s q).1)) (obR s (rdV s q).2) 1 := by
  obtain ⟨h0, h1⟩ := h
  refine fnP noI Tryz.func42 rfl rfl rfl rfl ?_
  conv => whnf
  refine any0 ?_
  conv => whnf
  refine callr0 (refval_Decode s q.1 hs) rfl ?_
  conv => whnf
  refine ⟨.inl (by kernel_rfl), after0 ?_⟩
  conv => whnf
  refine ⟨fun a => ?_, fun a => ?_⟩
  · rw [show rdV s q = (VD.df, q.1, true) from if_pos (yesyes2 a)]
    conv => whnf
    refine ⟨rfl, ?_, ?_, ?_⟩ <;> (repeat' apply And.intro) <;> first | exact trivial | rfl | assumption
  have a := yesno2 a
  have hl := vS_bd (not_false' fun h => a (.inr h))
  have e1 : IntKind.wrap .i64 (q.1 + ((vS' s q.1).2 : Int)) = q.1 + ((vS' s q.1).2 : Int) := wr64 _ (by omega) (by omega)
  rw [show rdV s q = ((vS' s q.1).1, q.1 + (vS' s q.1).2, q.2) from if_neg a]
  rw [show (decV s q.1).getD (V0, 0) = vS' s q.1 from rfl]
  conv => whnf
  refine any0 ?_
  conv => whnf
  refine ⟨.inl (by kernel_rfl), after0 ?_⟩
  conv => whnf
  rw [e1]
  refine ⟨rfl, ?_, ?_, ?_⟩ <;> (repeat' apply And.intro) <;> first | exact trivial | rfl | assumption
/-- a field of a change that is read -/
def rdOf (s : List UInt8) (st : OD.T × Int × Bool) (f : Int) : OD.T × Int × Bool :=
  if f = 116 then (oT st.1 (rdT s st.2).1, (rdT s st.2).2)
  else if f = 110 then (oN st.1 (rdT s st.2).1, (rdT s st.2).2)
  else if f = 105 then (oI st.1 (rdN s 4611686018427387903 st.2).1, (rdN s 4611686018427387903 st.2).2)
  else if f = 97 then (oF st.1 (rdN s 4611686018427387903 st.2).1, (rdN s 4611686018427387903 st.2).2)
  else if f = 98 then (oE st.1 (rdN s 4611686018427387903 st.2).1, (rdN s 4611686018427387903 st.2).2)
  else if f = 119 then (oVl st.1 (rdV s st.2).1, (rdV s st.2).2)
  else (oC st.1 (decide ((rdY s st.2).1 = 1)), (rdY s st.2).2.1, (rdY s st.2).2.2 || decide (1 < (rdY s st.2).1))
def opk (k : Int) : List UInt8 := if k = 1 then [116] else if k = 2 then [105, 99] else if k = 3 then [116, 97, 98] else if k = 4 then [105] else if k = 5 then [105, 110, 119] else []
def rdO (s : List UInt8) (q : Int × Bool) : OD.T × Int × Bool := (opk (rdY s q).1).foldl (fun st f => rdOf s st f.toNat) (o0 (rdY s q).1, (rdY s q).2)
theorem rd_Op (s : List UInt8) (hs : s.length ≤ 100000000) (q : Int × Bool) (h : inS s q) : FnP Tryz.prog 40 [.c (.ptr 0 0)] (obR s q) 1 kp0 (.agg (oc (rdO s q).1)) (obR s (rdO s q).2) 1 := by
  have hy := rdY_in h
  unfold rdO
  refine fnP noI Tryz.func40 rfl rfl rfl rfl ?_
  conv => whnf
  refine callp0 [0] rfl rfl (rd_Byte s hs q h) rfl rfl rfl rfl rfl ?_
  conv => whnf
  generalize rdY s q = y at hy
  obtain ⟨k, q1⟩ := y
  dsimp only at hy
  refine ⟨fun a => ?_, fun a => ?_⟩
  · have a : k = 1 := of_decide_eq_true a
    subst a
    conv => whnf
    refine callp0 [0] rfl rfl (rd_Text s hs q1 hy) rfl rfl rfl rfl rfl ?_
    conv => whnf
    refine ⟨rfl, ?_, ?_, ?_⟩ <;> (repeat' apply And.intro) <;> first | exact trivial | rfl | assumption
  have a1 : ¬ k = 1 := of_decide_eq_false a
  clear a
  conv => whnf
  refine ⟨fun a => ?_, fun a => ?_⟩
  · have a : k = 2 := of_decide_eq_true a
    subst a
    conv => whnf
    refine callp0 [0] rfl rfl (rd_Num s hs 4611686018427387903 q1 hy) rfl rfl rfl rfl rfl ?_
    conv => whnf
    refine callp0 [0] rfl rfl (rd_Byte s hs _ (rdN_in hy)) rfl rfl rfl rfl rfl ?_
    conv => whnf
    refine ⟨rfl, ?_, ?_, ?_⟩ <;> (repeat' apply And.intro) <;> first | exact trivial | rfl | assumption
  have a2 : ¬ k = 2 := of_decide_eq_false a
  clear a
  conv => whnf
  refine ⟨fun a => ?_, fun a => ?_⟩
  · have a : k = 3 := of_decide_eq_true a
    subst a
    conv => whnf
    refine callp0 [0] rfl rfl (rd_Text s hs q1 hy) rfl rfl rfl rfl rfl ?_
    conv => whnf
    refine callp0 [0] rfl rfl (rd_Num s hs 4611686018427387903 _ (rdT_in hy)) rfl rfl rfl rfl rfl ?_
    conv => whnf
    refine callp0 [0] rfl rfl (rd_Num s hs 4611686018427387903 _ (rdN_in (rdT_in hy))) rfl rfl rfl rfl rfl ?_
    conv => whnf
    refine ⟨rfl, ?_, ?_, ?_⟩ <;> (repeat' apply And.intro) <;> first | exact trivial | rfl | assumption
  have a3 : ¬ k = 3 := of_decide_eq_false a
  clear a
  conv => whnf
  refine ⟨fun a => ?_, fun a => ?_⟩
  · have a : k = 4 := of_decide_eq_true a
    subst a
    conv => whnf
    refine callp0 [0] rfl rfl (rd_Num s hs 4611686018427387903 q1 hy) rfl rfl rfl rfl rfl ?_
    conv => whnf
    refine ⟨rfl, ?_, ?_, ?_⟩ <;> (repeat' apply And.intro) <;> first | exact trivial | rfl | assumption
  have a4 : ¬ k = 4 := of_decide_eq_false a
  clear a
  conv => whnf
  refine ⟨fun a => ?_, fun a => ?_⟩
  · have a : k = 5 := of_decide_eq_true a
    subst a
    conv => whnf
    refine callp0 [0] rfl rfl (rd_Num s hs 4611686018427387903 q1 hy) rfl rfl rfl rfl rfl ?_
    conv => whnf
    refine callp0 [0] rfl rfl (rd_Text s hs _ (rdN_in hy)) rfl rfl rfl rfl rfl ?_
    conv => whnf
    refine callp0 [0] rfl rfl (rd_Val s hs _ (rdT_in (rdN_in hy))) rfl rfl rfl rfl rfl ?_
    conv => whnf
    refine ⟨rfl, ?_, ?_, ?_⟩ <;> (repeat' apply And.intro) <;> first | exact trivial | rfl | assumption
  have a5 : ¬ k = 5 := of_decide_eq_false a
  rw [show opk k = [] by unfold opk; rw [if_neg a1, if_neg a2, if_neg a3, if_neg a4, if_neg a5]]
  conv => whnf
  refine ⟨rfl, ?_, ?_, ?_⟩ <;> (repeat' apply And.intro) <;> first | exact trivial | rfl | assumption
/-- a field of a command that is read -/
def rdMf (s : List UInt8) (st : MD.T × Int × Bool) (f : Int) : MD.T × Int × Bool :=
  if f = 116 ∨ f = 101 then (mT st.1 (rdT s st.2).1, (rdT s st.2).2)
  else if f = 110 then (mNm st.1 (rdT s st.2).1, (rdT s st.2).2)
  else if f = 105 then (mI st.1 (rdN s 4611686018427387903 st.2).1, (rdN s 4611686018427387903 st.2).2)
  else if f = 118 ∨ f = 119 then (mVl st.1 (rdV s st.2).1, (rdV s st.2).2)
  else if f = 120 then (mW st.1 (rdV s st.2).1, (rdV s st.2).2)
  else if f = 107 then (mM st.1 (rdN s 2 st.2).1, (rdN s 2 st.2).2)
  else if f = 109 then (mM st.1 (rdN s 1000000 st.2).1, (rdN s 1000000 st.2).2)
  else if f = 114 then (mR st.1 (rS' s st.2.1).1, st.2.1 + (rS' s st.2.1).2, st.2.2 || !(decS s st.2.1).isSome)
  else (sO st.1 (rdO s st.2).1, (rdO s st.2).2)
def rdM (s : List UInt8) : MD.T × Int × Bool := (gt (d := .str) cmdL (rdY s (0, false)).1).foldl (fun st f => rdMf s st f.toNat) (m0 (rdY s (0, false)).1, (rdY s (0, false)).2)
def okRD (s : List UInt8) (p : MD.T × Int × Bool) : Bool := !(p.2.2 || !decide (p.2.1 = (s.length : Int)) || !refgood p.1)
def decRP (s : List UInt8) (p : MD.T × Int × Bool) : MD.T := if okRD s p = true then p.1 else MD.df
def derRP (s : List UInt8) (p : MD.T × Int × Bool) : Int := if okRD s p = true then 0 else 11
end Go.Proofs.YtmdjonckcapkeaaGreatDoor
/- The walk of the reference's Decode of commands. Printed by genwdec.py. Own work. -/
set_option linter.unusedVariables false
set_option maxRecDepth 100000
namespace Go.Proofs.YtmdjonckcapkeaaGreatDoor
open Go Go.RowKit OE

theorem rl_c {x : Cx} {b c : BE} (h : b.v = c.v) : ∀ (A B : List C) (l : List Value), RL (RC x) (A ++ .bool b :: B) l → RL (RC x) (A ++ .bool c :: B) l
  | [], B, [], hv => hv.elim
  | [], B, v :: l, ⟨h1, h2⟩ => ⟨by show v = .bool c.v; rw [← h]; exact h1, h2⟩
  | a :: A, B, [], hv => hv.elim
  | a :: A, B, v :: l, ⟨h1, h2⟩ => ⟨h1, rl_c h A B l h2⟩
/-- a command's cells, of which one truth may stand otherwise -/
def mcB (m : MD.T) (b : BE) : List C := (mc m).take 20 ++ .bool b :: (mc m).drop 21
def cascM (m : MD.T) : Bool := (mOp m).2.2.2.2.2.2.2
abbrev decPRw (m : MD.T) (n : Int) (x : SV) : Prop := ∃ b : BE, b.v = cascM m ∧ x = .tup [(true, mcB m b), (false, [.int .i64 n])]
theorem dec_tup {P : Program} {f : Nat} {args : List SV} {m : MD.T} {n : Int} (h : FnD P f args (decPRw m n)) : FnD P f args (· = .tup [(true, mc m), (false, [.int .i64 n])]) :=
  h.res fun r hr w ok v hv => by
    obtain ⟨b, hb, rfl⟩ := hr
    obtain ⟨vs, e, hl⟩ := hv
    refine ⟨vs, e, ?_⟩
    generalize vs.toList = l at hl
    cases l with
    | nil => exact hl.elim
    | cons v1 l =>
      refine ⟨?_, hl.2⟩
      obtain ⟨us, e1, h1⟩ := (show ∃ us, v1 = .agg us ∧ RL (RC (DX w ok)) (mcB m b) us.toList from hl.1)
      exact (show ∃ us, v1 = .agg us ∧ RL (RC (DX w ok)) (mc m) us.toList from ⟨us, e1, rl_c (c := .sym (cascM m)) hb ((mc m).take 20) ((mc m).drop 21) us.toList h1⟩)
theorem rS_le {s : List UInt8} (hs : s.length ≤ 100000000) {q : Int × Bool} (h : inS s q) : q.1 + ((rS' s q.1).2 : Int) ≤ s.length := by
  cases hh : (decS s q.1).isSome with
  | true => exact rS_bd hh
  | false =>
    have e : decS s q.1 = none := by simpa using hh
    unfold rS'
    rw [e]
    show q.1 + ((0 : Nat) : Int) ≤ _
    have := h.2
    omega
theorem ref24_Decode' (s : List UInt8) (hs : s.length ≤ 100000000) : FnD Tryz.prog 26 [.c (.str s)] (decPRw (decRP s (rdM s)) (derRP s (rdM s))) := by
  have h0 : inS s (0, false) := ⟨Int.le_refl 0, Int.natCast_nonneg _⟩
  have hy := rdY_in h0
  unfold rdM
  refine fn0 Tryz.func26 rfl rfl rfl ?_
  conv => whnf
  refine ⟨fun _ => weaken (st := ⟨[(0, .c (.str s)), (2, .c (.ptr 0 0)), (3, .c (.int .i64 0)), (4, .c (.ptr 1 0)), (10, .c (.ptr 1 0))], [(0, .cells 55 (mc MD.df)), (1, .cells 92 [.str s, .int .i64 0, .bool (.sym false)])], 2⟩) ?_ (go0 ?_)⟩
  · (conv => whnf); refine ⟨rfl, ?_, ?_, ?_⟩ <;> (repeat' apply And.intro) <;> first | exact trivial | rfl | exact wr_succ _ (by omega) | assumption | exact decide_eq_false (by assumption) | exact decide_eq_true (by assumption)
  conv => whnf
  refine callp0 [1] rfl rfl (rd_Byte s hs (0, false) h0) rfl rfl rfl rfl rfl ?_
  conv => whnf
  rename_i hx
  clear hx
  generalize rdY s (0, false) = y at hy
  obtain ⟨k, q⟩ := y
  dsimp only at hy
  generalize hF : List.foldl (fun (st : MD.T × Int × Bool) (f : UInt8) => rdMf s st f.toNat) (m0 k, q) (gt (d := .str) cmdL k) = F
  refine ⟨fun a => ?_, fun a => ?_⟩
  · have a : k = 4 := of_decide_eq_true a
    subst a
    obtain rfl : F = (mNm (m0 4) (rdT s q).1, (rdT s q).2) := hF.symm
    conv => whnf
    refine callp0 [1] rfl rfl (rd_Text s hs q hy) rfl rfl rfl rfl rfl ?_
    conv => whnf
    refine callg0 (fun _ => ref24_Good (mNm (m0 4) (rdT s q).1)) rfl ?_
    conv => whnf
    refine ⟨fun g => ?_, fun g => ?_⟩
    · have hg : ¬ okRD s (mNm (m0 4) (rdT s q).1, (rdT s q).2) = true := fun h => by
        have h2 : (!okRD s (mNm (m0 4) (rdT s q).1, (rdT s q).2)) = true := by unfold okRD; rw [Bool.not_not]; exact g
        rw [h] at h2; cases h2
      rw [show decRP s (mNm (m0 4) (rdT s q).1, (rdT s q).2) = MD.df from if_neg hg, show derRP s (mNm (m0 4) (rdT s q).1, (rdT s q).2) = 11 from if_neg hg]
      conv => whnf
      refine ⟨_, ?_, rfl⟩
      rfl
    · have hg : okRD s (mNm (m0 4) (rdT s q).1, (rdT s q).2) = true := by unfold okRD; rw [Bool.not_eq_true']; exact g
      rw [show decRP s (mNm (m0 4) (rdT s q).1, (rdT s q).2) = (mNm (m0 4) (rdT s q).1, (rdT s q).2).1 from if_pos hg, show derRP s (mNm (m0 4) (rdT s q).1, (rdT s q).2) = 0 from if_pos hg]
      conv => whnf
      refine ⟨_, ?_, rfl⟩
      rfl
  have a4 : ¬ k = 4 := of_decide_eq_false a
  clear a
  conv => whnf
  refine ⟨fun a => ?_, fun a => ?_⟩
  · have a : k = 5 := of_decide_eq_true a
    subst a
    obtain rfl : F = (mNm (m0 5) (rdT s q).1, (rdT s q).2) := hF.symm
    conv => whnf
    refine callp0 [1] rfl rfl (rd_Text s hs q hy) rfl rfl rfl rfl rfl ?_
    conv => whnf
    refine callg0 (fun _ => ref24_Good (mNm (m0 5) (rdT s q).1)) rfl ?_
    conv => whnf
    refine ⟨fun g => ?_, fun g => ?_⟩
    · have hg : ¬ okRD s (mNm (m0 5) (rdT s q).1, (rdT s q).2) = true := fun h => by
        have h2 : (!okRD s (mNm (m0 5) (rdT s q).1, (rdT s q).2)) = true := by unfold okRD; rw [Bool.not_not]; exact g
        rw [h] at h2; cases h2
      rw [show decRP s (mNm (m0 5) (rdT s q).1, (rdT s q).2) = MD.df from if_neg hg, show derRP s (mNm (m0 5) (rdT s q).1, (rdT s q).2) = 11 from if_neg hg]
      conv => whnf
      refine ⟨_, ?_, rfl⟩
      rfl
    · have hg : okRD s (mNm (m0 5) (rdT s q).1, (rdT s q).2) = true := by unfold okRD; rw [Bool.not_eq_true']; exact g
      rw [show decRP s (mNm (m0 5) (rdT s q).1, (rdT s q).2) = (mNm (m0 5) (rdT s q).1, (rdT s q).2).1 from if_pos hg, show derRP s (mNm (m0 5) (rdT s q).1, (rdT s q).2) = 0 from if_pos hg]
      conv => whnf
      refine ⟨_, ?_, rfl⟩
      rfl
  have a5 : ¬ k = 5 := of_decide_eq_false a
  clear a
  conv => whnf
  refine ⟨fun a => ?_, fun a => ?_⟩
  · have a : k = 6 := of_decide_eq_true a
    subst a
    obtain rfl : F = (sO (m0 6) (rdO s q).1, (rdO s q).2) := hF.symm
    conv => whnf
    refine callp0 [1] rfl rfl (rd_Op s hs q hy) rfl rfl rfl rfl rfl ?_
    conv => whnf
    refine callg0 (fun _ => ref24_Good (sO (m0 6) (rdO s q).1)) rfl ?_
    conv => whnf
    refine ⟨fun g => ?_, fun g => ?_⟩
    · have hg : ¬ okRD s (sO (m0 6) (rdO s q).1, (rdO s q).2) = true := fun h => by
        have h2 : (!okRD s (sO (m0 6) (rdO s q).1, (rdO s q).2)) = true := by unfold okRD; rw [Bool.not_not]; exact g
        rw [h] at h2; cases h2
      rw [show decRP s (sO (m0 6) (rdO s q).1, (rdO s q).2) = MD.df from if_neg hg, show derRP s (sO (m0 6) (rdO s q).1, (rdO s q).2) = 11 from if_neg hg]
      conv => whnf
      refine ⟨_, ?_, rfl⟩
      rfl
    · have hg : okRD s (sO (m0 6) (rdO s q).1, (rdO s q).2) = true := by unfold okRD; rw [Bool.not_eq_true']; exact g
      rw [show decRP s (sO (m0 6) (rdO s q).1, (rdO s q).2) = (sO (m0 6) (rdO s q).1, (rdO s q).2).1 from if_pos hg, show derRP s (sO (m0 6) (rdO s q).1, (rdO s q).2) = 0 from if_pos hg]
      conv => whnf
      refine ⟨_, ?_, rfl⟩
      rfl
  have a6 : ¬ k = 6 := of_decide_eq_false a
  clear a
  conv => whnf
  refine ⟨fun a => ?_, fun a => ?_⟩
  · have a : k = 7 := of_decide_eq_true a
    subst a
    obtain rfl : F = (mI (m0 7) (rdN s 4611686018427387903 q).1, (rdN s 4611686018427387903 q).2) := hF.symm
    conv => whnf
    refine callp0 [1] rfl rfl (rd_Num s hs 4611686018427387903 q hy) rfl rfl rfl rfl rfl ?_
    conv => whnf
    refine callg0 (fun _ => ref24_Good (mI (m0 7) (rdN s 4611686018427387903 q).1)) rfl ?_
    conv => whnf
    refine ⟨fun g => ?_, fun g => ?_⟩
    · have hg : ¬ okRD s (mI (m0 7) (rdN s 4611686018427387903 q).1, (rdN s 4611686018427387903 q).2) = true := fun h => by
        have h2 : (!okRD s (mI (m0 7) (rdN s 4611686018427387903 q).1, (rdN s 4611686018427387903 q).2)) = true := by unfold okRD; rw [Bool.not_not]; exact g
        rw [h] at h2; cases h2
      rw [show decRP s (mI (m0 7) (rdN s 4611686018427387903 q).1, (rdN s 4611686018427387903 q).2) = MD.df from if_neg hg, show derRP s (mI (m0 7) (rdN s 4611686018427387903 q).1, (rdN s 4611686018427387903 q).2) = 11 from if_neg hg]
      conv => whnf
      refine ⟨_, ?_, rfl⟩
      rfl
    · have hg : okRD s (mI (m0 7) (rdN s 4611686018427387903 q).1, (rdN s 4611686018427387903 q).2) = true := by unfold okRD; rw [Bool.not_eq_true']; exact g
      rw [show decRP s (mI (m0 7) (rdN s 4611686018427387903 q).1, (rdN s 4611686018427387903 q).2) = (mI (m0 7) (rdN s 4611686018427387903 q).1, (rdN s 4611686018427387903 q).2).1 from if_pos hg, show derRP s (mI (m0 7) (rdN s 4611686018427387903 q).1, (rdN s 4611686018427387903 q).2) = 0 from if_pos hg]
      conv => whnf
      refine ⟨_, ?_, rfl⟩
      rfl
  have a7 : ¬ k = 7 := of_decide_eq_false a
  clear a
  conv => whnf
  refine ⟨fun a => ?_, fun a => ?_⟩
  · have a : k = 8 := of_decide_eq_true a
    subst a
    obtain rfl : F = (mI (m0 8) (rdN s 4611686018427387903 q).1, (rdN s 4611686018427387903 q).2) := hF.symm
    conv => whnf
    refine callp0 [1] rfl rfl (rd_Num s hs 4611686018427387903 q hy) rfl rfl rfl rfl rfl ?_
    conv => whnf
    refine callg0 (fun _ => ref24_Good (mI (m0 8) (rdN s 4611686018427387903 q).1)) rfl ?_
    conv => whnf
    refine ⟨fun g => ?_, fun g => ?_⟩
    · have hg : ¬ okRD s (mI (m0 8) (rdN s 4611686018427387903 q).1, (rdN s 4611686018427387903 q).2) = true := fun h => by
        have h2 : (!okRD s (mI (m0 8) (rdN s 4611686018427387903 q).1, (rdN s 4611686018427387903 q).2)) = true := by unfold okRD; rw [Bool.not_not]; exact g
        rw [h] at h2; cases h2
      rw [show decRP s (mI (m0 8) (rdN s 4611686018427387903 q).1, (rdN s 4611686018427387903 q).2) = MD.df from if_neg hg, show derRP s (mI (m0 8) (rdN s 4611686018427387903 q).1, (rdN s 4611686018427387903 q).2) = 11 from if_neg hg]
      conv => whnf
      refine ⟨_, ?_, rfl⟩
      rfl
    · have hg : okRD s (mI (m0 8) (rdN s 4611686018427387903 q).1, (rdN s 4611686018427387903 q).2) = true := by unfold okRD; rw [Bool.not_eq_true']; exact g
      rw [show decRP s (mI (m0 8) (rdN s 4611686018427387903 q).1, (rdN s 4611686018427387903 q).2) = (mI (m0 8) (rdN s 4611686018427387903 q).1, (rdN s 4611686018427387903 q).2).1 from if_pos hg, show derRP s (mI (m0 8) (rdN s 4611686018427387903 q).1, (rdN s 4611686018427387903 q).2) = 0 from if_pos hg]
      conv => whnf
      refine ⟨_, ?_, rfl⟩
      rfl
  have a8 : ¬ k = 8 := of_decide_eq_false a
  clear a
  conv => whnf
  refine ⟨fun a => ?_, fun a => ?_⟩
  · have a : k = 9 := of_decide_eq_true a
    subst a
    obtain rfl : F = (mT (mI (m0 9) (rdN s 4611686018427387903 q).1) (rdT s (rdN s 4611686018427387903 q).2).1, (rdT s (rdN s 4611686018427387903 q).2).2) := hF.symm
    conv => whnf
    refine callp0 [1] rfl rfl (rd_Num s hs 4611686018427387903 q hy) rfl rfl rfl rfl rfl ?_
    conv => whnf
    refine callp0 [1] rfl rfl (rd_Text s hs (rdN s 4611686018427387903 q).2 (rdN_in hy)) rfl rfl rfl rfl rfl ?_
    conv => whnf
    refine callg0 (fun _ => ref24_Good (mT (mI (m0 9) (rdN s 4611686018427387903 q).1) (rdT s (rdN s 4611686018427387903 q).2).1)) rfl ?_
    conv => whnf
    refine ⟨fun g => ?_, fun g => ?_⟩
    · have hg : ¬ okRD s (mT (mI (m0 9) (rdN s 4611686018427387903 q).1) (rdT s (rdN s 4611686018427387903 q).2).1, (rdT s (rdN s 4611686018427387903 q).2).2) = true := fun h => by
        have h2 : (!okRD s (mT (mI (m0 9) (rdN s 4611686018427387903 q).1) (rdT s (rdN s 4611686018427387903 q).2).1, (rdT s (rdN s 4611686018427387903 q).2).2)) = true := by unfold okRD; rw [Bool.not_not]; exact g
        rw [h] at h2; cases h2
      rw [show decRP s (mT (mI (m0 9) (rdN s 4611686018427387903 q).1) (rdT s (rdN s 4611686018427387903 q).2).1, (rdT s (rdN s 4611686018427387903 q).2).2) = MD.df from if_neg hg, show derRP s (mT (mI (m0 9) (rdN s 4611686018427387903 q).1) (rdT s (rdN s 4611686018427387903 q).2).1, (rdT s (rdN s 4611686018427387903 q).2).2) = 11 from if_neg hg]
      conv => whnf
      refine ⟨_, ?_, rfl⟩
      rfl
    · have hg : okRD s (mT (mI (m0 9) (rdN s 4611686018427387903 q).1) (rdT s (rdN s 4611686018427387903 q).2).1, (rdT s (rdN s 4611686018427387903 q).2).2) = true := by unfold okRD; rw [Bool.not_eq_true']; exact g
      rw [show decRP s (mT (mI (m0 9) (rdN s 4611686018427387903 q).1) (rdT s (rdN s 4611686018427387903 q).2).1, (rdT s (rdN s 4611686018427387903 q).2).2) = (mT (mI (m0 9) (rdN s 4611686018427387903 q).1) (rdT s (rdN s 4611686018427387903 q).2).1, (rdT s (rdN s 4611686018427387903 q).2).2).1 from if_pos hg, show derRP s (mT (mI (m0 9) (rdN s 4611686018427387903 q).1) (rdT s (rdN s 4611686018427387903 q).2).1, (rdT s (rdN s 4611686018427387903 q).2).2) = 0 from if_pos hg]
      conv => whnf
      refine ⟨_, ?_, rfl⟩
      rfl
  have a9 : ¬ k = 9 := of_decide_eq_false a
  clear a
  conv => whnf
  refine ⟨fun a => ?_, fun a => ?_⟩
  · have a : k = 10 := of_decide_eq_true a
    subst a
    obtain rfl : F = (mT (mI (m0 10) (rdN s 4611686018427387903 q).1) (rdT s (rdN s 4611686018427387903 q).2).1, (rdT s (rdN s 4611686018427387903 q).2).2) := hF.symm
    conv => whnf
    refine callp0 [1] rfl rfl (rd_Num s hs 4611686018427387903 q hy) rfl rfl rfl rfl rfl ?_
    conv => whnf
    refine callp0 [1] rfl rfl (rd_Text s hs (rdN s 4611686018427387903 q).2 (rdN_in hy)) rfl rfl rfl rfl rfl ?_
    conv => whnf
    refine callg0 (fun _ => ref24_Good (mT (mI (m0 10) (rdN s 4611686018427387903 q).1) (rdT s (rdN s 4611686018427387903 q).2).1)) rfl ?_
    conv => whnf
    refine ⟨fun g => ?_, fun g => ?_⟩
    · have hg : ¬ okRD s (mT (mI (m0 10) (rdN s 4611686018427387903 q).1) (rdT s (rdN s 4611686018427387903 q).2).1, (rdT s (rdN s 4611686018427387903 q).2).2) = true := fun h => by
        have h2 : (!okRD s (mT (mI (m0 10) (rdN s 4611686018427387903 q).1) (rdT s (rdN s 4611686018427387903 q).2).1, (rdT s (rdN s 4611686018427387903 q).2).2)) = true := by unfold okRD; rw [Bool.not_not]; exact g
        rw [h] at h2; cases h2
      rw [show decRP s (mT (mI (m0 10) (rdN s 4611686018427387903 q).1) (rdT s (rdN s 4611686018427387903 q).2).1, (rdT s (rdN s 4611686018427387903 q).2).2) = MD.df from if_neg hg, show derRP s (mT (mI (m0 10) (rdN s 4611686018427387903 q).1) (rdT s (rdN s 4611686018427387903 q).2).1, (rdT s (rdN s 4611686018427387903 q).2).2) = 11 from if_neg hg]
      conv => whnf
      refine ⟨_, ?_, rfl⟩
      rfl
    · have hg : okRD s (mT (mI (m0 10) (rdN s 4611686018427387903 q).1) (rdT s (rdN s 4611686018427387903 q).2).1, (rdT s (rdN s 4611686018427387903 q).2).2) = true := by unfold okRD; rw [Bool.not_eq_true']; exact g
      rw [show decRP s (mT (mI (m0 10) (rdN s 4611686018427387903 q).1) (rdT s (rdN s 4611686018427387903 q).2).1, (rdT s (rdN s 4611686018427387903 q).2).2) = (mT (mI (m0 10) (rdN s 4611686018427387903 q).1) (rdT s (rdN s 4611686018427387903 q).2).1, (rdT s (rdN s 4611686018427387903 q).2).2).1 from if_pos hg, show derRP s (mT (mI (m0 10) (rdN s 4611686018427387903 q).1) (rdT s (rdN s 4611686018427387903 q).2).1, (rdT s (rdN s 4611686018427387903 q).2).2) = 0 from if_pos hg]
      conv => whnf
      refine ⟨_, ?_, rfl⟩
      rfl
  have a10 : ¬ k = 10 := of_decide_eq_false a
  clear a
  conv => whnf
  refine ⟨fun a => ?_, fun a => ?_⟩
  · have a : k = 11 := of_decide_eq_true a
    subst a
    obtain rfl : F = (mT (m0 11) (rdT s q).1, (rdT s q).2) := hF.symm
    conv => whnf
    refine callp0 [1] rfl rfl (rd_Text s hs q hy) rfl rfl rfl rfl rfl ?_
    conv => whnf
    refine callg0 (fun _ => ref24_Good (mT (m0 11) (rdT s q).1)) rfl ?_
    conv => whnf
    refine ⟨fun g => ?_, fun g => ?_⟩
    · have hg : ¬ okRD s (mT (m0 11) (rdT s q).1, (rdT s q).2) = true := fun h => by
        have h2 : (!okRD s (mT (m0 11) (rdT s q).1, (rdT s q).2)) = true := by unfold okRD; rw [Bool.not_not]; exact g
        rw [h] at h2; cases h2
      rw [show decRP s (mT (m0 11) (rdT s q).1, (rdT s q).2) = MD.df from if_neg hg, show derRP s (mT (m0 11) (rdT s q).1, (rdT s q).2) = 11 from if_neg hg]
      conv => whnf
      refine ⟨_, ?_, rfl⟩
      rfl
    · have hg : okRD s (mT (m0 11) (rdT s q).1, (rdT s q).2) = true := by unfold okRD; rw [Bool.not_eq_true']; exact g
      rw [show decRP s (mT (m0 11) (rdT s q).1, (rdT s q).2) = (mT (m0 11) (rdT s q).1, (rdT s q).2).1 from if_pos hg, show derRP s (mT (m0 11) (rdT s q).1, (rdT s q).2) = 0 from if_pos hg]
      conv => whnf
      refine ⟨_, ?_, rfl⟩
      rfl
  have a11 : ¬ k = 11 := of_decide_eq_false a
  clear a
  conv => whnf
  refine ⟨fun a => ?_, fun a => ?_⟩
  · have a : k = 12 := of_decide_eq_true a
    subst a
    obtain rfl : F = (mVl (mNm (mT (m0 12) (rdT s q).1) (rdT s (rdT s q).2).1) (rdV s (rdT s (rdT s q).2).2).1, (rdV s (rdT s (rdT s q).2).2).2) := hF.symm
    conv => whnf
    refine callp0 [1] rfl rfl (rd_Text s hs q hy) rfl rfl rfl rfl rfl ?_
    conv => whnf
    refine callp0 [1] rfl rfl (rd_Text s hs (rdT s q).2 (rdT_in hy)) rfl rfl rfl rfl rfl ?_
    conv => whnf
    refine callp0 [1] rfl rfl (rd_Val s hs (rdT s (rdT s q).2).2 (rdT_in (rdT_in hy))) rfl rfl rfl rfl rfl ?_
    conv => whnf
    refine fk rfl ?_
    conv => whnf
    refine callg0 (fun _ => ref24_Good (mVl (mNm (mT (m0 12) (rdT s q).1) (rdT s (rdT s q).2).1) (rdV s (rdT s (rdT s q).2).2).1)) rfl ?_
    conv => whnf
    refine ⟨fun g => ?_, fun g => ?_⟩
    · have hg : ¬ okRD s (mVl (mNm (mT (m0 12) (rdT s q).1) (rdT s (rdT s q).2).1) (rdV s (rdT s (rdT s q).2).2).1, (rdV s (rdT s (rdT s q).2).2).2) = true := fun h => by
        have h2 : (!okRD s (mVl (mNm (mT (m0 12) (rdT s q).1) (rdT s (rdT s q).2).1) (rdV s (rdT s (rdT s q).2).2).1, (rdV s (rdT s (rdT s q).2).2).2)) = true := by unfold okRD; rw [Bool.not_not]; exact g
        rw [h] at h2; cases h2
      rw [show decRP s (mVl (mNm (mT (m0 12) (rdT s q).1) (rdT s (rdT s q).2).1) (rdV s (rdT s (rdT s q).2).2).1, (rdV s (rdT s (rdT s q).2).2).2) = MD.df from if_neg hg, show derRP s (mVl (mNm (mT (m0 12) (rdT s q).1) (rdT s (rdT s q).2).1) (rdV s (rdT s (rdT s q).2).2).1, (rdV s (rdT s (rdT s q).2).2).2) = 11 from if_neg hg]
      conv => whnf
      refine ⟨_, ?_, rfl⟩
      rfl
    · have hg : okRD s (mVl (mNm (mT (m0 12) (rdT s q).1) (rdT s (rdT s q).2).1) (rdV s (rdT s (rdT s q).2).2).1, (rdV s (rdT s (rdT s q).2).2).2) = true := by unfold okRD; rw [Bool.not_eq_true']; exact g
      rw [show decRP s (mVl (mNm (mT (m0 12) (rdT s q).1) (rdT s (rdT s q).2).1) (rdV s (rdT s (rdT s q).2).2).1, (rdV s (rdT s (rdT s q).2).2).2) = (mVl (mNm (mT (m0 12) (rdT s q).1) (rdT s (rdT s q).2).1) (rdV s (rdT s (rdT s q).2).2).1, (rdV s (rdT s (rdT s q).2).2).2).1 from if_pos hg, show derRP s (mVl (mNm (mT (m0 12) (rdT s q).1) (rdT s (rdT s q).2).1) (rdV s (rdT s (rdT s q).2).2).1, (rdV s (rdT s (rdT s q).2).2).2) = 0 from if_pos hg]
      conv => whnf
      refine ⟨_, ?_, rfl⟩
      rfl
  have a12 : ¬ k = 12 := of_decide_eq_false a
  clear a
  conv => whnf
  refine ⟨fun a => ?_, fun a => ?_⟩
  · have a : k = 13 := of_decide_eq_true a
    subst a
    obtain rfl : F = (mW (mVl (mNm (mT (m0 13) (rdT s q).1) (rdT s (rdT s q).2).1) (rdV s (rdT s (rdT s q).2).2).1) (rdV s (rdV s (rdT s (rdT s q).2).2).2).1, (rdV s (rdV s (rdT s (rdT s q).2).2).2).2) := hF.symm
    conv => whnf
    refine callp0 [1] rfl rfl (rd_Text s hs q hy) rfl rfl rfl rfl rfl ?_
    conv => whnf
    refine callp0 [1] rfl rfl (rd_Text s hs (rdT s q).2 (rdT_in hy)) rfl rfl rfl rfl rfl ?_
    conv => whnf
    refine callp0 [1] rfl rfl (rd_Val s hs (rdT s (rdT s q).2).2 (rdT_in (rdT_in hy))) rfl rfl rfl rfl rfl ?_
    conv => whnf
    refine tk rfl ?_
    conv => whnf
    refine callp0 [1] rfl rfl (rd_Val s hs (rdV s (rdT s (rdT s q).2).2).2 (rdV_in (rdT_in (rdT_in hy)))) rfl rfl rfl rfl rfl ?_
    conv => whnf
    refine callg0 (fun _ => ref24_Good (mW (mVl (mNm (mT (m0 13) (rdT s q).1) (rdT s (rdT s q).2).1) (rdV s (rdT s (rdT s q).2).2).1) (rdV s (rdV s (rdT s (rdT s q).2).2).2).1)) rfl ?_
    conv => whnf
    refine ⟨fun g => ?_, fun g => ?_⟩
    · have hg : ¬ okRD s (mW (mVl (mNm (mT (m0 13) (rdT s q).1) (rdT s (rdT s q).2).1) (rdV s (rdT s (rdT s q).2).2).1) (rdV s (rdV s (rdT s (rdT s q).2).2).2).1, (rdV s (rdV s (rdT s (rdT s q).2).2).2).2) = true := fun h => by
        have h2 : (!okRD s (mW (mVl (mNm (mT (m0 13) (rdT s q).1) (rdT s (rdT s q).2).1) (rdV s (rdT s (rdT s q).2).2).1) (rdV s (rdV s (rdT s (rdT s q).2).2).2).1, (rdV s (rdV s (rdT s (rdT s q).2).2).2).2)) = true := by unfold okRD; rw [Bool.not_not]; exact g
        rw [h] at h2; cases h2
      rw [show decRP s (mW (mVl (mNm (mT (m0 13) (rdT s q).1) (rdT s (rdT s q).2).1) (rdV s (rdT s (rdT s q).2).2).1) (rdV s (rdV s (rdT s (rdT s q).2).2).2).1, (rdV s (rdV s (rdT s (rdT s q).2).2).2).2) = MD.df from if_neg hg, show derRP s (mW (mVl (mNm (mT (m0 13) (rdT s q).1) (rdT s (rdT s q).2).1) (rdV s (rdT s (rdT s q).2).2).1) (rdV s (rdV s (rdT s (rdT s q).2).2).2).1, (rdV s (rdV s (rdT s (rdT s q).2).2).2).2) = 11 from if_neg hg]
      conv => whnf
      refine ⟨_, ?_, rfl⟩
      rfl
    · have hg : okRD s (mW (mVl (mNm (mT (m0 13) (rdT s q).1) (rdT s (rdT s q).2).1) (rdV s (rdT s (rdT s q).2).2).1) (rdV s (rdV s (rdT s (rdT s q).2).2).2).1, (rdV s (rdV s (rdT s (rdT s q).2).2).2).2) = true := by unfold okRD; rw [Bool.not_eq_true']; exact g
      rw [show decRP s (mW (mVl (mNm (mT (m0 13) (rdT s q).1) (rdT s (rdT s q).2).1) (rdV s (rdT s (rdT s q).2).2).1) (rdV s (rdV s (rdT s (rdT s q).2).2).2).1, (rdV s (rdV s (rdT s (rdT s q).2).2).2).2) = (mW (mVl (mNm (mT (m0 13) (rdT s q).1) (rdT s (rdT s q).2).1) (rdV s (rdT s (rdT s q).2).2).1) (rdV s (rdV s (rdT s (rdT s q).2).2).2).1, (rdV s (rdV s (rdT s (rdT s q).2).2).2).2).1 from if_pos hg, show derRP s (mW (mVl (mNm (mT (m0 13) (rdT s q).1) (rdT s (rdT s q).2).1) (rdV s (rdT s (rdT s q).2).2).1) (rdV s (rdV s (rdT s (rdT s q).2).2).2).1, (rdV s (rdV s (rdT s (rdT s q).2).2).2).2) = 0 from if_pos hg]
      conv => whnf
      refine ⟨_, ?_, rfl⟩
      rfl
  have a13 : ¬ k = 13 := of_decide_eq_false a
  clear a
  conv => whnf
  refine ⟨fun a => ?_, fun a => ?_⟩
  · have a : k = 14 := of_decide_eq_true a
    subst a
    obtain rfl : F = (mM (mT (m0 14) (rdT s q).1) (rdN s 2 (rdT s q).2).1, (rdN s 2 (rdT s q).2).2) := hF.symm
    conv => whnf
    refine callp0 [1] rfl rfl (rd_Text s hs q hy) rfl rfl rfl rfl rfl ?_
    conv => whnf
    refine callp0 [1] rfl rfl (rd_Num s hs 2 (rdT s q).2 (rdT_in hy)) rfl rfl rfl rfl rfl ?_
    conv => whnf
    refine callg0 (fun _ => ref24_Good (mM (mT (m0 14) (rdT s q).1) (rdN s 2 (rdT s q).2).1)) rfl ?_
    conv => whnf
    refine ⟨fun g => ?_, fun g => ?_⟩
    · have hg : ¬ okRD s (mM (mT (m0 14) (rdT s q).1) (rdN s 2 (rdT s q).2).1, (rdN s 2 (rdT s q).2).2) = true := fun h => by
        have h2 : (!okRD s (mM (mT (m0 14) (rdT s q).1) (rdN s 2 (rdT s q).2).1, (rdN s 2 (rdT s q).2).2)) = true := by unfold okRD; rw [Bool.not_not]; exact g
        rw [h] at h2; cases h2
      rw [show decRP s (mM (mT (m0 14) (rdT s q).1) (rdN s 2 (rdT s q).2).1, (rdN s 2 (rdT s q).2).2) = MD.df from if_neg hg, show derRP s (mM (mT (m0 14) (rdT s q).1) (rdN s 2 (rdT s q).2).1, (rdN s 2 (rdT s q).2).2) = 11 from if_neg hg]
      conv => whnf
      refine ⟨_, ?_, rfl⟩
      rfl
    · have hg : okRD s (mM (mT (m0 14) (rdT s q).1) (rdN s 2 (rdT s q).2).1, (rdN s 2 (rdT s q).2).2) = true := by unfold okRD; rw [Bool.not_eq_true']; exact g
      rw [show decRP s (mM (mT (m0 14) (rdT s q).1) (rdN s 2 (rdT s q).2).1, (rdN s 2 (rdT s q).2).2) = (mM (mT (m0 14) (rdT s q).1) (rdN s 2 (rdT s q).2).1, (rdN s 2 (rdT s q).2).2).1 from if_pos hg, show derRP s (mM (mT (m0 14) (rdT s q).1) (rdN s 2 (rdT s q).2).1, (rdN s 2 (rdT s q).2).2) = 0 from if_pos hg]
      conv => whnf
      refine ⟨_, ?_, rfl⟩
      rfl
  have a14 : ¬ k = 14 := of_decide_eq_false a
  clear a
  conv => whnf
  refine ⟨fun a => ?_, fun a => ?_⟩
  · have a : k = 15 := of_decide_eq_true a
    subst a
    obtain rfl : F = (mM (mT (m0 15) (rdT s q).1) (rdN s 2 (rdT s q).2).1, (rdN s 2 (rdT s q).2).2) := hF.symm
    conv => whnf
    refine callp0 [1] rfl rfl (rd_Text s hs q hy) rfl rfl rfl rfl rfl ?_
    conv => whnf
    refine callp0 [1] rfl rfl (rd_Num s hs 2 (rdT s q).2 (rdT_in hy)) rfl rfl rfl rfl rfl ?_
    conv => whnf
    refine callg0 (fun _ => ref24_Good (mM (mT (m0 15) (rdT s q).1) (rdN s 2 (rdT s q).2).1)) rfl ?_
    conv => whnf
    refine ⟨fun g => ?_, fun g => ?_⟩
    · have hg : ¬ okRD s (mM (mT (m0 15) (rdT s q).1) (rdN s 2 (rdT s q).2).1, (rdN s 2 (rdT s q).2).2) = true := fun h => by
        have h2 : (!okRD s (mM (mT (m0 15) (rdT s q).1) (rdN s 2 (rdT s q).2).1, (rdN s 2 (rdT s q).2).2)) = true := by unfold okRD; rw [Bool.not_not]; exact g
        rw [h] at h2; cases h2
      rw [show decRP s (mM (mT (m0 15) (rdT s q).1) (rdN s 2 (rdT s q).2).1, (rdN s 2 (rdT s q).2).2) = MD.df from if_neg hg, show derRP s (mM (mT (m0 15) (rdT s q).1) (rdN s 2 (rdT s q).2).1, (rdN s 2 (rdT s q).2).2) = 11 from if_neg hg]
      conv => whnf
      refine ⟨_, ?_, rfl⟩
      rfl
    · have hg : okRD s (mM (mT (m0 15) (rdT s q).1) (rdN s 2 (rdT s q).2).1, (rdN s 2 (rdT s q).2).2) = true := by unfold okRD; rw [Bool.not_eq_true']; exact g
      rw [show decRP s (mM (mT (m0 15) (rdT s q).1) (rdN s 2 (rdT s q).2).1, (rdN s 2 (rdT s q).2).2) = (mM (mT (m0 15) (rdT s q).1) (rdN s 2 (rdT s q).2).1, (rdN s 2 (rdT s q).2).2).1 from if_pos hg, show derRP s (mM (mT (m0 15) (rdT s q).1) (rdN s 2 (rdT s q).2).1, (rdN s 2 (rdT s q).2).2) = 0 from if_pos hg]
      conv => whnf
      refine ⟨_, ?_, rfl⟩
      rfl
  have a15 : ¬ k = 15 := of_decide_eq_false a
  clear a
  conv => whnf
  refine ⟨fun a => ?_, fun a => ?_⟩
  · have a : k = 16 := of_decide_eq_true a
    subst a
    obtain rfl : F = (mR (m0 16) (rS' s q.1).1, (q.1 + (rS' s q.1).2, q.2 || !(decS s q.1).isSome)) := hF.symm
    conv => whnf
    have hl := rS_le hs hy
    refine call1 (refrule_Decode s q.1 hs) rfl ?_
    conv => whnf
    refine any0 ?_
    conv => whnf
    refine ⟨.inl (by kernel_rfl), after0 ?_⟩
    conv => whnf
    rw [show (decS s q.1).getD (R0, 0) = rS' s q.1 from rfl, wr64 (q.1 + ((rS' s q.1).2 : Int)) (by have := hy.1; omega) (by omega)]
    conv => whnf
    refine callg0 (fun _ => ref24_Good (mR (m0 16) (rS' s q.1).1)) rfl ?_
    conv => whnf
    refine ⟨fun g => ?_, fun g => ?_⟩
    · have hg : ¬ okRD s (mR (m0 16) (rS' s q.1).1, (q.1 + (rS' s q.1).2, q.2 || !(decS s q.1).isSome)) = true := fun h => by
        have h2 : (!okRD s (mR (m0 16) (rS' s q.1).1, (q.1 + (rS' s q.1).2, q.2 || !(decS s q.1).isSome))) = true := by unfold okRD; rw [Bool.not_not]; exact g
        rw [h] at h2; cases h2
      rw [show decRP s (mR (m0 16) (rS' s q.1).1, (q.1 + (rS' s q.1).2, q.2 || !(decS s q.1).isSome)) = MD.df from if_neg hg, show derRP s (mR (m0 16) (rS' s q.1).1, (q.1 + (rS' s q.1).2, q.2 || !(decS s q.1).isSome)) = 11 from if_neg hg]
      conv => whnf
      refine ⟨_, ?_, rfl⟩
      rfl
    · have hg : okRD s (mR (m0 16) (rS' s q.1).1, (q.1 + (rS' s q.1).2, q.2 || !(decS s q.1).isSome)) = true := by unfold okRD; rw [Bool.not_eq_true']; exact g
      rw [show decRP s (mR (m0 16) (rS' s q.1).1, (q.1 + (rS' s q.1).2, q.2 || !(decS s q.1).isSome)) = (mR (m0 16) (rS' s q.1).1, (q.1 + (rS' s q.1).2, q.2 || !(decS s q.1).isSome)).1 from if_pos hg, show derRP s (mR (m0 16) (rS' s q.1).1, (q.1 + (rS' s q.1).2, q.2 || !(decS s q.1).isSome)) = 0 from if_pos hg]
      conv => whnf
      refine ⟨_, ?_, rfl⟩
      rfl
  have a16 : ¬ k = 16 := of_decide_eq_false a
  clear a
  conv => whnf
  refine ⟨fun a => ?_, fun a => ?_⟩
  · have a : k = 17 := of_decide_eq_true a
    subst a
    obtain rfl : F = (mM (m0 17) (rdN s 1000000 q).1, (rdN s 1000000 q).2) := hF.symm
    conv => whnf
    refine callp0 [1] rfl rfl (rd_Num s hs 1000000 q hy) rfl rfl rfl rfl rfl ?_
    conv => whnf
    refine callg0 (fun _ => ref24_Good (mM (m0 17) (rdN s 1000000 q).1)) rfl ?_
    conv => whnf
    refine ⟨fun g => ?_, fun g => ?_⟩
    · have hg : ¬ okRD s (mM (m0 17) (rdN s 1000000 q).1, (rdN s 1000000 q).2) = true := fun h => by
        have h2 : (!okRD s (mM (m0 17) (rdN s 1000000 q).1, (rdN s 1000000 q).2)) = true := by unfold okRD; rw [Bool.not_not]; exact g
        rw [h] at h2; cases h2
      rw [show decRP s (mM (m0 17) (rdN s 1000000 q).1, (rdN s 1000000 q).2) = MD.df from if_neg hg, show derRP s (mM (m0 17) (rdN s 1000000 q).1, (rdN s 1000000 q).2) = 11 from if_neg hg]
      conv => whnf
      refine ⟨_, ?_, rfl⟩
      rfl
    · have hg : okRD s (mM (m0 17) (rdN s 1000000 q).1, (rdN s 1000000 q).2) = true := by unfold okRD; rw [Bool.not_eq_true']; exact g
      rw [show decRP s (mM (m0 17) (rdN s 1000000 q).1, (rdN s 1000000 q).2) = (mM (m0 17) (rdN s 1000000 q).1, (rdN s 1000000 q).2).1 from if_pos hg, show derRP s (mM (m0 17) (rdN s 1000000 q).1, (rdN s 1000000 q).2) = 0 from if_pos hg]
      conv => whnf
      refine ⟨_, ?_, rfl⟩
      rfl
  have a17 : ¬ k = 17 := of_decide_eq_false a
  clear a
  conv => whnf
  refine ⟨fun a => ?_, fun a => ?_⟩
  · have a : k = 18 := of_decide_eq_true a
    subst a
    obtain rfl : F = (mNm (mT (m0 18) (rdT s q).1) (rdT s (rdT s q).2).1, (rdT s (rdT s q).2).2) := hF.symm
    conv => whnf
    refine callp0 [1] rfl rfl (rd_Text s hs q hy) rfl rfl rfl rfl rfl ?_
    conv => whnf
    refine callp0 [1] rfl rfl (rd_Text s hs (rdT s q).2 (rdT_in hy)) rfl rfl rfl rfl rfl ?_
    conv => whnf
    refine callg0 (fun _ => ref24_Good (mNm (mT (m0 18) (rdT s q).1) (rdT s (rdT s q).2).1)) rfl ?_
    conv => whnf
    refine ⟨fun g => ?_, fun g => ?_⟩
    · have hg : ¬ okRD s (mNm (mT (m0 18) (rdT s q).1) (rdT s (rdT s q).2).1, (rdT s (rdT s q).2).2) = true := fun h => by
        have h2 : (!okRD s (mNm (mT (m0 18) (rdT s q).1) (rdT s (rdT s q).2).1, (rdT s (rdT s q).2).2)) = true := by unfold okRD; rw [Bool.not_not]; exact g
        rw [h] at h2; cases h2
      rw [show decRP s (mNm (mT (m0 18) (rdT s q).1) (rdT s (rdT s q).2).1, (rdT s (rdT s q).2).2) = MD.df from if_neg hg, show derRP s (mNm (mT (m0 18) (rdT s q).1) (rdT s (rdT s q).2).1, (rdT s (rdT s q).2).2) = 11 from if_neg hg]
      conv => whnf
      refine ⟨_, ?_, rfl⟩
      rfl
    · have hg : okRD s (mNm (mT (m0 18) (rdT s q).1) (rdT s (rdT s q).2).1, (rdT s (rdT s q).2).2) = true := by unfold okRD; rw [Bool.not_eq_true']; exact g
      rw [show decRP s (mNm (mT (m0 18) (rdT s q).1) (rdT s (rdT s q).2).1, (rdT s (rdT s q).2).2) = (mNm (mT (m0 18) (rdT s q).1) (rdT s (rdT s q).2).1, (rdT s (rdT s q).2).2).1 from if_pos hg, show derRP s (mNm (mT (m0 18) (rdT s q).1) (rdT s (rdT s q).2).1, (rdT s (rdT s q).2).2) = 0 from if_pos hg]
      conv => whnf
      refine ⟨_, ?_, rfl⟩
      rfl
  have a18 : ¬ k = 18 := of_decide_eq_false a
  clear a
  conv => whnf
  refine ⟨fun a => ?_, fun a => ?_⟩
  · have a : k = 19 := of_decide_eq_true a
    subst a
    obtain rfl : F = (mNm (mT (m0 19) (rdT s q).1) (rdT s (rdT s q).2).1, (rdT s (rdT s q).2).2) := hF.symm
    conv => whnf
    refine callp0 [1] rfl rfl (rd_Text s hs q hy) rfl rfl rfl rfl rfl ?_
    conv => whnf
    refine callp0 [1] rfl rfl (rd_Text s hs (rdT s q).2 (rdT_in hy)) rfl rfl rfl rfl rfl ?_
    conv => whnf
    refine callg0 (fun _ => ref24_Good (mNm (mT (m0 19) (rdT s q).1) (rdT s (rdT s q).2).1)) rfl ?_
    conv => whnf
    refine ⟨fun g => ?_, fun g => ?_⟩
    · have hg : ¬ okRD s (mNm (mT (m0 19) (rdT s q).1) (rdT s (rdT s q).2).1, (rdT s (rdT s q).2).2) = true := fun h => by
        have h2 : (!okRD s (mNm (mT (m0 19) (rdT s q).1) (rdT s (rdT s q).2).1, (rdT s (rdT s q).2).2)) = true := by unfold okRD; rw [Bool.not_not]; exact g
        rw [h] at h2; cases h2
      rw [show decRP s (mNm (mT (m0 19) (rdT s q).1) (rdT s (rdT s q).2).1, (rdT s (rdT s q).2).2) = MD.df from if_neg hg, show derRP s (mNm (mT (m0 19) (rdT s q).1) (rdT s (rdT s q).2).1, (rdT s (rdT s q).2).2) = 11 from if_neg hg]
      conv => whnf
      refine ⟨_, ?_, rfl⟩
      rfl
    · have hg : okRD s (mNm (mT (m0 19) (rdT s q).1) (rdT s (rdT s q).2).1, (rdT s (rdT s q).2).2) = true := by unfold okRD; rw [Bool.not_eq_true']; exact g
      rw [show decRP s (mNm (mT (m0 19) (rdT s q).1) (rdT s (rdT s q).2).1, (rdT s (rdT s q).2).2) = (mNm (mT (m0 19) (rdT s q).1) (rdT s (rdT s q).2).1, (rdT s (rdT s q).2).2).1 from if_pos hg, show derRP s (mNm (mT (m0 19) (rdT s q).1) (rdT s (rdT s q).2).1, (rdT s (rdT s q).2).2) = 0 from if_pos hg]
      conv => whnf
      refine ⟨_, ?_, rfl⟩
      rfl
  have a19 : ¬ k = 19 := of_decide_eq_false a
  clear a
  conv => whnf
  have hn : gt (d := .str) cmdL k = [] := by
    have : ∀ k' : Int, ¬ k' = 4 → ¬ k' = 5 → ¬ k' = 6 → ¬ k' = 7 → ¬ k' = 8 → ¬ k' = 9 → ¬ k' = 10 → ¬ k' = 11 → ¬ k' = 12 → ¬ k' = 13 → ¬ k' = 14 → ¬ k' = 15 → ¬ k' = 16 → ¬ k' = 17 → ¬ k' = 18 → ¬ k' = 19 → gt (d := .str) cmdL k' = [] := by
      intro k' b4 b5 b6 b7 b8 b9 b10 b11 b12 b13 b14 b15 b16 b17 b18 b19
      show cmdL.getD k'.toNat [] = []
      rcases Nat.lt_or_ge k'.toNat 21 with h | h
      · have : k'.toNat = 0 ∨ k'.toNat = 1 ∨ k'.toNat = 2 ∨ k'.toNat = 3 ∨ k'.toNat = 20 := by omega
        rcases this with h | h | h | h | h <;> rw [h] <;> rfl
      · rw [List.getD_eq_getElem?_getD, List.getElem?_eq_none h]; rfl
    exact this k a4 a5 a6 a7 a8 a9 a10 a11 a12 a13 a14 a15 a16 a17 a18 a19
  rw [hn] at hF
  obtain rfl : F = (m0 k, q) := hF.symm
  conv => whnf
  refine callg0 (fun _ => ref24_Good (m0 k)) rfl ?_
  conv => whnf
  refine ⟨fun g => ?_, fun g => ?_⟩
  · have hg : ¬ okRD s (m0 k, q) = true := fun h => by
      have h2 : (!okRD s (m0 k, q)) = true := by unfold okRD; rw [Bool.not_not]; exact g
      rw [h] at h2; cases h2
    rw [show decRP s (m0 k, q) = MD.df from if_neg hg, show derRP s (m0 k, q) = 11 from if_neg hg]
    conv => whnf
    refine ⟨_, ?_, rfl⟩
    rfl
  · have hg : okRD s (m0 k, q) = true := by unfold okRD; rw [Bool.not_eq_true']; exact g
    rw [show decRP s (m0 k, q) = (m0 k, q).1 from if_pos hg, show derRP s (m0 k, q) = 0 from if_pos hg]
    conv => whnf
    refine ⟨_, ?_, rfl⟩
    rfl
theorem ref24_Decode (s : List UInt8) (hs : s.length ≤ 100000000) : FnD Tryz.prog 26 [.c (.str s)] (· = .tup [(true, mc (decRP s (rdM s))), (false, [.int .i64 (derRP s (rdM s))])]) :=
  dec_tup (ref24_Decode' s hs)
end Go.Proofs.YtmdjonckcapkeaaGreatDoor
/- The walk of the law WireBack. Own work. -/
set_option linter.unusedVariables false
set_option maxRecDepth 100000
namespace Go.Proofs.YtmdjonckcapkeaaGreatDoor
open Go Go.RowKit OE

theorem eqM_same (m : MD.T) : MD.eqb m m = true := (D.eqb_iff MD m m).2 rfl
/-- what was encoded is decoded as it was -/
theorem back_enc {m : MD.T} (h : goodM m = true) : decOk (bytM m).1 = true ∧ decM (bytM m).1 = m := by
  unfold goodM at h
  simp only [Bool.and_eq_true] at h
  obtain ⟨h1, h2, h3⟩ := h
  have e : (readS (bytM m).1).1 = m := (D.eqb_iff MD _ _).1 h3
  have ho : decOk (bytM m).1 = true := by
    unfold decOk
    rw [e, h1, h2]
    simp
  exact ⟨ho, by unfold decM; rw [if_pos ho, e]⟩
/-- what was decoded is encoded as it stood -/
theorem back_dec {s : List UInt8} (h : decOk s = true) : goodM (decM s) = true ∧ encM (decM s) = s := by
  have hd : decM s = (readS s).1 := by unfold decM; rw [if_pos h]
  unfold decOk at h
  simp only [Bool.and_eq_true, decide_eq_true_eq] at h
  obtain ⟨h1, h2, h3⟩ := h
  have hg : goodM (decM s) = true := by
    rw [hd]; unfold goodM
    rw [h2, h3, h1, eqM_same]; rfl
  exact ⟨hg, by unfold encM; rw [if_pos hg, hd, h3]⟩
end Go.Proofs.YtmdjonckcapkeaaGreatDoor
/- What the reference reads of bytes is what the program reads; no program in sight. Printed by genwrt.py. Own work. -/
set_option linter.unusedVariables false
set_option maxRecDepth 100000
namespace Go.Proofs.YtmdjonckcapkeaaGreatDoor
open Go Go.RowKit OE

/-! what was read was put so -/
def Step (s : List UInt8) (q q' : Int × Bool) (t : List UInt8) : Prop := q'.2 = false → q.2 = false ∧ s.take q'.1.toNat = s.take q.1.toNat ++ t
theorem Step.trans {s : List UInt8} {q q1 q2 : Int × Bool} {t1 t2 : List UInt8} (h1 : Step s q q1 t1) (h2 : Step s q1 q2 t2) : Step s q q2 (t1 ++ t2) := fun h => by
  obtain ⟨a1, a2⟩ := h2 h
  obtain ⟨b1, b2⟩ := h1 a1
  exact ⟨b1, by rw [a2, b2, List.append_assoc]⟩
theorem take_step' {s t : List UInt8} {a : Int} {n : Nat} (h0 : 0 ≤ a) (h : (s.drop a.toNat).take n = t) : s.take (a + (n : Int)).toNat = s.take a.toNat ++ t := by
  rw [show (a + (n : Int)).toNat = a.toNat + n by omega, List.take_add, h]
theorem no_or {a : Bool} {X : Prop} (h : ¬ (a = true ∨ X)) : a = false ∧ ¬ X := ⟨by cases a; rfl; exact (h (.inl rfl)).elim, fun hx => h (.inr hx)⟩
theorem stY {s : List UInt8} {q : Int × Bool} (h : inS s q) : Step s q (rdY s q).2 (kb (rdY s q).1) := by
  intro hb
  unfold rdY at hb ⊢
  split at hb
  · cases hb
  rename_i hc
  obtain ⟨c1, c2⟩ := no_or hc
  rw [if_neg hc]
  refine ⟨c1, ?_⟩
  dsimp only
  obtain ⟨n, hn⟩ := Int.eq_ofNat_of_zero_le h.1
  rw [hn] at c2 ⊢
  have hlt : n < s.length := by omega
  rw [kb_bt hlt]
  exact take_step' (n := 1) (by omega) (by rw [Int.toNat_natCast, drop_take1 hlt 0]; simp)
theorem stT {s : List UInt8} {q : Int × Bool} (h : inS s q) : Step s q (rdT s q).2 (Num.putT (rdT s q).1) := by
  intro hb
  unfold rdT at hb ⊢
  split at hb
  · cases hb
  rename_i hc
  obtain ⟨c1, c2⟩ := no_or hc
  rw [if_neg hc]
  refine ⟨c1, ?_⟩
  dsimp only
  unfold tS
  cases hg : Num.getT s q.1 16 with
  | none => rw [hg] at c2; exact (c2 rfl).elim
  | some p => exact take_step' h.1 (gtS_take hg q.1.toNat rfl).1
theorem stV {s : List UInt8} {q : Int × Bool} (h : inS s q) : Step s q (rdV s q).2 (encV (rdV s q).1) := by
  intro hb
  unfold rdV at hb ⊢
  split at hb
  · cases hb
  rename_i hc
  obtain ⟨c1, c2⟩ := no_or hc
  rw [if_neg hc]
  refine ⟨c1, ?_⟩
  dsimp only
  unfold vS'
  cases hg : decV s q.1 with
  | none => rw [hg] at c2; exact (c2 rfl).elim
  | some p => exact take_step' h.1 (decV_take hg)
theorem u64_wrap {n : Nat} (h : n ≤ 4611686018427387903) : u64 (IntKind.wrap .i64 (n : Int)) = n := by
  rw [wr64 _ (by omega) (by omega), u64_of (by omega) (by omega)]
  omega
theorem stN {s : List UInt8} {q : Int × Bool} {most : Int} (hm : most ≤ 4611686018427387903) (h : inS s q) : Step s q (rdN s most q).2 (Num.putN (u64 (rdN s most q).1)) := by
  intro hb
  unfold rdN at hb ⊢
  split at hb
  · cases hb
  rename_i hc
  obtain ⟨c1, c2⟩ := no_or hc
  rw [if_neg hc]
  refine ⟨c1, ?_⟩
  dsimp only
  cases hg : Num.getN s q.1 with
  | none => rw [hg] at c2; exact (c2 (.inl rfl)).elim
  | some p =>
    have e : nS s q.1 = p := by unfold nS; rw [hg]; rfl
    rw [e] at c2 ⊢
    rw [u64_wrap (by
      have := fun h => c2 (.inr h)
      omega)]
    exact take_step' h.1 (Num.getN_take hg)
theorem decS_take {s : List UInt8} {k : Int} {q : RD.T} {n : Nat} (h : decS s k = some (q, n)) (hk : 0 ≤ k) : (s.drop k.toNat).take n = encS q := by
  unfold decS at h
  cases hp : decP s k with
  | none => rw [hp] at h; cases h
  | some p =>
    rw [hp] at h
    dsimp only at h
    split at h
    case isFalse => cases h
    rename_i hok
    simp only [Option.some.injEq] at h
    rw [h] at hp hok
    unfold encS
    rw [if_pos hok]
    unfold decP at hp
    cases g1 : gnS s k with
    | none => rw [g1] at hp; cases hp
    | some p1 =>
    rw [g1] at hp; dsimp only at hp
    cases g2 : gnS s (k + p1.2) with
    | none => rw [g2] at hp; cases hp
    | some p2 =>
    rw [g2] at hp; dsimp only at hp
    cases g3 : gnS s (k + p1.2 + p2.2) with
    | none => rw [g3] at hp; cases hp
    | some p3 =>
    rw [g3] at hp; dsimp only at hp
    cases g4 : gnS s (k + p1.2 + p2.2 + p3.2) with
    | none => rw [g4] at hp; cases hp
    | some p4 =>
    rw [g4] at hp; dsimp only at hp
    cases g5 : Num.getT s (k + p1.2 + p2.2 + p3.2 + p4.2) 16 with
    | none => rw [g5] at hp; cases hp
    | some p5 =>
    rw [g5] at hp; dsimp only at hp
    cases g6 : Num.getT s (k + p1.2 + p2.2 + p3.2 + p4.2 + p5.2) 16 with
    | none => rw [g6] at hp; cases hp
    | some p6 =>
    rw [g6] at hp; dsimp only at hp
    cases g7 : Num.getT s (k + p1.2 + p2.2 + p3.2 + p4.2 + p5.2 + p6.2) 16 with
    | none => rw [g7] at hp; cases hp
    | some p7 =>
    rw [g7] at hp; dsimp only at hp
    cases g8 : Num.getT s (k + p1.2 + p2.2 + p3.2 + p4.2 + p5.2 + p6.2 + p7.2) 16 with
    | none => rw [g8] at hp; cases hp
    | some p8 =>
    rw [g8] at hp; dsimp only at hp
    simp only [Option.some.injEq, Prod.mk.injEq] at hp
    obtain ⟨rfl, rfl⟩ := hp
    have t1 := gnS_take (n := p1.1) (i := p1.2) g1 k.toNat rfl
    have t2 := gnS_take (n := p2.1) (i := p2.2) g2 (k.toNat + p1.2) (by omega)
    have t3 := gnS_take (n := p3.1) (i := p3.2) g3 (k.toNat + (p1.2 + p2.2)) (by omega)
    have t4 := gnS_take (n := p4.1) (i := p4.2) g4 (k.toNat + (p1.2 + p2.2 + p3.2)) (by omega)
    have t5 := gtS_take (t := p5.1) (i := p5.2) g5 (k.toNat + (p1.2 + p2.2 + p3.2 + p4.2)) (by omega)
    have t6 := gtS_take (t := p6.1) (i := p6.2) g6 (k.toNat + (p1.2 + p2.2 + p3.2 + p4.2 + p5.2)) (by omega)
    have t7 := gtS_take (t := p7.1) (i := p7.2) g7 (k.toNat + (p1.2 + p2.2 + p3.2 + p4.2 + p5.2 + p6.2)) (by omega)
    have t8 := gtS_take (t := p8.1) (i := p8.2) g8 (k.toNat + (p1.2 + p2.2 + p3.2 + p4.2 + p5.2 + p6.2 + p7.2)) (by omega)
    unfold bytS
    simp only [List.take_add, List.drop_drop, t1.1, t2.1, t3.1, t4.1, t5.1, t6.1, t7.1, t8.1]
    rfl
theorem stRt {s : List UInt8} (hs : s.length ≤ 100000000) {q : Int × Bool} (h : inS s q) : Step s q (q.1 + (rS' s q.1).2, q.2 || !(decS s q.1).isSome) (encS (rS' s q.1).1) := by
  intro hb
  dsimp only at hb ⊢
  rw [Bool.or_eq_false_iff, Bool.not_eq_false'] at hb
  refine ⟨hb.1, ?_⟩
  unfold rS'
  cases hg : decS s q.1 with
  | none => rw [hg] at hb; cases hb.2
  | some p => exact take_step' h.1 (decS_take hg h.1)
theorem stO {s : List UInt8} {q : Int × Bool} (h : inS s q) (hg : (opN (rdO s q).1).2 = true) : Step s q (rdO s q).2 (encRO (rdO s q).1) := by
  have hy := stY h
  have iy := rdY_in h
  unfold rdO at hg ⊢
  generalize rdY s q = y at hy hg iy
  obtain ⟨k, q1⟩ := y
  dsimp only at hy hg iy
  have hk : (k = 1 ∨ k = 2 ∨ k = 3 ∨ k = 4 ∨ k = 5) ∨ (¬ k = 1 ∧ ¬ k = 2 ∧ ¬ k = 3 ∧ ¬ k = 4 ∧ ¬ k = 5) := by omega
  rcases hk with (rfl | rfl | rfl | rfl | rfl) | ⟨b1, b2, b3, b4, b5⟩
  · exact hy.trans (stT iy)
  · have h2 := (hy.trans (stN (most := 4611686018427387903) (by decide) iy)).trans (stY (rdN_in iy))
    intro hb
    have hb' : ((rdY s (rdN s 4611686018427387903 q1).2).2.2 || decide (1 < (rdY s (rdN s 4611686018427387903 q1).2).1)) = false := hb
    rw [Bool.or_eq_false_iff, decide_eq_false_iff_not] at hb'
    obtain ⟨e1, e2⟩ := h2 hb'.1
    refine ⟨e1, ?_⟩
    show s.take (rdY s (rdN s 4611686018427387903 q1).2).2.1.toNat = s.take q.1.toNat ++ (kb 2 ++ Num.putN (u64 (rdN s 4611686018427387903 q1).1) ++ (if decide ((rdY s (rdN s 4611686018427387903 q1).2).1 = 1) = true then kb 1 else kb 0))
    rw [e2]
    congr 2
    have h0 : 0 ≤ (rdY s (rdN s 4611686018427387903 q1).2).1 := by
      unfold rdY
      split
      · exact Int.le_refl 0
      · exact (bt_rng _ _).1
    have : (rdY s (rdN s 4611686018427387903 q1).2).1 = 0 ∨ (rdY s (rdN s 4611686018427387903 q1).2).1 = 1 := by omega
    rcases this with e | e <;> rw [e] <;> rfl
  · have h2 := ((hy.trans (stT iy)).trans (stN (most := 4611686018427387903) (by decide) (rdT_in iy))).trans (stN (most := 4611686018427387903) (by decide) (rdN_in (rdT_in iy)))
    exact h2
  · exact hy.trans (stN (most := 4611686018427387903) (by decide) iy)
  · have h2 := ((hy.trans (stN (most := 4611686018427387903) (by decide) iy)).trans (stT (rdN_in iy))).trans (stV (rdT_in (rdN_in iy)))
    exact h2
  · exfalso
    rw [show opk k = [] by unfold opk; rw [if_neg b1, if_neg b2, if_neg b3, if_neg b4, if_neg b5]] at hg
    have : opN (o0 k) = (o0 k, false) := by simp [opN, o0, b1, b2, b3, b4, b5]
    have hg : (opN (o0 k)).2 = true := hg
    rw [this] at hg
    cases hg
theorem known_of {m : MD.T} (h : refgood m = true) : ∃ K : Int, m.1 = K ∧ (1 ≤ K ∧ K < 21) := by
  refine ⟨m.1, rfl, Decidable.byContradiction fun hn => ?_⟩
  have hk : ∀ K : Int, ¬ (1 ≤ K ∧ K < 21) → ¬ K = 1 ∧ ¬ K = 2 ∧ ¬ K = 3 ∧ ¬ K = 4 ∧ ¬ K = 5 ∧ ¬ K = 6 ∧ ¬ K = 7 ∧ ¬ K = 8 ∧ ¬ K = 9 ∧ ¬ K = 10 ∧ ¬ K = 11 ∧ ¬ K = 12 ∧ ¬ K = 13 ∧ ¬ K = 14 ∧ ¬ K = 15 ∧ ¬ K = 16 ∧ ¬ K = 17 ∧ ¬ K = 18 ∧ ¬ K = 19 ∧ ¬ K = 20 := fun K h => by omega
  obtain ⟨a1, a2, a3, a4, a5, a6, a7, a8, a9, a10, a11, a12, a13, a14, a15, a16, a17, a18, a19, a20⟩ := hk m.1 hn
  have : cmN m = (m0 m.1, false) := by simp [cmN, a1, a2, a3, a4, a5, a6, a7, a8, a9, a10, a11, a12, a13, a14, a15, a16, a17, a18, a19, a20]
  unfold refgood at h
  rw [this] at h
  cases h
theorem fold_kind (s : List UInt8) : ∀ (l : List UInt8) (st : MD.T × Int × Bool), (l.foldl (fun st f => rdMf s st f.toNat) st).1.1 = st.1.1
  | [], _ => rfl
  | f :: l, st => by
    rw [List.foldl_cons, fold_kind s l]
    unfold rdMf
    repeat' split
    all_goals rfl
/-- the bytes of what was read are what stood there -/
theorem rt2 {s : List UInt8} (hs : s.length ≤ 100000000) (hg : refgood (rdM s).1 = true) (hb : (rdM s).2.2 = false) (ha : (rdM s).2.1 = (s.length : Int)) : encR (rdM s).1 = s := by
  have h0 : inS s (0, false) := ⟨Int.le_refl 0, Int.natCast_nonneg _⟩
  have hy := stY h0
  have iy := rdY_in h0
  unfold rdM at hg hb ha ⊢
  generalize rdY s (0, false) = y at hy hg hb ha iy
  obtain ⟨k, q⟩ := y
  dsimp only at hy hg hb ha iy ⊢
  have hk : 1 ≤ k ∧ k < 21 := by
    obtain ⟨K, e, hK⟩ := known_of hg
    rw [fold_kind] at e
    rw [show k = K from e]
    exact hK
  have done : ∀ (q' : Int × Bool) (t : List UInt8), Step s (0, false) q' t → q'.2 = false → q'.1 = (s.length : Int) → t = s := fun q' t h hb ha => by
    have e := (h hb).2
    rw [ha] at e
    simp at e
    exact e.symm
  have hk' : k = 1 ∨ k = 2 ∨ k = 3 ∨ k = 4 ∨ k = 5 ∨ k = 6 ∨ k = 7 ∨ k = 8 ∨ k = 9 ∨ k = 10 ∨ k = 11 ∨ k = 12 ∨ k = 13 ∨ k = 14 ∨ k = 15 ∨ k = 16 ∨ k = 17 ∨ k = 18 ∨ k = 19 ∨ k = 20 := by omega
  rcases hk' with rfl | rfl | rfl | rfl | rfl | rfl | rfl | rfl | rfl | rfl | rfl | rfl | rfl | rfl | rfl | rfl | rfl | rfl | rfl | rfl
  · exact done _ _ hy hb ha
  · exact done _ _ hy hb ha
  · exact done _ _ hy hb ha
  · exact done _ _ (hy.trans (stT iy)) hb ha
  · exact done _ _ (hy.trans (stT iy)) hb ha
  · have hgo : (opN (rdO s q).1).2 = true := by
      have h1 : goodO (rdO s q).1 = true := by
        unfold refgood at hg
        rw [Bool.and_eq_true] at hg
        exact hg.1
      unfold goodO at h1
      rw [Bool.and_eq_true] at h1
      exact h1.1
    exact done _ _ (hy.trans (stO iy hgo)) hb ha
  · exact done _ _ (hy.trans (stN (most := 4611686018427387903) (by decide) iy)) hb ha
  · exact done _ _ (hy.trans (stN (most := 4611686018427387903) (by decide) iy)) hb ha
  · exact done _ _ (hy.trans ((stN (most := 4611686018427387903) (by decide) iy).trans (stT (rdN_in iy)))) hb ha
  · exact done _ _ (hy.trans ((stN (most := 4611686018427387903) (by decide) iy).trans (stT (rdN_in iy)))) hb ha
  · exact done _ _ (hy.trans (stT iy)) hb ha
  · exact done _ _ (hy.trans (((stT iy).trans (stT (rdT_in iy))).trans (stV (rdT_in (rdT_in iy))))) hb ha
  · exact done _ _ (hy.trans ((((stT iy).trans (stT (rdT_in iy))).trans (stV (rdT_in (rdT_in iy)))).trans (stV (rdV_in (rdT_in (rdT_in iy)))))) hb ha
  · exact done _ _ (hy.trans ((stT iy).trans (stN (most := 2) (by decide) (rdT_in iy)))) hb ha
  · exact done _ _ (hy.trans ((stT iy).trans (stN (most := 2) (by decide) (rdT_in iy)))) hb ha
  · exact done _ _ (hy.trans (stRt hs iy)) hb ha
  · exact done _ _ (hy.trans (stN (most := 1000000) (by decide) iy)) hb ha
  · exact done _ _ (hy.trans ((stT iy).trans (stT (rdT_in iy)))) hb ha
  · exact done _ _ (hy.trans ((stT iy).trans (stT (rdT_in iy)))) hb ha
  · exact done _ _ hy hb ha
end Go.Proofs.YtmdjonckcapkeaaGreatDoor
/- The reference's Decode of commands is the program's; no program in sight. Own work. -/
set_option linter.unusedVariables false
set_option maxRecDepth 100000
namespace Go.Proofs.YtmdjonckcapkeaaGreatDoor
open Go Go.RowKit OE

/-! what was put is read so -/
theorem rdT_put {t : List UInt8} {e : Bool} (h : (txS t e).2 = true) {s p r : List UInt8} (hs : s = p ++ (txS t e).1 ++ r) : rdT s ((p.length : Int), false) = (t, ((p.length + (txS t e).1.length : Nat) : Int), false) := by
  have g := tx_get h hs rfl
  unfold rdT tS
  dsimp only
  rw [g, if_neg (by rintro (h | h) <;> cases h)]
  simp
theorem rdN_put {n a b : Int} (h : (nuS n a b).2 = true) (ha : 0 ≤ a) {most : Int} (hm : most ≤ 4611686018427387903) (hb : b ≤ most) {s p r : List UInt8} (hs : s = p ++ (nuS n a b).1 ++ r) : rdN s most ((p.length : Int), false) = (n, ((p.length + (nuS n a b).1.length : Nat) : Int), false) := by
  obtain ⟨g, g0, g1⟩ := nu_get h ha (by omega) hs rfl
  have e : nS s (p.length : Int) = (n.toNat, (nuS n a b).1.length) := by unfold nS; rw [g]; rfl
  unfold rdN
  dsimp only
  rw [e, g, if_neg (by
    rintro (h | h | h)
    · cases h
    · cases h
    · dsimp only at h; omega)]
  dsimp only
  rw [wr64 _ (by omega) (by omega), Int.toNat_of_nonneg g0]
  simp
theorem rdV_put {v : VD.T} {e : Bool} (hv : Wf VD v) (h : (vaS v e).2 = true) {s p r : List UInt8} (hs : s = p ++ (vaS v e).1 ++ r) : rdV s ((p.length : Int), false) = (v, ((p.length + (vaS v e).1.length : Nat) : Int), false) := by
  have g := va_get hv h hs rfl
  unfold rdV vS'
  dsimp only
  rw [g, if_neg (by rintro (h | h) <;> cases h)]
  simp
theorem rdY_put {s p r : List UInt8} {K : Int} (h0 : 0 ≤ K) (h1 : K < 256) (hs : s = p ++ byl [IntKind.wrap .u8 K] ++ r) : rdY s ((p.length : Int), false) = (K, ((p.length + 1 : Nat) : Int), false) := by
  have hb : bt s (p.length : Int) = K := by rw [hs]; exact bt_first K h0 h1 p r
  have hl : (byl [IntKind.wrap .u8 K]).length = 1 := rfl
  have hlt : p.length < s.length := by rw [hs]; simp only [List.length_append, hl]; omega
  unfold rdY
  rw [if_neg (by
    rintro (h | h)
    · cases h
    · dsimp only at h; omega), hb]
  rfl
theorem fold_put {α : Type} {g : α × Int × Bool → Int → α × Int × Bool} {P : Int → List UInt8 × Bool} {S : α → Int → α} {F : Int → Prop} {s : List UInt8}
    (hG : ∀ (a : α) (f : Int) (p r : List UInt8), F f → (P f).2 = true → s = p ++ (P f).1 ++ r → g (a, (p.length : Int), false) f = (S a f, ((p.length + (P f).1.length : Nat) : Int), false)) :
    ∀ (l : List UInt8) (a : α) (p r : List UInt8), (∀ f ∈ l, F f.toNat) → (∀ f ∈ l, (P f.toNat).2 = true) → s = p ++ l.flatMap (fun f => (P f.toNat).1) ++ r → l.foldl (fun st f => g st f.toNat) (a, (p.length : Int), false) = (l.foldl (fun a f => S a f.toNat) a, ((p.length + (l.flatMap fun f => (P f.toNat).1).length : Nat) : Int), false)
  | [], a, p, r, _, _, _ => by simp
  | f :: l, a, p, r, hf, h, hs => by
    rw [List.foldl_cons, hG a f.toNat p (l.flatMap (fun f => (P f.toNat).1) ++ r) (hf f List.mem_cons_self) (h f List.mem_cons_self) (by rw [hs]; simp only [List.flatMap_cons, List.append_assoc]), ← List.length_append]
    rw [fold_put hG l _ (p ++ (P f.toNat).1) r (fun g hg => hf g (List.mem_cons_of_mem _ hg)) (fun g hg => h g (List.mem_cons_of_mem _ hg)) (by rw [hs]; simp only [List.flatMap_cons, List.append_assoc])]
    simp only [List.flatMap_cons, List.length_append, List.foldl_cons, Nat.add_assoc]
/-- the fields of changes -/
def fQ (f : Int) : Prop := f = 116 ∨ f = 110 ∨ f = 105 ∨ f = 97 ∨ f = 98 ∨ f = 119 ∨ f = 99
theorem rdOf_put {o : OD.T} (hv : Wf VD (oV o)) {s : List UInt8} (x : OD.T) (f : Int) (p r : List UInt8) (hf : fQ f) (h : (putO o f).2 = true) (hs : s = p ++ (putO o f).1 ++ r) : rdOf s (x, (p.length : Int), false) f = (setO x f o, ((p.length + (putO o f).1.length : Nat) : Int), false) := by
  rcases hf with rfl | rfl | rfl | rfl | rfl | rfl | rfl
  · have e := rdT_put (e := false) h hs
    show (oT x (rdT s ((p.length : Int), false)).1, (rdT s ((p.length : Int), false)).2) = _
    rw [e]; rfl
  · have e := rdT_put (e := false) h hs
    show (oN x (rdT s ((p.length : Int), false)).1, (rdT s ((p.length : Int), false)).2) = _
    rw [e]; rfl
  · have e := rdN_put (most := 4611686018427387903) h (by decide) (by decide) (by decide) hs
    show (oI x (rdN s 4611686018427387903 ((p.length : Int), false)).1, (rdN s 4611686018427387903 ((p.length : Int), false)).2) = _
    rw [e]; rfl
  · have e := rdN_put (most := 4611686018427387903) h (by decide) (by decide) (by decide) hs
    show (oF x (rdN s 4611686018427387903 ((p.length : Int), false)).1, (rdN s 4611686018427387903 ((p.length : Int), false)).2) = _
    rw [e]; rfl
  · have e := rdN_put (most := 4611686018427387903) h (by decide) (by decide) (by decide) hs
    show (oE x (rdN s 4611686018427387903 ((p.length : Int), false)).1, (rdN s 4611686018427387903 ((p.length : Int), false)).2) = _
    rw [e]; rfl
  · have e := rdV_put (e := true) hv h hs
    show (oVl x (rdV s ((p.length : Int), false)).1, (rdV s ((p.length : Int), false)).2) = _
    rw [e]; rfl
  · have hq : (putO o 99).1 = byl [IntKind.wrap .u8 (if o.2.2.2.2.2.2.2 = true then 1 else 0)] := by
      show (if o.2.2.2.2.2.2.2 = true then (([1] : List UInt8), true) else ([0], true)).1 = _
      cases o.2.2.2.2.2.2.2 <;> rfl
    rw [hq] at hs ⊢
    have e := rdY_put (by split <;> decide) (by split <;> decide) hs
    show (oC x (decide ((rdY s ((p.length : Int), false)).1 = 1)), (rdY s ((p.length : Int), false)).2.1, (rdY s ((p.length : Int), false)).2.2 || decide (1 < (rdY s ((p.length : Int), false)).1)) = (oC x o.2.2.2.2.2.2.2, _, false)
    rw [e]
    cases o.2.2.2.2.2.2.2 <;> rfl
theorem ops_fin2 : ∀ n : Fin 6, opk (n.1 : Int) = opsL.getD n.1 [] ∧ ∀ f ∈ opsL.getD n.1 [], ((f.toNat : Int) = 116 ∨ (f.toNat : Int) = 110 ∨ (f.toNat : Int) = 105 ∨ (f.toNat : Int) = 97 ∨ (f.toNat : Int) = 98 ∨ (f.toNat : Int) = 119 ∨ (f.toNat : Int) = 99) := by decide
theorem ops_of {K : Int} (h0 : 0 ≤ K) (h1 : K < 6) : opk K = gt (d := .str) opsL K ∧ ∀ f ∈ gt (d := .str) opsL K, fQ f.toNat := by
  obtain ⟨n, rfl⟩ := Int.eq_ofNat_of_zero_le h0
  exact ops_fin2 ⟨n, by omega⟩
theorem rdO_put {o : OD.T} (hv : Wf VD (oV o)) {s p r : List UInt8} (h : (chgS o).2 = true) (hs : s = p ++ (chgS o).1 ++ r) : rdO s ((p.length : Int), false) = (proO OD.df o, ((p.length + (chgS o).1.length : Nat) : Int), false) := by
  obtain ⟨K, hK, h0, h1, h2, h3⟩ := chg_form h
  have hP : proO OD.df o = (gt (d := .str) opsL K).foldl (fun x f => setO x f.toNat o) (oK OD.df K) := by unfold proO; rw [hK]
  have hl : (byl [IntKind.wrap .u8 K]).length = 1 := rfl
  rw [h3] at hs ⊢
  have hy := rdY_put h0 (by omega) (p := p) (r := (gt (d := .str) opsL K).flatMap (fun f => (putO o f.toNat).1) ++ r) (s := s) (by rw [hs]; simp only [List.append_assoc])
  obtain ⟨o1, o2⟩ := ops_of h0 h1
  unfold rdO
  rw [hy]
  dsimp only
  rw [o1, show p.length + 1 = (p ++ byl [IntKind.wrap .u8 K]).length by rw [List.length_append, hl]]
  have hf := fold_put (g := rdOf s) (P := putO o) (S := fun x f => setO x f o) (F := fQ) (s := s) (fun x f p r hf h hs => rdOf_put hv x f p r hf h hs) (gt (d := .str) opsL K) (o0 K) (p ++ byl [IntKind.wrap .u8 K]) r o2 h2 (by rw [hs]; simp only [List.append_assoc])
  rw [hf, hP]
  simp only [List.length_append, hl, Nat.add_assoc]
  rfl
theorem rdMf_put {m : MD.T} (hm : SmC m) {s : List UInt8} (a : MD.T) (f : Int) (ha : f = 111 → mOp a = OD.df) (p r : List UInt8) (hf : fM f) (h : (putM m f).2 = true) (hs : s = p ++ (putM m f).1 ++ r) : rdMf s (a, (p.length : Int), false) f = (setM a f m, ((p.length + (putM m f).1.length : Nat) : Int), false) := by
  rcases hf with rfl | rfl | rfl | rfl | rfl | rfl | rfl | rfl | rfl | rfl | rfl
  · have e := rdT_put (e := false) h hs
    show (mT a (rdT s ((p.length : Int), false)).1, (rdT s ((p.length : Int), false)).2) = _
    rw [e]; rfl
  · have e := rdT_put (e := true) h hs
    show (mT a (rdT s ((p.length : Int), false)).1, (rdT s ((p.length : Int), false)).2) = _
    rw [e]; rfl
  · have e := rdT_put (e := false) h hs
    show (mNm a (rdT s ((p.length : Int), false)).1, (rdT s ((p.length : Int), false)).2) = _
    rw [e]; rfl
  · have e := rdN_put (most := 4611686018427387903) h (by decide) (by decide) (by decide) hs
    show (mI a (rdN s 4611686018427387903 ((p.length : Int), false)).1, (rdN s 4611686018427387903 ((p.length : Int), false)).2) = _
    rw [e]; rfl
  · have e := rdV_put (e := false) hm.v h hs
    show (mVl a (rdV s ((p.length : Int), false)).1, (rdV s ((p.length : Int), false)).2) = _
    rw [e]; rfl
  · have e := rdV_put (e := true) hm.v h hs
    show (mVl a (rdV s ((p.length : Int), false)).1, (rdV s ((p.length : Int), false)).2) = _
    rw [e]; rfl
  · have e := rdV_put (e := true) hm.to h hs
    show (mW a (rdV s ((p.length : Int), false)).1, (rdV s ((p.length : Int), false)).2) = _
    rw [e]; rfl
  · have e := rdN_put (most := 2) h (by decide) (by decide) (by decide) hs
    show (mM a (rdN s 2 ((p.length : Int), false)).1, (rdN s 2 ((p.length : Int), false)).2) = _
    rw [e]; rfl
  · have e := rdN_put (most := 1000000) h (by decide) (by decide) (by decide) hs
    show (mM a (rdN s 1000000 ((p.length : Int), false)).1, (rdN s 1000000 ((p.length : Int), false)).2) = _
    rw [e]; rfl
  · have e := ru_get (r := mRule m) h hs rfl
    show (mR a (rS' s (p.length : Int)).1, (p.length : Int) + (rS' s (p.length : Int)).2, false || !(decS s (p.length : Int)).isSome) = _
    unfold rS'
    rw [e]
    show (mR a (mRule m), _, _) = (mR a (mRule m), _, _)
    simp
    rfl
  · have e := rdO_put hm.ov (o := mOp m) h hs
    show (sO a (rdO s ((p.length : Int), false)).1, (rdO s ((p.length : Int), false)).2) = (sO a (proO (mOp a) (mOp m)), _, _)
    rw [e, ha rfl]; rfl
theorem cmd_no6 : ∀ n : Fin 21, n.1 ≠ 6 → ∀ f ∈ cmdL.getD n.1 [], (f.toNat : Int) ≠ 111 := by decide
theorem cmd_not {K : Int} (h1 : 1 ≤ K) (h2 : K < 21) (h6 : ¬ K = 6) : ∀ f ∈ gt (d := .str) cmdL K, (f.toNat : Int) ≠ 111 :=
  cmd_no6 ⟨K.toNat, by omega⟩ (by dsimp only; omega)
/-- a command's bytes are read as its kind's fields -/
theorem rdM_put {m : MD.T} (hm : SmC m) (h : (bytM m).2 = true) : rdM (bytM m).1 = (proM m, ((bytM m).1.length : Int), false) := by
  obtain ⟨K, hK, h0, h1, h2, h3⟩ := byt_form h
  have hP : proM m = (gt (d := .str) cmdL K).foldl (fun a f => setM a f.toNat m) (m0 K) := by unfold proM; rw [hK]
  have hl : (byl [IntKind.wrap .u8 K]).length = 1 := rfl
  generalize (bytM m).1 = s at h3
  have hy := rdY_put (p := []) (K := K) (by omega) (by omega) (s := s) (r := (gt (d := .str) cmdL K).flatMap (fun f => (putM m f.toNat).1)) (by rw [h3]; rfl)
  have hy : rdY s (0, false) = (K, ((1 : Nat) : Int), false) := hy
  have hlen : s.length = 1 + ((gt (d := .str) cmdL K).flatMap fun f => (putM m f.toNat).1).length := by rw [h3, List.length_append, hl]
  unfold rdM
  rw [hy]
  dsimp only
  rw [hP, hlen]
  by_cases h6 : K = 6
  · subst h6
    have hc : (putM m 111).2 = true := h2 111 (by decide)
    have hs : s = byl [IntKind.wrap .u8 6] ++ (putM m 111).1 ++ [] := by rw [h3]; rfl
    have e := rdMf_put hm (m0 6) 111 (fun _ => rfl) (byl [IntKind.wrap .u8 6]) [] (by unfold fM; omega) hc hs
    show rdMf s (m0 6, ((1 : Nat) : Int), false) 111 = (setM (m0 6) 111 m, ((1 + ((putM m 111).1 ++ []).length : Nat) : Int), false)
    rw [List.append_nil]
    exact e
  · have hf := fold_put (g := rdMf s) (P := putM m) (S := fun a f => setM a f m) (F := fun f => fM f ∧ f ≠ 111) (s := s) (fun a f p r hf h hs => rdMf_put hm a f (fun e => (hf.2 e).elim) p r hf.1 h hs) (gt (d := .str) cmdL K) (m0 K) (byl [IntKind.wrap .u8 K]) [] (fun f hf => ⟨(cmd_ok K).2 f hf, cmd_not h0 h1 h6 f hf⟩) h2 (by rw [h3, List.append_nil])
    rw [hl] at hf
    exact hf

/-! what is read is small -/
theorem rdT_sm (s : List UInt8) (q : Int × Bool) : (rdT s q).1.length ≤ 1000 := by
  unfold rdT
  split
  · exact Nat.zero_le _
  · exact tS_sm s q.1
theorem rdV_sm (s : List UInt8) (q : Int × Bool) : Wf VD (rdV s q).1 := by
  unfold rdV
  split
  · exact wf0
  · exact vS_sm s q.1
structure SmO (o : OD.T) : Prop where
  t : o.2.2.1.length ≤ 1000
  n : o.2.2.2.2.2.1.length ≤ 1000
  v : Wf VD (oV o)
theorem rdOf_sm {s : List UInt8} {st : OD.T × Int × Bool} {f : Int} (h : SmO st.1) : SmO (rdOf s st f).1 := by
  unfold rdOf
  repeat' split
  · exact ⟨rdT_sm s st.2, h.n, h.v⟩
  · exact ⟨h.t, rdT_sm s st.2, h.v⟩
  · exact ⟨h.t, h.n, h.v⟩
  · exact ⟨h.t, h.n, h.v⟩
  · exact ⟨h.t, h.n, h.v⟩
  · exact ⟨h.t, h.n, rdV_sm s st.2⟩
  · exact ⟨h.t, h.n, h.v⟩
theorem fold_sm {α : Type} {Q : α → Prop} {g : α × Int × Bool → UInt8 → α × Int × Bool} (hg : ∀ st f, Q st.1 → Q (g st f).1) : ∀ (l : List UInt8) (st : α × Int × Bool), Q st.1 → Q (l.foldl g st).1
  | [], _, h => h
  | f :: l, st, h => fold_sm hg l _ (hg st f h)
theorem rdO_sm (s : List UInt8) (q : Int × Bool) : SmO (rdO s q).1 := fold_sm (fun st f h => rdOf_sm h) _ _ ⟨Nat.zero_le _, Nat.zero_le _, wf0⟩
theorem rdMf_sm {s : List UInt8} {st : MD.T × Int × Bool} {f : Int} (h : SmC st.1) : SmC (rdMf s st f).1 := by
  unfold rdMf
  repeat' split
  · exact ⟨rdT_sm s st.2, h.nm, h.v, h.to, h.oty, h.onm, h.ov⟩
  · exact ⟨h.ty, rdT_sm s st.2, h.v, h.to, h.oty, h.onm, h.ov⟩
  · exact ⟨h.ty, h.nm, h.v, h.to, h.oty, h.onm, h.ov⟩
  · exact ⟨h.ty, h.nm, rdV_sm s st.2, h.to, h.oty, h.onm, h.ov⟩
  · exact ⟨h.ty, h.nm, h.v, rdV_sm s st.2, h.oty, h.onm, h.ov⟩
  · exact ⟨h.ty, h.nm, h.v, h.to, h.oty, h.onm, h.ov⟩
  · exact ⟨h.ty, h.nm, h.v, h.to, h.oty, h.onm, h.ov⟩
  · exact ⟨h.ty, h.nm, h.v, h.to, h.oty, h.onm, h.ov⟩
  · have ho := rdO_sm s st.2
    exact ⟨h.ty, h.nm, h.v, h.to, ho.t, ho.n, ho.v⟩
theorem rdM_sm (s : List UInt8) : SmC (rdM s).1 := fold_sm (fun st f h => rdMf_sm h) _ _ (m0_sm _)

/-- the reference reads what the program reads -/
theorem dec_fwd {s : List UInt8} (hs : s.length ≤ 100000000) (h : okRD s (rdM s) = true) : decOk s = true ∧ decM s = (rdM s).1 := by
  unfold okRD at h
  rw [Bool.not_eq_true', Bool.or_eq_false_iff, Bool.or_eq_false_iff, Bool.not_eq_false', Bool.not_eq_false', decide_eq_true_eq] at h
  obtain ⟨⟨hb, ha⟩, hg⟩ := h
  have e := rt2 hs hg hb ha
  have hm := rdM_sm s
  generalize (rdM s).1 = c at hg e hm
  rw [← good_eq hm] at hg
  have hb := enc_eq hg
  rw [e] at hb
  have h2 := back_enc hg
  rw [hb] at h2
  exact h2
theorem dec_bwd {s : List UInt8} (h : decOk s = true) : okRD s (rdM s) = true := by
  obtain ⟨g1, g2⟩ := back_dec h
  have hm : SmC (decM s) := by rw [show decM s = (readS s).1 from if_pos h]; exact read_sm s
  generalize decM s = m at g1 g2 hm
  have hb : (bytM m).2 = true := by
    unfold goodM at g1
    rw [Bool.and_eq_true] at g1
    exact g1.1
  have hp : proM m = m := by
    have g1' := g1
    rw [good_pro hm, Bool.and_eq_true] at g1'
    exact (D.eqb_iff MD _ _).1 g1'.2
  have e := rdM_put hm hb
  rw [show encM m = (bytM m).1 from if_pos g1] at g2
  rw [g2, hp] at e
  rw [e]
  unfold okRD
  rw [← good_eq hm, g1]
  simp
theorem dec_eq {s : List UInt8} (hs : s.length ≤ 100000000) : decRP s (rdM s) = decM s ∧ derRP s (rdM s) = derM s := by
  by_cases h : okRD s (rdM s) = true
  · obtain ⟨h1, h2⟩ := dec_fwd hs h
    exact ⟨by rw [h2]; exact if_pos h, by rw [show derM s = 0 from if_pos h1]; exact if_pos h⟩
  · have h1 : ¬ decOk s = true := fun h1 => h (dec_bwd h1)
    exact ⟨by rw [show decM s = MD.df from if_neg h1]; exact if_neg h, by rw [show derM s = 11 from if_neg h1]; exact if_neg h⟩
end Go.Proofs.YtmdjonckcapkeaaGreatDoor
/- The walk of the reference's Good of replies. Own work. -/
set_option linter.unusedVariables false
set_option maxRecDepth 100000
namespace Go.Proofs.YtmdjonckcapkeaaGreatDoor.Ans
open Go Go.RowKit OE

theorem ref25_id (n : Int) : FnD Tryz.prog 92 [.c (.int .i64 n)] (· = .c (.bool (.sym (okId n)))) := by
  refine fn0 Tryz.func92 rfl rfl rfl ?_
  conv => whnf
  rfl
theorem empty_eq (c : CD.T) : CD.eqb c C0 = emptyC c := by
  rw [Bool.eq_iff_iff, D.eqb_iff]
  unfold emptyC
  obtain ⟨a, b, c, d, e⟩ := c
  simp only [Bool.and_eq_true, decide_eq_true_eq]
  constructor
  · intro h
    cases h
    exact ⟨rfl, rfl⟩
  · rintro ⟨h1, h2⟩
    have ha : a = [] := List.eq_nil_of_length_eq_zero (by omega)
    have hb : b = [] := List.eq_nil_of_length_eq_zero (by omega)
    have hc : c = [] := List.eq_nil_of_length_eq_zero (by omega)
    have hd : d = [] := List.eq_nil_of_length_eq_zero (by omega)
    have he : e = 0 := h1
    subst ha hb hc hd he
    rfl
theorem keep_CatsN (c : CD.T) : FnD Tryz.prog 94 [.agg (cc c), .agg cn] (· = .c (.bool (.sym (CD.eqb c C0)))) :=
  (keep_Cats c C0).args fun w ok => ⟨fun _ h => h, fun v h => by
    obtain ⟨us, e2, hl2⟩ := h
    refine ⟨us, e2, ?_⟩
    generalize us.toList = n at hl2
    match n, hl2 with
    | [a, b, c, d, e], ⟨h1, h2, h3, h4, h5, _⟩ => exact ⟨nilC h1, nilC h2, nilC h3, nilC h4, h5, trivial⟩, trivial⟩
theorem ref25_Good (r : AD.T) : FnD Tryz.prog 72 [.agg (ac r)] (· = .c (.bool (.sym (goodA r)))) := by
  refine fn0 Tryz.func72 rfl rfl rfl ?_
  conv => whnf
  refine callg0 (fun _ => ref25_id r.2.1) rfl ?_
  conv => whnf
  intro _
  conv => whnf
  intro _
  conv => whnf
  intro _
  conv => whnf
  refine ⟨fun g => ?_, fun g => ?_⟩
  · have : headA r = false := by
      unfold headA bndA
      revert g
      cases okId r.2.1
      · simp
      · intro g
        rw [show (decide ((r.1 : Int) < 0) || decide (1000 < (r.1 : Int)) || decide ((r.2.2.1 : Int) < 0) || decide (1000000 < (r.2.2.1 : Int)) || decide ((1024 : Int) < r.2.2.2.1.length) || decide ((1024 : Int) < r.2.2.2.2.1.length) || decide ((1024 : Int) < r.2.2.2.2.2.1.length)) = true from by simpa using g]
        rfl
    rw [show goodA r = false by unfold goodA; rw [this]; rfl]
    conv => whnf
  have gb : bndA r = false ∧ okId r.2.1 = true := by
    unfold bndA
    revert g
    cases okId r.2.1
    · simp
    · intro g
      exact ⟨by simpa using g, rfl⟩
  have hG : goodA r = (r.2.2.2.1.all goodN && (r.2.2.2.2.1.all goodE && (idsS r.2.2.2.2.2.1 && (emptyC (aC r) || goodC (aC r))))) := by
    unfold goodA headA
    rw [gb.1, gb.2]
    cases idsS r.2.2.2.2.2.1 <;> cases r.2.2.2.1.all goodN <;> cases r.2.2.2.2.1.all goodE <;> rfl
  rw [hG]
  conv => whnf
  refine loop0 (α := Nat) (fun i => i ≤ r.2.2.2.1.length ∧ (r.2.2.2.1.take i).all goodN = true) (fun i => ⟨[(1, .c (.ptr 0 0)), (3, .c (.int .i64 i))], [(0, .cells 40 (ac r))], 1⟩) (fun i => r.2.2.2.1.length - i) ⟨0, ⟨by omega, by simp⟩, ?_⟩ ?_
  · (conv => whnf); refine ⟨rfl, ?_, ?_, ?_⟩ <;> (repeat' apply And.intro) <;> first | exact trivial | rfl | exact wr_succ _ (by omega) | assumption | exact decide_eq_false (by assumption) | exact decide_eq_true (by assumption)
  rintro i ⟨hi, hI⟩
  conv => whnf
  intro hlen
  conv => whnf
  refine ⟨fun h2 => ?_, fun h2 => ?_⟩
  · have h2 : i < r.2.2.2.1.length := by rw [decide_eq_true_eq] at h2; omega
    conv => whnf
    try (intro _; conv => whnf)
    refine ⟨by omega, ?_⟩
    rw [gt_nat (d := ND) r.2.2.2.1 i h2]
    conv => whnf
    refine call1 (ref25_id r.2.2.2.1[i].1) rfl ?_
    conv => whnf
    refine callg0 (fun _ => ref_Name r.2.2.2.1[i].2.1) rfl ?_
    conv => whnf
    refine callg0 (fun _ => refval_Props r.2.2.2.1[i].2.2) rfl ?_
    conv => whnf
    refine ⟨fun h3 => ?_, fun h3 => ?_⟩
    · have : goodN r.2.2.2.1[i] = false := by
        unfold goodN
        revert h3
        cases okId r.2.2.2.1[i].1 <;> cases nameS r.2.2.2.1[i].2.1 <;> cases propsS r.2.2.2.1[i].2.2 <;> simp
      rw [all_no h2 this]
      conv => whnf
      rfl
    have h3 : goodN r.2.2.2.1[i] = true := by
      unfold goodN
      revert h3
      cases okId r.2.2.2.1[i].1 <;> cases nameS r.2.2.2.1[i].2.1 <;> cases propsS r.2.2.2.1[i].2.2 <;> simp
    conv => whnf
    refine ⟨i + 1, ⟨⟨by omega, by rw [all_step h2, hI, h3]; rfl⟩, by omega⟩, ?_⟩
    (conv => whnf); refine ⟨rfl, ?_, ?_, ?_⟩ <;> (repeat' apply And.intro) <;> first | exact trivial | rfl | exact wr_succ _ (by omega) | assumption | exact decide_eq_false (by assumption) | exact decide_eq_true (by assumption)
  have h2 : r.2.2.2.1.length ≤ i := by rw [decide_eq_false_iff_not] at h2; omega
  rw [show r.2.2.2.1.all goodN = true by rw [List.take_of_length_le h2] at hI; exact hI]
  clear hI h2 hi
  conv => whnf
  refine loop0 (α := Nat) (fun i => i ≤ r.2.2.2.2.1.length ∧ (r.2.2.2.2.1.take i).all goodE = true) (fun i => ⟨[(1, .c (.ptr 0 0)), (5, .c (.int .i64 i))], [(0, .cells 40 (ac r))], 1⟩) (fun i => r.2.2.2.2.1.length - i) ⟨0, ⟨by omega, by simp⟩, ?_⟩ ?_
  · (conv => whnf); refine ⟨rfl, ?_, ?_, ?_⟩ <;> (repeat' apply And.intro) <;> first | exact trivial | rfl | exact wr_succ _ (by omega) | assumption | exact decide_eq_false (by assumption) | exact decide_eq_true (by assumption)
  rintro i ⟨hi, hI⟩
  conv => whnf
  intro hlen2
  conv => whnf
  refine ⟨fun h2 => ?_, fun h2 => ?_⟩
  · have h2 : i < r.2.2.2.2.1.length := by rw [decide_eq_true_eq] at h2; omega
    conv => whnf
    try (intro _; conv => whnf)
    refine ⟨by omega, ?_⟩
    rw [gt_nat (d := ED) r.2.2.2.2.1 i h2]
    conv => whnf
    refine call1 (ref25_id r.2.2.2.2.1[i].1) rfl ?_
    conv => whnf
    refine callg0 (fun _ => ref_Name r.2.2.2.2.1[i].2.1) rfl ?_
    conv => whnf
    refine callg0 (fun _ => ref25_id r.2.2.2.2.1[i].2.2.1) rfl ?_
    conv => whnf
    refine callg0 (fun _ => ref25_id r.2.2.2.2.1[i].2.2.2.1) rfl ?_
    conv => whnf
    refine callg0 (fun _ => refval_Props r.2.2.2.2.1[i].2.2.2.2) rfl ?_
    conv => whnf
    refine ⟨fun h3 => ?_, fun h3 => ?_⟩
    · have : goodE r.2.2.2.2.1[i] = false := by
        unfold goodE
        revert h3
        cases okId r.2.2.2.2.1[i].1 <;> cases okId r.2.2.2.2.1[i].2.2.1 <;> cases okId r.2.2.2.2.1[i].2.2.2.1 <;> cases nameS r.2.2.2.2.1[i].2.1 <;> cases propsS r.2.2.2.2.1[i].2.2.2.2 <;> simp
      rw [all_no h2 this]
      conv => whnf
      rfl
    have h3 : goodE r.2.2.2.2.1[i] = true := by
      unfold goodE
      revert h3
      cases okId r.2.2.2.2.1[i].1 <;> cases okId r.2.2.2.2.1[i].2.2.1 <;> cases okId r.2.2.2.2.1[i].2.2.2.1 <;> cases nameS r.2.2.2.2.1[i].2.1 <;> cases propsS r.2.2.2.2.1[i].2.2.2.2 <;> simp
    conv => whnf
    refine ⟨i + 1, ⟨⟨by omega, by rw [all_step h2, hI, h3]; rfl⟩, by omega⟩, ?_⟩
    (conv => whnf); refine ⟨rfl, ?_, ?_, ?_⟩ <;> (repeat' apply And.intro) <;> first | exact trivial | rfl | exact wr_succ _ (by omega) | assumption | exact decide_eq_false (by assumption) | exact decide_eq_true (by assumption)
  have h2 : r.2.2.2.2.1.length ≤ i := by rw [decide_eq_false_iff_not] at h2; omega
  rw [show r.2.2.2.2.1.all goodE = true by rw [List.take_of_length_le h2] at hI; exact hI]
  clear hI h2 hi
  conv => whnf
  refine loop0 (α := Nat) (fun i => i ≤ r.2.2.2.2.2.1.length ∧ (r.2.2.2.2.2.1.take i).all okId = true) (fun i => ⟨[(1, .c (.ptr 0 0)), (7, .c (.int .i64 i))], [(0, .cells 40 (ac r))], 1⟩) (fun i => r.2.2.2.2.2.1.length - i) ⟨0, ⟨by omega, by simp⟩, ?_⟩ ?_
  · (conv => whnf); refine ⟨rfl, ?_, ?_, ?_⟩ <;> (repeat' apply And.intro) <;> first | exact trivial | rfl | exact wr_succ _ (by omega) | assumption | exact decide_eq_false (by assumption) | exact decide_eq_true (by assumption)
  rintro i ⟨hi, hI⟩
  conv => whnf
  intro hlen3
  conv => whnf
  refine ⟨fun h2 => ?_, fun h2 => ?_⟩
  · have h2 : i < r.2.2.2.2.2.1.length := by rw [decide_eq_true_eq] at h2; omega
    conv => whnf
    try (intro _; conv => whnf)
    refine ⟨by omega, ?_⟩
    rw [gt_nat (d := LD) r.2.2.2.2.2.1 i h2]
    conv => whnf
    refine call1 (ref25_id r.2.2.2.2.2.1[i]) rfl ?_
    conv => whnf
    refine ⟨fun h3 => ?_, fun h3 => ?_⟩
    · have h3 : okId r.2.2.2.2.2.1[i] = false := by
        revert h3
        cases okId r.2.2.2.2.2.1[i] <;> simp
      rw [show idsS r.2.2.2.2.2.1 = false from all_no h2 h3]
      conv => whnf
      rfl
    have h3 : okId r.2.2.2.2.2.1[i] = true := by
      revert h3
      cases okId r.2.2.2.2.2.1[i] <;> simp
    conv => whnf
    refine ⟨i + 1, ⟨⟨by omega, by rw [all_step h2, hI, h3]; rfl⟩, by omega⟩, ?_⟩
    (conv => whnf); refine ⟨rfl, ?_, ?_, ?_⟩ <;> (repeat' apply And.intro) <;> first | exact trivial | rfl | exact wr_succ _ (by omega) | assumption | exact decide_eq_false (by assumption) | exact decide_eq_true (by assumption)
  have h2 : r.2.2.2.2.2.1.length ≤ i := by rw [decide_eq_false_iff_not] at h2; omega
  rw [show idsS r.2.2.2.2.2.1 = true by rw [List.take_of_length_le h2] at hI; exact hI]
  clear hI h2 hi
  conv => whnf
  refine call1 (keep_CatsN (aC r)) rfl ?_
  conv => whnf
  refine callg0 (fun _ => ref16_Good (aC r)) rfl ?_
  conv => whnf
  rw [empty_eq]
  rfl
end Go.Proofs.YtmdjonckcapkeaaGreatDoor.Ans
/- The walk of the reference's Encode. Own work. -/
set_option linter.unusedVariables false
set_option maxRecDepth 100000
namespace Go.Proofs.YtmdjonckcapkeaaGreatDoor
open Go Go.RowKit OE

theorem ref_PutI (x : Int) (h0 : 0 ≤ x) (h1 : x ≤ 1000000) : FnD Tryz.prog 76 [.c (.int .u64 (IntKind.wrap .u64 x))] (· = .c (.str (Num.putN x.toNat))) := by
  rw [wuN x h0 h1]
  exact ref_Put _ (by omega)
theorem ref16_texts (l : List SD.T) (hn : l.length ≤ 16) (ht : ∀ s ∈ l, nameS s = true) : FnD Tryz.prog 97 [.c (.dat SD l)] (· = .c (.str (Num.putN l.length ++ txtB l))) := by
  refine fn0 Tryz.func97 rfl rfl rfl ?_
  conv => whnf
  intro _
  conv => whnf
  refine call1 (ref_PutI (l.length : Int) (Int.natCast_nonneg _) (by omega)) rfl ?_
  conv => whnf
  have pn := putN_b (l.length : Int) (by omega)
  refine loop0 (α := Nat × List UInt8) (fun p => p.1 ≤ l.length ∧ p.2 = Num.putN l.length ++ txtB (l.take p.1))
    (fun p => ⟨[(0, .c (.dat SD l)), (3, .c (.str p.2)), (4, .c (.int .i64 p.1))], [], 0⟩) (fun p => l.length - p.1) ⟨(0, Num.putN (l.length : Int).toNat), ⟨Nat.zero_le _, (List.append_nil _).symm⟩, ?_⟩ ?_
  · (conv => whnf); refine ⟨rfl, ?_, ?_, ?_⟩ <;> (repeat' apply And.intro) <;> first | exact trivial | rfl | exact wr_succ _ (by omega) | assumption | exact decide_eq_false (by assumption) | exact decide_eq_true (by assumption)
  rintro ⟨i, s⟩ ⟨hI1, hI2⟩
  dsimp only at hI1 hI2 ⊢
  have hs : s.length ≤ 450 := by
    have h5 := txtB_len (l := l.take i) fun s hs => ht s (List.mem_of_mem_take hs)
    rw [List.length_take] at h5
    rw [Int.toNat_natCast] at pn
    rw [hI2]; simp only [List.length_append]; omega
  conv => whnf
  intro _
  refine ⟨fun h2 => ?_, fun h2 => ?_⟩
  · have h2 : i < l.length := by simp at h2; omega
    have h4 := putT_b (nameS_len (ht _ (List.getElem_mem h2)))
    have h3 := nameS_len (ht _ (List.getElem_mem h2))
    conv => whnf
    try (intro _; conv => whnf)
    refine ⟨by omega, ?_⟩
    rw [gt_nat (d := SD) l i h2]
    conv => whnf
    refine call1 (ref_PutText _ (by omega)) rfl ?_
    conv => whnf
    refine ⟨by omega, ?_⟩
    conv => whnf
    refine ⟨(i + 1, s ++ Num.putT l[i]), ⟨⟨h2, ?_⟩, by dsimp only; omega⟩, ?_⟩
    · dsimp only
      rw [txtB_step h2, hI2]; simp only [List.append_assoc]
    · (conv => whnf); refine ⟨rfl, ?_, ?_, ?_⟩ <;> (repeat' apply And.intro) <;> first | exact trivial | rfl | exact wr_succ _ (by omega) | assumption | exact decide_eq_false (by assumption) | exact decide_eq_true (by assumption)
  rw [List.take_of_length_le (by simp at h2; omega)] at hI2
  rw [← hI2]
  conv => whnf

theorem ref16_Encode (c : CD.T) : FnD Tryz.prog 75 [.agg (cc c)] (· = .tup [(false, [.str (encCS c)]), (false, [.int .i64 (errCS c)])]) := by
  refine fn0 Tryz.func75 rfl rfl rfl ?_
  conv => whnf
  refine call1 (ref16_Good c) rfl ?_
  conv => whnf
  refine ⟨fun h1 => ?_, fun h1 => ?_⟩
  · have h1 := not_t h1
    conv => whnf
    simp [encCS, errCS, h1]
  have h1 := not_f h1
  rw [encCS, errCS, if_pos h1, if_pos h1]
  have hg := goodC_out h1
  have b1 := txtB_len hg.t1
  have b2 := txtB_len hg.t2
  have m1 := hg.n1
  have m2 := hg.n2
  have p1 := putN_b (c.1.length : Int) (by omega)
  have p2 := putN_b (c.2.1.length : Int) (by omega)
  have pn2 := putN_b (c.2.2.1.length : Int) (by have := hg.n3; omega)
  rw [Int.toNat_natCast] at p1 p2 pn2
  conv => whnf
  refine any0 ?_
  conv => whnf
  refine callr0 (ref16_texts c.1 hg.n1 hg.t1) rfl ?_
  conv => whnf
  refine callr0 (ref16_texts c.2.1 hg.n2 hg.t2) rfl ?_
  conv => whnf
  refine ⟨by simp only [List.length_append]; omega, ?_⟩
  conv => whnf
  refine callr0 (ref_PutI (c.2.2.1.length : Int) (Int.natCast_nonneg _) (by have := hg.n3; omega)) rfl ?_
  conv => whnf
  refine ⟨by simp only [List.length_append]; rw [Int.toNat_natCast]; omega, ?_⟩
  conv => whnf
  refine ⟨.inl (by kernel_rfl), after0 ?_⟩
  conv => whnf
  refine loop0 (α := Nat × List UInt8) (fun p => p.1 ≤ (c.2.2.1).length ∧ p.2 = Num.putN c.1.length ++ txtB c.1 ++ (Num.putN c.2.1.length ++ txtB c.2.1) ++ Num.putN (c.2.2.1).length ++ flB encS ((c.2.2.1).take p.1))
    (fun p => ⟨[(1, .c (.ptr 0 0)), (4, .c (.str p.2)), (5, .c (.int .i64 p.1))], [(0, .cells 38 (cc c))], 1⟩) (fun p => (c.2.2.1).length - p.1) ⟨(0, Num.putN c.1.length ++ txtB c.1 ++ (Num.putN c.2.1.length ++ txtB c.2.1) ++ Num.putN ((c.2.2.1).length : Int).toNat), ⟨Nat.zero_le _, (List.append_nil _).symm⟩, ?_⟩ ?_
  · (conv => whnf); refine ⟨rfl, ?_, ?_, ?_⟩ <;> (repeat' apply And.intro) <;> first | exact trivial | rfl | exact wr_succ _ (by omega) | assumption | exact decide_eq_false (by assumption) | exact decide_eq_true (by assumption)
  rintro ⟨i2, s2⟩ ⟨hL1, hL2⟩
  dsimp only at hL1 hL2 ⊢
  have hs2 : (s2).length ≤ 4000 := by
    have h5 := flB_len encS 144 (l := (c.2.2.1).take i2) fun s hs => encS_len s
    have h6 := hg.n3
    rw [List.length_take] at h5
    rw [hL2]; simp only [List.length_append]; omega
  conv => whnf
  intro _
  refine ⟨fun h2 => ?_, fun h2 => ?_⟩
  · have h2 : i2 < (c.2.2.1).length := by simp at h2; omega
    have h4 := encS_len c.2.2.1[i2]
    conv => whnf
    try (intro _; conv => whnf)
    refine ⟨by omega, ?_⟩
    rw [gt_nat (d := RD) c.2.2.1 i2 h2]
    conv => whnf
    refine call1 (refrule_Encode c.2.2.1[i2]) rfl ?_
    conv => whnf
    refine ⟨by omega, ?_⟩
    conv => whnf
    refine ⟨(i2 + 1, s2 ++ encS (c.2.2.1)[i2]), ⟨⟨h2, ?_⟩, by dsimp only; omega⟩, ?_⟩
    · dsimp only
      rw [flB_step _ h2, hL2]; simp only [List.append_assoc]
    · (conv => whnf); refine ⟨rfl, ?_, ?_, ?_⟩ <;> (repeat' apply And.intro) <;> first | exact trivial | rfl | exact wr_succ _ (by omega) | assumption | exact decide_eq_false (by assumption) | exact decide_eq_true (by assumption)
  rw [List.take_of_length_le (by simp at h2; omega)] at hL2
  clear h2
  conv => whnf
  intro _
  conv => whnf
  refine call1 (ref_PutI ((c.2.2.2.1).length : Int) (Int.natCast_nonneg _) (by have := hg.n4; omega)) rfl ?_
  conv => whnf
  have pn3 := putN_b ((c.2.2.2.1).length : Int) (by have := hg.n4; omega)
  refine ⟨by omega, ?_⟩
  conv => whnf
  refine loop0 (α := Nat × List UInt8) (fun p => p.1 ≤ (c.2.2.2.1).length ∧ p.2 = s2 ++ Num.putN (c.2.2.2.1).length ++ flB ixB ((c.2.2.2.1).take p.1))
    (fun p => ⟨[(1, .c (.ptr 0 0)), (4, .c (.str p.2)), (8, .c (.int .i64 p.1))], [(0, .cells 38 (cc c))], 1⟩) (fun p => (c.2.2.2.1).length - p.1) ⟨(0, s2 ++ Num.putN ((c.2.2.2.1).length : Int).toNat), ⟨Nat.zero_le _, (List.append_nil _).symm⟩, ?_⟩ ?_
  · (conv => whnf); refine ⟨rfl, ?_, ?_, ?_⟩ <;> (repeat' apply And.intro) <;> first | exact trivial | rfl | exact wr_succ _ (by omega) | assumption | exact decide_eq_false (by assumption) | exact decide_eq_true (by assumption)
  rintro ⟨i3, s3⟩ ⟨hM1, hM2⟩
  dsimp only at hM1 hM2 ⊢
  have hs3 : (s3).length ≤ 6000 := by
    have h5 := flB_len ixB 52 (l := (c.2.2.2.1).take i3) fun x hx => by
      have := hg.il (List.mem_of_mem_take hx)
      have q1 := putT_b this.1
      have q2 := putT_b this.2
      unfold ixB; rw [List.length_append]; omega
    have h6 := hg.n4
    rw [List.length_take] at h5
    rw [Int.toNat_natCast] at pn3
    rw [hM2]; simp only [List.length_append]; omega
  conv => whnf
  intro _
  refine ⟨fun h2 => ?_, fun h2 => ?_⟩
  · have h2 : i3 < (c.2.2.2.1).length := by simp at h2; omega
    have h4 := hg.il (List.getElem_mem h2)
    have q1 := putT_b h4.1
    have q2 := putT_b h4.2
    conv => whnf
    refine any0 ?_
    conv => whnf
    try (intro _; conv => whnf)
    refine ⟨by omega, ?_⟩
    rw [gt_nat (d := ID) c.2.2.2.1 i3 h2]
    conv => whnf
    refine callr0 (ref_PutText c.2.2.2.1[i3].1 (by omega)) rfl ?_
    conv => whnf
    try (intro _; conv => whnf)
    refine ⟨by omega, ?_⟩
    rw [gt_nat (d := ID) c.2.2.2.1 i3 h2]
    conv => whnf
    refine callr0 (ref_PutText c.2.2.2.1[i3].2 (by omega)) rfl ?_
    conv => whnf
    refine ⟨by omega, ?_⟩
    conv => whnf
    refine ⟨by rw [List.length_append]; omega, ?_⟩
    conv => whnf
    refine ⟨.inl (by kernel_rfl), after0 ?_⟩
    conv => whnf
    refine ⟨(i3 + 1, s3 ++ ixB c.2.2.2.1[i3]), ⟨⟨h2, ?_⟩, by dsimp only; omega⟩, ?_⟩
    · dsimp only
      rw [flB_step _ h2, hM2]; simp only [List.append_assoc]
    · (conv => whnf); refine ⟨rfl, ?_, ?_, ?_⟩ <;> (repeat' apply And.intro) <;> first | exact trivial | rfl | exact wr_succ _ (by omega) | assumption | exact decide_eq_false (by assumption) | exact decide_eq_true (by assumption)
  rw [List.take_of_length_le (by simp at h2; omega)] at hM2
  clear h2
  conv => whnf
  refine call1 (ref_PutI (show Int from c.2.2.2.2) (Int.le_trans (by decide) hg.x0) hg.x1) rfl ?_
  conv => whnf
  have pn4 := putN_b (show Int from c.2.2.2.2) hg.x1
  refine ⟨by omega, ?_⟩
  conv => whnf
  rw [hM2, hL2]
  unfold catB'
  simp only [List.append_assoc]
end Go.Proofs.YtmdjonckcapkeaaGreatDoor
/- The walks of the reference's Encode and Message of replies. Own work. -/
set_option linter.unusedVariables false
set_option maxRecDepth 100000
namespace Go.Proofs.YtmdjonckcapkeaaGreatDoor.Ans
open Go Go.RowKit OE

theorem ref25_num (n : Int) : FnD Tryz.prog 73 [.c (.int .i64 n)] (· = .c (.str (Num.putN (u64 n)))) := by
  obtain ⟨e, hl⟩ := wrap_u64 n
  refine fn0 Tryz.func73 rfl rfl rfl ?_
  conv => whnf
  rw [e]
  refine call1 (ref_Put (u64 n) hl) rfl ?_
  conv => whnf
theorem z0 {K : Int} (z : (!decide (K = 0)) = false) : ¬ (1 : Int) ≤ K := by
  simp at z
  omega
abbrev reSt (r : AD.T) (bs : List UInt8) (fr : List (Nat × SV)) : St := ⟨(1, .c (.ptr 0 0)) :: (4, .c (.str bs)) :: fr, [(0, .cells 40 (ac r))], 1⟩
theorem ref25_Encode (r : AD.T) (hw : Wf AD r) : FnD Tryz.prog 47 [.agg (ac r)] (· = .tup [(false, [.str (encAS r)]), (false, [.int .i64 (errA r)])]) := by
  refine fn0 Tryz.func47 rfl rfl rfl ?_
  conv => whnf
  refine call1 (ref25_Good r) rfl ?_
  conv => whnf
  refine ⟨fun g => ?_, fun g => ?_⟩
  · have g : ¬ goodA r = true := by revert g; cases goodA r <;> simp
    rw [show encAS r = [] from if_neg g, show errA r = 11 from if_neg g]
    conv => whnf
  have g : goodA r = true := by revert g; cases goodA r <;> simp
  rw [show encAS r = encA r from if_pos g, show errA r = 0 from if_pos g]
  have hg := goodA_out g
  have hsh := hg.short hw
  have p1 := Num.putN_ten (wrap_u64 r.1).2
  have p2 := Num.putN_ten (wrap_u64 r.2.1).2
  have p3 := Num.putN_ten (wrap_u64 r.2.2.1).2
  have p4 := Num.putN_ten (wrap_u64 r.2.2.2.1.length).2
  have p5 := Num.putN_ten (wrap_u64 r.2.2.2.2.1.length).2
  have p6 := Num.putN_ten (wrap_u64 r.2.2.2.2.2.1.length).2
  have l4 := enc4_len r
  have l5 := hsh.l5
  have l6 := hsh.l6
  conv => whnf
  refine any0 ?_
  conv => whnf
  refine callr0 (ref25_num r.1) rfl ?_
  conv => whnf
  refine callr0 (ref25_num r.2.1) rfl ?_
  conv => whnf
  refine ⟨by omega, ?_⟩
  conv => whnf
  refine callr0 (ref25_num r.2.2.1) rfl ?_
  conv => whnf
  refine ⟨by simp only [List.length_append]; omega, ?_⟩
  conv => whnf
  refine callr0 (ref25_num r.2.2.2.1.length) rfl ?_
  conv => whnf
  refine ⟨by simp only [List.length_append]; omega, ?_⟩
  conv => whnf
  refine ⟨.inl (by kernel_rfl), after0 ?_⟩
  conv => whnf
  rw [show Num.putN (u64 r.1) ++ Num.putN (u64 r.2.1) ++ Num.putN (u64 r.2.2.1) ++ Num.putN (u64 r.2.2.2.1.length) = enc4 r from rfl]
  refine loop0 (α := Nat) (fun i => i ≤ r.2.2.2.1.length) (fun i => reSt r (enc4 r ++ flB encN (r.2.2.2.1.take i)) [(5, .c (.int .i64 i))]) (fun i => r.2.2.2.1.length - i) ⟨0, by omega, ?_⟩ ?_
  · rw [List.take_zero, show flB encN [] = [] from rfl, List.append_nil]
    (conv => whnf); refine ⟨rfl, ?_, ?_, ?_⟩ <;> (repeat' apply And.intro) <;> first | exact trivial | rfl | exact wr_succ _ (by omega) | assumption | exact decide_eq_false (by assumption) | exact decide_eq_true (by assumption)
  rintro i hi
  conv => whnf
  intro _
  conv => whnf
  refine ⟨fun h2 => ?_, fun h2 => ?_⟩
  · have h2 : i < r.2.2.2.1.length := by rw [decide_eq_true_eq] at h2; omega
    have f1 := hsh.f1 i
    have q1 := Num.putN_ten (wrap_u64 r.2.2.2.1[i].1).2
    have hgn := hg.g1 _ (List.getElem_mem h2)
    have hwn := hw.2.2.2.1.2 _ (List.getElem_mem h2)
    have hnl : r.2.2.2.1[i].2.1.length ≤ 140737488351232 := hwn.2.1
    have htl : (Num.putT r.2.2.2.1[i].2.1).length ≤ 26 := putT_b (nameS_len (by unfold goodN at hgn; simp only [Bool.and_eq_true] at hgn; exact hgn.1.2))
    have hpl := encPs_len hwn.2.2
    conv => whnf
    try (intro _; conv => whnf)
    refine ⟨by omega, ?_⟩
    rw [gt_nat (d := ND) r.2.2.2.1 i h2]
    conv => whnf
    refine call1 (refval_EncodeProps r.2.2.2.1[i].2.2 hwn.2.2) rfl ?_
    conv => whnf
    refine any0 ?_
    conv => whnf
    try (intro _; conv => whnf)
    refine ⟨by omega, ?_⟩
    rw [gt_nat (d := ND) r.2.2.2.1 i h2]
    conv => whnf
    refine callr0 (ref25_num r.2.2.2.1[i].1) rfl ?_
    conv => whnf
    try (intro _; conv => whnf)
    refine ⟨by omega, ?_⟩
    rw [gt_nat (d := ND) r.2.2.2.1 i h2]
    conv => whnf
    refine callr0 (ref_PutText r.2.2.2.1[i].2.1 (by omega)) rfl ?_
    conv => whnf
    refine ⟨by omega, ?_⟩
    conv => whnf
    refine ⟨by simp only [List.length_append]; omega, ?_⟩
    conv => whnf
    refine ⟨by simp only [List.length_append]; omega, ?_⟩
    conv => whnf
    refine ⟨.inl (by kernel_rfl), after0 ?_⟩
    conv => whnf
    refine ⟨i + 1, ⟨by omega, by omega⟩, ?_⟩
    rw [flB_step encN h2, ← List.append_assoc, show encN r.2.2.2.1[i] = Num.putN (u64 r.2.2.2.1[i].1) ++ Num.putT r.2.2.2.1[i].2.1 ++ encPs r.2.2.2.1[i].2.2 from rfl]
    (conv => whnf); refine ⟨rfl, ?_, ?_, ?_⟩ <;> (repeat' apply And.intro) <;> first | exact trivial | rfl | exact wr_succ _ (by omega) | assumption | exact decide_eq_false (by assumption) | exact decide_eq_true (by assumption)
  have h2 : r.2.2.2.1.length ≤ i := by rw [decide_eq_false_iff_not] at h2; omega
  rw [List.take_of_length_le h2]
  clear h2 hi
  have f1 := hsh.f1 r.2.2.2.1.length
  rw [List.take_length] at f1
  conv => whnf
  intro _
  conv => whnf
  refine call1 (ref25_num r.2.2.2.2.1.length) rfl ?_
  conv => whnf
  refine ⟨by simp only [List.length_append]; omega, ?_⟩
  conv => whnf
  rw [show enc4 r ++ flB encN r.2.2.2.1 ++ Num.putN (u64 r.2.2.2.2.1.length) = enc5 r from rfl]
  refine loop0 (α := Nat) (fun i => i ≤ r.2.2.2.2.1.length) (fun i => reSt r (enc5 r ++ flB encE (r.2.2.2.2.1.take i)) [(8, .c (.int .i64 i))]) (fun i => r.2.2.2.2.1.length - i) ⟨0, by omega, ?_⟩ ?_
  · rw [List.take_zero, show flB encE [] = [] from rfl, List.append_nil]
    (conv => whnf); refine ⟨rfl, ?_, ?_, ?_⟩ <;> (repeat' apply And.intro) <;> first | exact trivial | rfl | exact wr_succ _ (by omega) | assumption | exact decide_eq_false (by assumption) | exact decide_eq_true (by assumption)
  rintro i hi
  conv => whnf
  intro _
  conv => whnf
  refine ⟨fun h2 => ?_, fun h2 => ?_⟩
  · have h2 : i < r.2.2.2.2.1.length := by rw [decide_eq_true_eq] at h2; omega
    have f2 := hsh.f2 i
    have q1 := Num.putN_ten (wrap_u64 r.2.2.2.2.1[i].1).2
    have q2 := Num.putN_ten (wrap_u64 r.2.2.2.2.1[i].2.2.1).2
    have q3 := Num.putN_ten (wrap_u64 r.2.2.2.2.1[i].2.2.2.1).2
    have hgn := hg.g2 _ (List.getElem_mem h2)
    have hwn := hw.2.2.2.2.1.2 _ (List.getElem_mem h2)
    have hnl : r.2.2.2.2.1[i].2.1.length ≤ 140737488351232 := hwn.2.1
    have htl : (Num.putT r.2.2.2.2.1[i].2.1).length ≤ 26 := putT_b (nameS_len (by unfold goodE at hgn; simp only [Bool.and_eq_true] at hgn; exact hgn.1.2))
    have hpl := encPs_len hwn.2.2.2.2
    conv => whnf
    try (intro _; conv => whnf)
    refine ⟨by omega, ?_⟩
    rw [gt_nat (d := ED) r.2.2.2.2.1 i h2]
    conv => whnf
    refine call1 (refval_EncodeProps r.2.2.2.2.1[i].2.2.2.2 hwn.2.2.2.2) rfl ?_
    conv => whnf
    refine any0 ?_
    conv => whnf
    refine callr0 (ref25_num r.2.2.2.2.1[i].1) rfl ?_
    conv => whnf
    refine callr0 (ref_PutText r.2.2.2.2.1[i].2.1 (by omega)) rfl ?_
    conv => whnf
    refine ⟨by omega, ?_⟩
    conv => whnf
    refine callr0 (ref25_num r.2.2.2.2.1[i].2.2.1) rfl ?_
    conv => whnf
    refine ⟨by simp only [List.length_append]; omega, ?_⟩
    conv => whnf
    refine callr0 (ref25_num r.2.2.2.2.1[i].2.2.2.1) rfl ?_
    conv => whnf
    refine ⟨by simp only [List.length_append]; omega, ?_⟩
    conv => whnf
    refine ⟨by simp only [List.length_append]; omega, ?_⟩
    conv => whnf
    refine ⟨by simp only [List.length_append]; omega, ?_⟩
    conv => whnf
    refine ⟨.inl (by kernel_rfl), after0 ?_⟩
    conv => whnf
    refine ⟨i + 1, ⟨by omega, by omega⟩, ?_⟩
    rw [flB_step encE h2, ← List.append_assoc, show encE r.2.2.2.2.1[i] = Num.putN (u64 r.2.2.2.2.1[i].1) ++ Num.putT r.2.2.2.2.1[i].2.1 ++ Num.putN (u64 r.2.2.2.2.1[i].2.2.1) ++ Num.putN (u64 r.2.2.2.2.1[i].2.2.2.1) ++ encPs r.2.2.2.2.1[i].2.2.2.2 from rfl]
    (conv => whnf); refine ⟨rfl, ?_, ?_, ?_⟩ <;> (repeat' apply And.intro) <;> first | exact trivial | rfl | exact wr_succ _ (by omega) | assumption | exact decide_eq_false (by assumption) | exact decide_eq_true (by assumption)
  have h2 : r.2.2.2.2.1.length ≤ i := by rw [decide_eq_false_iff_not] at h2; omega
  rw [List.take_of_length_le h2]
  clear h2 hi
  have f2 := hsh.f2 r.2.2.2.2.1.length
  rw [List.take_length] at f2
  conv => whnf
  intro _
  conv => whnf
  refine call1 (ref25_num r.2.2.2.2.2.1.length) rfl ?_
  conv => whnf
  refine ⟨by simp only [List.length_append]; omega, ?_⟩
  conv => whnf
  rw [show enc5 r ++ flB encE r.2.2.2.2.1 ++ Num.putN (u64 r.2.2.2.2.2.1.length) = enc6 r from rfl]
  refine loop0 (α := Nat) (fun i => i ≤ r.2.2.2.2.2.1.length) (fun i => reSt r (enc6 r ++ flB (α := Int) encI (r.2.2.2.2.2.1.take i)) [(12, .c (.int .i64 i))]) (fun i => r.2.2.2.2.2.1.length - i) ⟨0, by omega, ?_⟩ ?_
  · rw [List.take_zero, show flB (α := Int) encI [] = [] from rfl, List.append_nil]
    (conv => whnf); refine ⟨rfl, ?_, ?_, ?_⟩ <;> (repeat' apply And.intro) <;> first | exact trivial | rfl | exact wr_succ _ (by omega) | assumption | exact decide_eq_false (by assumption) | exact decide_eq_true (by assumption)
  rintro i hi
  conv => whnf
  intro _
  conv => whnf
  refine ⟨fun h2 => ?_, fun h2 => ?_⟩
  · have h2 : i < r.2.2.2.2.2.1.length := by rw [decide_eq_true_eq] at h2; omega
    have f3 := hsh.f3 i
    have q1 := Num.putN_ten (wrap_u64 r.2.2.2.2.2.1[i]).2
    conv => whnf
    try (intro _; conv => whnf)
    refine ⟨by omega, ?_⟩
    rw [gt_nat (d := LD) r.2.2.2.2.2.1 i h2]
    conv => whnf
    refine call1 (ref25_num r.2.2.2.2.2.1[i]) rfl ?_
    conv => whnf
    refine ⟨by simp only [List.length_append]; omega, ?_⟩
    conv => whnf
    refine ⟨i + 1, ⟨by omega, by omega⟩, ?_⟩
    rw [show flB (α := Int) encI (r.2.2.2.2.2.1.take (i + 1)) = flB (α := Int) encI (r.2.2.2.2.2.1.take i) ++ encI r.2.2.2.2.2.1[i] from flB_step (α := Int) encI h2, ← List.append_assoc]
    (conv => whnf); refine ⟨rfl, ?_, ?_, ?_⟩ <;> (repeat' apply And.intro) <;> first | exact trivial | rfl | exact wr_succ _ (by omega) | assumption | exact decide_eq_false (by assumption) | exact decide_eq_true (by assumption)
  have h2 : r.2.2.2.2.2.1.length ≤ i := by rw [decide_eq_false_iff_not] at h2; omega
  rw [List.take_of_length_le h2]
  clear h2 hi
  have f3 := hsh.f3 r.2.2.2.2.2.1.length
  rw [List.take_length] at f3
  have f4 := encCS_len (aC r)
  have f5 := putT_len (encCS (aC r)) (by omega)
  conv => whnf
  have f6 : (enc6 r ++ flB (α := Int) encI r.2.2.2.2.2.1).length + (Num.putT (encCS (aC r))).length ≤ 100000000 := by simp only [List.length_append]; omega
  refine ⟨fun z => ?_, fun z => ?_⟩
  · conv => whnf
    refine call1 (ref16_Encode (aC r)) rfl ?_
    conv => whnf
    refine call1 (ref_PutText (encCS (aC r)) (by omega)) rfl ?_
    conv => whnf
    refine ⟨by omega, ?_⟩
    conv => whnf
    rfl
  have hz : encCS (aC r) = [] := by
    unfold encCS
    split
    · rename_i h
      exact absurd (goodC_out h).x0 (z0 z)
    · rfl
  rw [hz] at f6
  rw [show encA r = enc6 r ++ flB (α := Int) encI r.2.2.2.2.2.1 ++ Num.putT [] by unfold encA; rw [hz]]
  conv => whnf
  refine call1 (ref_PutText [] (by decide)) rfl ?_
  conv => whnf
  refine ⟨by omega, ?_⟩
  conv => whnf
theorem ref25_Message (r : AD.T) (hw : Wf AD r) : FnD Tryz.prog 28 [.agg (ac r)] (· = .tup [(false, [.str (msgA r)]), (false, [.int .i64 (errA r)])]) := by
  refine fn0 Tryz.func28 rfl rfl rfl ?_
  conv => whnf
  refine call1 (ref25_Encode r hw) rfl ?_
  conv => whnf
  by_cases g : goodA r = true
  · rw [show encAS r = encA r from if_pos g, show errA r = 0 from if_pos g, show msgA r = Num.putT (encA r) from if_pos g]
    refine fk rfl ?_
    conv => whnf
    refine call1 (ref_PutText (encA r) (by have := encA_len hw g; omega)) rfl ?_
    conv => whnf
  · rw [show encAS r = [] from if_neg g, show errA r = 11 from if_neg g, show msgA r = [] from if_neg g]
    refine tk rfl ?_
    conv => whnf
end Go.Proofs.YtmdjonckcapkeaaGreatDoor.Ans
/- The walks of the reference's session. Own work. -/
set_option linter.unusedVariables false
set_option maxRecDepth 100000
namespace Go.Proofs.YtmdjonckcapkeaaGreatDoor
open Go Go.RowKit OE

abbrev rT : Nat := 28
abbrev rcs (p : Rs) : List C := [.str p.inp, .dat MD p.L, .str p.out, .bool (.sym p.cl)]
abbrev hpK (p : Rs) : List (Nat × Ob) := [(0, .cells rT (rcs p))]
abbrev kpK : List (Nat × Bool) := [(0, false)]
theorem ref26_Closed (p : Rs) : FnP Tryz.prog 19 [.c (.ptr 0 0)] (hpK p) 1 kpK (.c (.bool (.sym p.cl))) (hpK p) 1 := by
  refine fnP noI Tryz.func19 rfl rfl rfl rfl ?_
  conv => whnf
  refine ⟨rfl, ?_, ?_, ?_⟩ <;> (repeat' apply And.intro) <;> first | exact trivial | rfl | assumption
theorem ref26_Held (p : Rs) : FnP Tryz.prog 21 [.c (.ptr 0 0)] (hpK p) 1 kpK (.c (.int .i64 p.inp.length)) (hpK p) 1 := by
  refine fnP noI Tryz.func21 rfl rfl rfl rfl ?_
  conv => whnf
  refine ⟨rfl, ?_, ?_, ?_⟩ <;> (repeat' apply And.intro) <;> first | exact trivial | rfl | assumption
theorem ref26_Waiting (p : Rs) : FnP Tryz.prog 17 [.c (.ptr 0 0)] (hpK p) 1 kpK (.c (.int .i64 p.L.length)) (hpK p) 1 := by
  refine fnP noI Tryz.func17 rfl rfl rfl rfl ?_
  conv => whnf
  intro _
  conv => whnf
  refine ⟨rfl, ?_, ?_, ?_⟩ <;> (repeat' apply And.intro) <;> first | exact trivial | rfl | assumption
theorem ref26_Take (p : Rs) : FnP Tryz.prog 12 [.c (.ptr 0 0)] (hpK p) 1 kpK (.c (.str p.out)) (hpK { p with out := [] }) 1 := by
  refine fnP noI Tryz.func12 rfl rfl rfl rfl ?_
  conv => whnf
  refine ⟨rfl, ?_, ?_, ?_⟩ <;> (repeat' apply And.intro) <;> first | exact trivial | rfl | assumption
theorem ref26_Head (p : Rs) : FnP Tryz.prog 14 [.c (.ptr 0 0)] (hpK p) 1 kpK (.tup [(true, mc (p.L.headD MD.df)), (false, [.bool (.sym (!decide (p.L = [])))])]) (hpK p) 1 := by
  obtain ⟨i, L, o, c⟩ := p
  refine fnP noI Tryz.func14 rfl rfl rfl rfl ?_
  conv => whnf
  intro _
  conv => whnf
  refine ⟨fun a => ?_, fun a => ?_⟩
  · have a : L = [] := by
      have a : decide ((L.length : Int) = 0) = true := a
      rw [decide_eq_true_eq] at a
      exact List.eq_nil_of_length_eq_zero (by omega)
    subst a
    conv => whnf
    refine ⟨rfl, ?_, ?_, ?_⟩ <;> (repeat' apply And.intro) <;> first | exact trivial | rfl | assumption
  · cases L with
    | nil => exact absurd (show decide ((([] : List MD.T).length : Int) = 0) = false from a) (by decide)
    | cons x L =>
      conv => whnf
      intro _
      conv => whnf
      refine ⟨by simp, ?_⟩
      conv => whnf
      refine ⟨rfl, ?_, ?_, ?_⟩ <;> (repeat' apply And.intro) <;> first | exact trivial | rfl | assumption
theorem ref26_Answer (p : Rs) (r : Ans.AD.T) (hw : Wf Ans.AD r) (ho : p.out.length ≤ 1000000000000) : FnP Tryz.prog 10 [.c (.ptr 0 0), .agg (Ans.ac r)] (hpK p) 1 kpK (.c (.int .i64 (ansR p r).2)) (hpK (ansR p r).1) 1 := by
  refine fnP noI Tryz.func10 rfl rfl rfl rfl ?_
  conv => whnf
  intro _
  conv => whnf
  refine ⟨fun a => ?_, fun a => ?_⟩
  · have a : p.L = [] := by
      have a : decide ((p.L.length : Int) = 0) = true := a
      rw [decide_eq_true_eq] at a
      exact List.eq_nil_of_length_eq_zero (by omega)
    rw [show ansR p r = (p, 60) from if_pos a]
    conv => whnf
    refine ⟨rfl, ?_, ?_, ?_⟩ <;> (repeat' apply And.intro) <;> first | exact trivial | rfl | assumption
  have a : ¬ p.L = [] := by
    intro e
    have a : decide ((p.L.length : Int) = 0) = false := a
    rw [e] at a
    exact absurd a (by decide)
  have hpos : 0 < p.L.length := List.length_pos_iff.2 a
  conv => whnf
  refine call1 (Ans.ref25_Message r hw) rfl ?_
  conv => whnf
  by_cases g : Ans.goodA r = true
  · rw [show ansR p r = ({ p with L := p.L.tail, out := p.out ++ Num.putT (Ans.encA r) }, 0) from (if_neg a).trans (if_pos g), show Ans.errA r = 0 from if_pos g, show Ans.msgA r = Num.putT (Ans.encA r) from if_pos g]
    have hl2 := Ans.putT_len (Ans.encA r) (by have := Ans.encA_len hw g; omega)
    have hl3 := Ans.encA_len hw g
    have hcut : p.L.tail = List.drop (Int.toNat 1) (List.take p.L.length p.L) := by rw [List.take_length]; cases p.L <;> rfl
    refine fk rfl ?_
    conv => whnf
    refine ⟨by omega, ?_⟩
    conv => whnf
    refine ⟨by omega, ?_⟩
    conv => whnf
    refine ⟨rfl, ?_, ?_, ?_⟩ <;> (repeat' apply And.intro) <;> first | exact trivial | rfl | assumption
  · rw [show ansR p r = (p, 11) from (if_neg a).trans (if_neg g), show Ans.errA r = 11 from if_neg g]
    refine tk rfl ?_
    conv => whnf
    refine ⟨rfl, ?_, ?_, ?_⟩ <;> (repeat' apply And.intro) <;> first | exact trivial | rfl | assumption
theorem ref24_DecodeM (s : List UInt8) (hs : s.length ≤ 100000000) : FnD Tryz.prog 26 [.c (.str s)] (· = .tup [(true, mc (decM s)), (false, [.int .i64 (derM s)])]) := by
  obtain ⟨e1, e2⟩ := dec_eq hs
  have h := ref24_Decode s hs
  rw [e1, e2] at h
  exact h
theorem ref26_Feed (p : Rs) (d : List UInt8) (hb : p.inp.length + d.length ≤ 100000000) (hq : p.L.length ≤ 64) : FnP Tryz.prog 8 [.c (.ptr 0 0), .c (.str d)] (hpK p) 1 kpK .un (hpK (feedR p d)) 1 := by
  refine fnP noI Tryz.func8 rfl rfl rfl rfl ?_
  conv => whnf
  refine ⟨fun c => ?_, fun c => ?_⟩
  · have c : p.cl = true := c
    rw [show feedR p d = p from if_pos c]
    conv => whnf
    refine ⟨rfl, ?_, ?_, ?_⟩ <;> (repeat' apply And.intro) <;> first | exact trivial | rfl | assumption
  have c : p.cl = false := c
  conv => whnf
  refine ⟨by omega, ?_⟩
  conv => whnf
  refine loop0 (α := Rs × Nat) (fun x => x.1.inp.length + 1 ≤ x.2 ∧ x.1.L.length ≤ 64 ∧ x.1.inp.length ≤ 100000000 ∧ fR x.2 x.1 = feedR p d) (fun x => ⟨[(0, .c (.ptr 0 0))], hpK x.1, 1⟩) (fun x => x.2) ⟨({ p with inp := p.inp ++ d }, p.inp.length + d.length + 1), ⟨by dsimp only; rw [List.length_append]; omega, hq, by dsimp only; rw [List.length_append]; omega, by dsimp only; unfold feedR; rw [if_neg (by rw [c]; decide)]; unfold run; rw [show (({ p with inp := p.inp ++ d } : Rs).inp).length = p.inp.length + d.length from List.length_append]⟩, ?_⟩ ?_
  · (conv => whnf); refine ⟨rfl, ?_, ?_, ?_⟩ <;> (repeat' apply And.intro) <;> first | exact trivial | rfl | exact wr_succ _ (by omega) | assumption | exact decide_eq_false (by assumption) | exact decide_eq_true (by assumption)
  rintro ⟨x, n⟩ ⟨hn, hq, hl, hE⟩
  dsimp only at hn hq hl hE ⊢
  obtain ⟨m, rfl⟩ : ∃ m, n = m + 1 := ⟨n - 1, by omega⟩
  conv => whnf
  refine call1 (refwire_Next x.inp hl) rfl ?_
  conv => whnf
  intro _
  conv => whnf
  have eB : (!decide ((nextM x.inp).2.2 = 0) || decide (0 < (nextM x.inp).2.1) && decide ((x.L.length : Int) = 64)) = badR x := by
    unfold badR
    rw [show decide ((x.L.length : Int) = 64) = decide (x.L.length = 64) from decide_eq_decide.2 ⟨fun h => by omega, fun h => by omega⟩]
    rfl
  refine ⟨fun B => ?_, fun B => ?_⟩
  · rw [eB] at B
    rw [← hE, show fR (m + 1) x = { x with inp := [], cl := true } from if_pos B]
    conv => whnf
    refine ⟨rfl, ?_, ?_, ?_⟩ <;> (repeat' apply And.intro) <;> first | exact trivial | rfl | assumption
  rw [eB] at B
  conv => whnf
  have hB : ¬ badR x = true := by rw [B]; decide
  refine ⟨fun u => ?_, fun u => ?_⟩
  · have u : nx2 x.inp = 0 := of_decide_eq_true u
    rw [← hE, show fR (m + 1) x = x from (if_neg hB).trans (if_pos u)]
    conv => whnf
    refine ⟨rfl, ?_, ?_, ?_⟩ <;> (repeat' apply And.intro) <;> first | exact trivial | rfl | assumption
  have u : ¬ nx2 x.inp = 0 := of_decide_eq_false u
  rw [show fR (m + 1) x = fR m (takeR x) from (if_neg hB).trans (if_neg u)] at hE
  have hbd := nx_bd x.inp
  have hx2 : ¬ x.L.length = 64 := by
    intro e
    apply hB
    unfold badR
    rw [decide_eq_true e, decide_eq_true (show 0 < nx2 x.inp by omega)]
    simp
  conv => whnf
  refine call1 (ref24_DecodeM (nx1 x.inp) (by have := nx1_le x.inp; omega)) rfl ?_
  conv => whnf
  refine any0 ?_
  conv => whnf
  refine ⟨by show (0 + x.L.length) * 320 ≤ 140737488355328; omega, ?_⟩
  conv => whnf
  refine ⟨by show (x.L.length + 1) * 320 ≤ 140737488355328; omega, ?_⟩
  conv => whnf
  refine ⟨.inl (by kernel_rfl), after0 ?_⟩
  conv => whnf
  refine fzd 12 rfl ?_
  conv => whnf
  refine any0 ?_
  conv => whnf
  refine ⟨hbd, ?_⟩
  conv => whnf
  refine ⟨.inl (by kernel_rfl), after0 ?_⟩
  conv => whnf
  have hi : (takeR x).inp.length = x.inp.length - (nx2 x.inp).toNat := by show (x.inp.drop _).length = _; rw [List.length_drop]
  have hlq : (takeR x).L.length = x.L.length + 1 := by show (x.L ++ [_]).length = _; rw [List.length_append]; rfl
  have hcut : (takeR x).inp = List.drop (nx2 x.inp).toNat (List.take x.inp.length x.inp) := by rw [List.take_length]; rfl
  refine ⟨(takeR x, m), ⟨⟨by dsimp only; omega, by dsimp only; omega, by dsimp only; omega, hE⟩, by dsimp only; omega⟩, ?_⟩
  (conv => whnf); refine ⟨rfl, ?_, ?_, ?_⟩ <;> (repeat' apply And.intro) <;> first | exact trivial | rfl | exact wr_succ _ (by omega) | assumption | exact decide_eq_false (by assumption) | exact decide_eq_true (by assumption)
end Go.Proofs.YtmdjonckcapkeaaGreatDoor
/- The walks of hedgerowkeep.Longs, Reply, of the law's Large and copied. Own work. -/
set_option linter.unusedVariables false
set_option maxRecDepth 100000
namespace Go.Proofs.YtmdjonckcapkeaaGreatDoor.Ans
open Go Go.RowKit OE

def largeA (r : AD.T) : Bool := largeGraph r.2.2.2.1 r.2.2.2.2.1 || decide ((3000 : Int) < r.2.2.2.2.2.1.length) || largeCat (aC r)
theorem law_Large (r : AD.T) : FnD Tryz.prog 22 [.agg (ac r)] (· = .c (.bool (.sym (largeA r)))) := by
  refine fn0 Tryz.func22 rfl rfl rfl ?_
  conv => whnf
  refine call1 (keep_LargeGraph r.2.2.2.1 r.2.2.2.2.1) rfl ?_
  conv => whnf
  intro _
  conv => whnf
  refine callg0 (fun _ => keep_LargeCat (aC r)) rfl ?_
  conv => whnf
  rfl
/-- what of a reply is small -/
structure SmallA (r : AD.T) : Prop where
  n : r.2.2.2.1.length ≤ 300
  e : r.2.2.2.2.1.length ≤ 300
  i : r.2.2.2.2.2.1.length ≤ 3000
  c1 : (aC r).1.length ≤ 1000
  c2 : (aC r).2.1.length ≤ 1000
  c3 : (aC r).2.2.1.length ≤ 1000
  c4 : (aC r).2.2.2.1.length ≤ 1000
  pn : ∀ x ∈ r.2.2.2.1, x.2.2.length ≤ 60
  pe : ∀ x ∈ r.2.2.2.2.1, x.2.2.2.2.length ≤ 60
theorem smallA {r : AD.T} (h : largeA r = false) : SmallA r := by
  unfold largeA largeGraph largeCat at h
  simp only [Bool.or_eq_false_iff, decide_eq_false_iff_not, List.any_eq_false] at h
  obtain ⟨⟨⟨⟨h1, h2⟩, h3, h4⟩, h5⟩, ⟨⟨⟨h6, h7⟩, h8⟩, h9⟩, _⟩ := h
  refine ⟨by omega, by omega, by omega, by omega, by omega, by omega, by omega, fun x hx => ?_, fun x hx => ?_⟩
  · have := h3 x hx
    simp only [largeN, largeProps, Bool.or_eq_true, not_or, decide_eq_true_eq] at this
    omega
  · have := h4 x hx
    simp only [largeE, largeProps, Bool.or_eq_true, not_or, decide_eq_true_eq] at this
    omega
end Go.Proofs.YtmdjonckcapkeaaGreatDoor.Ans
/- The package's variables that hold texts: what the row's condition gives a walk; a world that meets it. Own work. -/
set_option linter.unusedVariables false
namespace Go.Proofs.YtmdjonckcapkeaaGreatDoor
open Go Go.ChangeShapes Go.RowKit OE

theorem trod_texts {H : Type} {enc : TypeId × Value → H} {P : Program} {w : World} {base : Nat} {spare : Nat → Bool} {held : Bool} {fuel n : Nat} {t e : TypeId} {cs : List Value} {l : List (List UInt8)} {p : List MemPlace}
    (ht : P.underlying t = some (.array n e)) (he : P.underlying e = some .string) (hc : P.cellsOf e = 1) (hn : P.cellsOf t = n)
    (h : DataW.trod enc P w base spare held fuel t cs = some (.agg (l.map fun s => .lit (.string s)), p)) : cs = glC l := by
  obtain ⟨xs, m, _, hx, hl, hn2, hel⟩ := DataW.trod_array ht h
  simp only [Prod.mk.injEq, DataW.agg.injEq] at hx
  obtain ⟨hx, _⟩ := hx
  have hlen : l.length = n := by
    have := congrArg List.length hx
    simp only [List.length_map] at this
    omega
  apply List.ext_getElem?
  intro i
  rcases Nat.lt_or_ge i n with hi | hi
  · have h1 := hel i hi
    rw [hc, Nat.mul_one, List.getElem?_eq_getElem (by omega)] at h1
    obtain ⟨s, h2, h3, _⟩ := DataW.trod_string he h1
    have h4 : cs[i]? = some (.string s) := by
      have := congrArg (fun l : List Value => l[0]?) h2
      simpa [List.getElem?_take, List.getElem?_drop] using this
    have h5 : (xs.map (·.1))[i]? = some (.lit (.string s.data.toList)) := by
      rw [List.getElem?_map, List.getElem?_eq_getElem (by omega), h3]; rfl
    rw [← hx, List.getElem?_map, List.getElem?_eq_getElem (by omega)] at h5
    simp only [Option.map_some, Option.some.injEq, DataW.lit.injEq, Lit.string.injEq] at h5
    unfold glC
    rw [h4, List.getElem?_map, List.getElem?_eq_getElem (by omega), h5]
    rfl
  · rw [List.getElem?_eq_none (by omega), List.getElem?_eq_none (by unfold glC; rw [List.length_map]; omega)]
theorem var_heap {P : Program} {w : World} {n : String} {g : Nat} {cs : Array Value} (hg : P.globalNamed n = some g) (h : w.var? P n = some cs) : ∃ T fz, w.heap[g]? = some (.cells cs T fz) := by
  unfold World.var? at h
  rw [hg] at h
  simp only [Option.bind_some] at h
  split at h
  · rename_i cs' T fz hh
    cases h
    exact ⟨T, fz, hh⟩
  · cases h
abbrev laidL : List (String × DataW Unit) := [("hedgerow/wire.fieldsOf", Rows.laid_hedgerow_wire_fieldsOf), ("hedgerow/wire.opsOf", Rows.laid_hedgerow_wire_opsOf)]
theorem plainL (w : World) : laidMetH Tryz.prog laidL w = laidMet Tryz.prog laidL w := rfl
/-- what the condition gives a walk -/
theorem glo_of {W : World} (h : laidMetH Tryz.prog laidL W) : OkW W (fun k => k < W.heap.size) := by
  rw [plainL] at h
  obtain ⟨ps, ⟨g, t, cs, fuel, p, q, a1, a2, a3, a4, ⟨g', t', cs', fuel', p', q', b1, b2, b3, b4, _⟩, _⟩, _⟩ := h
  obtain rfl : g = 0 := Option.some.inj (a1.symm.trans (show Tryz.prog.globalNamed "hedgerow/wire.fieldsOf" = some 0 by kernel_rfl))
  obtain rfl : g' = 1 := Option.some.inj (b1.symm.trans (show Tryz.prog.globalNamed "hedgerow/wire.opsOf" = some 1 by kernel_rfl))
  obtain rfl : t = 125 := Option.some.inj (a2.symm.trans (show (Tryz.prog.globals[0]?).map (·.type) = some 125 by kernel_rfl))
  obtain rfl : t' = 203 := Option.some.inj (b2.symm.trans (show (Tryz.prog.globals[1]?).map (·.type) = some 203 by kernel_rfl))
  obtain ⟨T, fz, hh⟩ := var_heap a1 a3
  obtain ⟨T', fz', hh'⟩ := var_heap b1 b3
  have e1 := trod_texts (l := [[], [], [], [], [110], [110], [111], [105], [105], [105, 101], [105, 101], [116], [116, 110, 118], [116, 110, 119, 120], [116, 107], [116, 107], [114], [109], [116, 110], [116, 110], []]) Tryz.underlying125 Tryz.underlying9 (show Tryz.prog.cellsOf 9 = 1 by kernel_rfl) (show Tryz.prog.cellsOf 125 = 21 by kernel_rfl) a4
  have e2 := trod_texts (l := [[], [116], [105, 99], [116, 97, 98], [105], [105, 110, 119]]) Tryz.underlying203 Tryz.underlying9 (show Tryz.prog.cellsOf 9 = 1 by kernel_rfl) (show Tryz.prog.cellsOf 203 = 6 by kernel_rfl) b4
  refine ⟨fun _ h => h, fun g l hg => ?_⟩
  unfold glS at hg
  split at hg
  · cases hg
    have : 0 < W.heap.size := (Array.getElem?_eq_some_iff.1 hh).1
    exact ⟨⟨this, id⟩, this, cs, T, fz, hh, e1⟩
  · cases hg
    have : 1 < W.heap.size := (Array.getElem?_eq_some_iff.1 hh').1
    exact ⟨⟨this, id⟩, this, cs', T', fz', hh', e2⟩
  · cases hg
/-- a world that meets the condition -/
noncomputable def laidWorld (os : Os) : World :=
  let w0 := World.holding Tryz.prog os ⟨#[], #[], []⟩
  { w0 with heap := (w0.heap.modify 0 fun
      | .cells _ t frozen => .cells (glC ((glS 0).getD [])).toArray t frozen
      | o => o).modify 1 fun
      | .cells _ t frozen => .cells (glC ((glS 1).getD [])).toArray t frozen
      | o => o }
theorem laidWorld_met (os : Os) (args : Array Value) : laidMetH Tryz.prog laidL ((laidWorld os).forCall (fun _ _ => 0) ⟨#[], args, []⟩).memory := by
  rw [plainL]
  exact laidMet_of_run' 50 (by kernel_rfl) (by kernel_rfl)
end Go.Proofs.YtmdjonckcapkeaaGreatDoor
