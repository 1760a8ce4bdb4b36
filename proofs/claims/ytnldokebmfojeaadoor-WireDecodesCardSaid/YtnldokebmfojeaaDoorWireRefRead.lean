/- The walks of the reference's reading of commands. Own work. -/
import Derived.Test.YtnldokebmfojeaaDoorWireRefGood
import Derived.Test.YtnldokebmfojeaaDoorWireSmall
import Derived.Test.YtnldokebmfojeaaDoorRuleDecodeRef
set_option linter.unusedVariables false
set_option maxRecDepth 100000
namespace Go.Proofs.YtnldokebmfojeaaDoor
open Go Go.RowKit OE

/-- bytes that are read: where, and whether something was bad -/
abbrev obR (s : List UInt8) (q : Int × Bool) : List (Nat × Ob) := [(0, .cells 70 [.str s, .int .i64 q.1, .bool (.sym q.2)])]
def rdY (s : List UInt8) (q : Int × Bool) : Int × Int × Bool := if q.2 = true ∨ (s.length : Int) ≤ q.1 then (0, q.1, true) else (bt s q.1, q.1 + 1, q.2)
def rdN (s : List UInt8) (most : Int) (q : Int × Bool) : Int × Int × Bool := if q.2 = true ∨ (Num.getN s q.1).isSome = false ∨ most < ((nS s q.1).1 : Int) then (0, q.1, true) else (IntKind.wrap .i64 (nS s q.1).1, q.1 + (nS s q.1).2, q.2)
def rdT (s : List UInt8) (q : Int × Bool) : List UInt8 × Int × Bool := if q.2 = true ∨ (Num.getT s q.1 16).isSome = false then ([], q.1, true) else ((tS s q.1).1, q.1 + (tS s q.1).2, q.2)
def rdV (s : List UInt8) (q : Int × Bool) : VD.T × Int × Bool := if q.2 = true ∨ (decV s q.1).isSome = false then (VD.df, q.1, true) else ((vS' s q.1).1, q.1 + (vS' s q.1).2, q.2)
/-- where reading stands, is within the bytes -/
def inS (s : List UInt8) (q : Int × Bool) : Prop := 0 ≤ q.1 ∧ q.1 ≤ s.length
theorem rdY_in {s : List UInt8} {q : Int × Bool} (h : inS s q) : inS s (rdY s q).2 := by
  unfold rdY
  obtain ⟨h0, h1⟩ := h
  split
  · exact ⟨h0, h1⟩
  · rename_i hc
    have : q.1 < s.length := Int.not_le.1 fun h => hc (.inr h)
    exact ⟨by dsimp only; omega, by dsimp only; omega⟩
theorem rdN_in {s : List UInt8} {q : Int × Bool} {most : Int} (h : inS s q) : inS s (rdN s most q).2 := by
  unfold rdN
  obtain ⟨h0, h1⟩ := h
  split
  · exact ⟨h0, h1⟩
  · rename_i hc
    have hs : (Num.getN s q.1).isSome = true := by
      cases hh : (Num.getN s q.1).isSome with
      | true => rfl
      | false => exact (hc (.inr (.inl hh))).elim
    have := nS_bd hs
    exact ⟨by dsimp only; omega, by dsimp only; omega⟩
theorem rdT_in {s : List UInt8} {q : Int × Bool} (h : inS s q) : inS s (rdT s q).2 := by
  unfold rdT
  obtain ⟨h0, h1⟩ := h
  split
  · exact ⟨h0, h1⟩
  · rename_i hc
    have hs : (Num.getT s q.1 16).isSome = true := by
      cases hh : (Num.getT s q.1 16).isSome with
      | true => rfl
      | false => exact (hc (.inr hh)).elim
    have := tS_bd hs
    exact ⟨by dsimp only; omega, by dsimp only; omega⟩
theorem rdV_in {s : List UInt8} {q : Int × Bool} (h : inS s q) : inS s (rdV s q).2 := by
  unfold rdV
  obtain ⟨h0, h1⟩ := h
  split
  · exact ⟨h0, h1⟩
  · rename_i hc
    have hs : (decV s q.1).isSome = true := by
      cases hh : (decV s q.1).isSome with
      | true => rfl
      | false => exact (hc (.inr hh)).elim
    have := vS_bd hs
    exact ⟨by dsimp only; omega, by dsimp only; omega⟩
theorem rd_Byte (s : List UInt8) (hs : s.length ≤ 1000000) (q : Int × Bool) (h : inS s q) : FnP Tryd.prog 40 [.c (.ptr 0 0)] (obR s q) 1 kp0 (.c (.int .i64 (rdY s q).1)) (obR s (rdY s q).2) 1 := by
  obtain ⟨h0, h1⟩ := h
  refine fnP noI Tryd.func40 rfl rfl rfl rfl ?_
  conv => whnf
  refine any0 ?_
  conv => whnf
  refine ⟨.inl (by kernel_rfl), after0 ?_⟩
  conv => whnf
  refine ⟨fun a => ?_, fun a => ?_⟩
  · rw [show rdY s q = (0, q.1, true) from if_pos (by simpa using a)]
    conv => whnf
    refine ⟨rfl, ?_, ?_, ?_⟩ <;> (repeat' apply And.intro) <;> first | exact trivial | rfl | assumption
  have a : ¬ (q.2 = true ∨ (s.length : Int) ≤ q.1) := by
    rw [Bool.or_eq_false_iff, decide_eq_false_iff_not] at a
    rintro (h | h)
    · rw [h] at a; cases a.1
    · exact a.2 h
  rw [show rdY s q = (bt s q.1, q.1 + 1, q.2) from if_neg a]
  have hlt : q.1 < s.length := Int.not_le.1 fun h => a (.inr h)
  have e1 : IntKind.wrap .i64 (q.1 + 1) = q.1 + 1 := wr64 _ (by omega) (by omega)
  have e2 : IntKind.wrap .i64 (q.1 + 1 - 1) = q.1 := by rw [wr64 _ (by omega) (by omega)]; omega
  have hb := bt_rng s q.1
  have e3 : IntKind.wrap .i64 (bt s q.1) = bt s q.1 := wr64 _ (by omega) (by omega)
  conv => whnf
  rw [e1]
  refine any0 ?_
  conv => whnf
  rw [e2]
  refine ⟨⟨h0, hlt⟩, ?_⟩
  conv => whnf
  rw [e3]
  refine ⟨.inl (by kernel_rfl), after0 ?_⟩
  conv => whnf
  refine ⟨rfl, ?_, ?_, ?_⟩ <;> (repeat' apply And.intro) <;> first | exact trivial | rfl | assumption
theorem yesno {a b : Bool} {X Y : Prop} [Decidable X] (h : (a || !b || decide X) = false) : ¬ (a = true ∨ b = false ∨ X) := by
  rw [Bool.or_eq_false_iff, Bool.or_eq_false_iff, decide_eq_false_iff_not] at h
  rintro (e | e | e)
  · rw [e] at h; cases h.1.1
  · rw [e] at h; cases h.1.2
  · exact h.2 e
theorem yesyes {a b : Bool} {X : Prop} [Decidable X] (h : (a || !b || decide X) = true) : a = true ∨ b = false ∨ X := by
  rw [Bool.or_eq_true, Bool.or_eq_true, decide_eq_true_eq, Bool.not_eq_true'] at h
  rcases h with (h | h) | h
  · exact .inl h
  · exact .inr (.inl h)
  · exact .inr (.inr h)
theorem yesno2 {a b : Bool} (h : (a || !b) = false) : ¬ (a = true ∨ b = false) := by
  cases a <;> cases b <;> simp_all
theorem yesyes2 {a b : Bool} (h : (a || !b) = true) : a = true ∨ b = false := by
  cases a <;> cases b <;> simp_all
theorem not_false' {b : Bool} (h : ¬ b = false) : b = true := by cases b <;> simp_all
theorem rd_Num (s : List UInt8) (hs : s.length ≤ 1000000) (most : Int) (q : Int × Bool) (h : inS s q) : FnP Tryd.prog 43 [.c (.ptr 0 0), .c (.int .u64 most)] (obR s q) 1 kp0 (.c (.int .i64 (rdN s most q).1)) (obR s (rdN s most q).2) 1 := by
  obtain ⟨h0, h1⟩ := h
  refine fnP noI Tryd.func43 rfl rfl rfl rfl ?_
  conv => whnf
  refine any0 ?_
  conv => whnf
  refine callr0 (refnum_Get s q.1 (Nat.le_trans hs (by decide))) rfl ?_
  conv => whnf
  refine ⟨.inl (by kernel_rfl), after0 ?_⟩
  conv => whnf
  refine ⟨fun a => ?_, fun a => ?_⟩
  · rw [show rdN s most q = (0, q.1, true) from if_pos (yesyes a)]
    conv => whnf
    refine ⟨rfl, ?_, ?_, ?_⟩ <;> (repeat' apply And.intro) <;> first | exact trivial | rfl | assumption
  have a := yesno (Y := True) a
  have hl := nS_bd (not_false' fun h => a (.inr (.inl h)))
  have e1 : IntKind.wrap .i64 (q.1 + ((nS s q.1).2 : Int)) = q.1 + ((nS s q.1).2 : Int) := wr64 _ (by omega) (by omega)
  rw [show rdN s most q = (IntKind.wrap .i64 (nS s q.1).1, q.1 + (nS s q.1).2, q.2) from if_neg a]
  rw [show (Num.getN s q.1).getD (0, 0) = nS s q.1 from rfl]
  conv => whnf
  refine any0 ?_
  conv => whnf
  refine ⟨.inl (by kernel_rfl), after0 ?_⟩
  conv => whnf
  rw [e1]
  refine ⟨rfl, ?_, ?_, ?_⟩ <;> (repeat' apply And.intro) <;> first | exact trivial | rfl | assumption
theorem rd_Text (s : List UInt8) (hs : s.length ≤ 1000000) (q : Int × Bool) (h : inS s q) : FnP Tryd.prog 41 [.c (.ptr 0 0), .c (.int .i64 16)] (obR s q) 1 kp0 (.c (.str (rdT s q).1)) (obR s (rdT s q).2) 1 := by
  obtain ⟨h0, h1⟩ := h
  refine fnP noI Tryd.func41 rfl rfl rfl rfl ?_
  conv => whnf
  refine any0 ?_
  conv => whnf
  refine callr0 (refnum_GetText s q.1 16 (Nat.le_trans hs (by decide)) (by decide)) rfl ?_
  conv => whnf
  refine ⟨.inl (by kernel_rfl), after0 ?_⟩
  conv => whnf
  refine ⟨fun a => ?_, fun a => ?_⟩
  · rw [show rdT s q = ([], q.1, true) from if_pos (yesyes2 a)]
    conv => whnf
    refine ⟨rfl, ?_, ?_, ?_⟩ <;> (repeat' apply And.intro) <;> first | exact trivial | rfl | assumption
  have a := yesno2 a
  have hl := tS_bd (not_false' fun h => a (.inr h))
  have e1 : IntKind.wrap .i64 (q.1 + ((tS s q.1).2 : Int)) = q.1 + ((tS s q.1).2 : Int) := wr64 _ (by omega) (by omega)
  rw [show rdT s q = ((tS s q.1).1, q.1 + (tS s q.1).2, q.2) from if_neg a]
  rw [show (Num.getT s q.1 16).getD ([], 0) = tS s q.1 from rfl]
  conv => whnf
  refine any0 ?_
  conv => whnf
  refine ⟨.inl (by kernel_rfl), after0 ?_⟩
  conv => whnf
  rw [e1]
  refine ⟨rfl, ?_, ?_, ?_⟩ <;> (repeat' apply And.intro) <;> first | exact trivial | rfl | assumption
theorem rd_Val (s : List UInt8) (hs : s.length ≤ 1000000) (q : Int × Bool) (h : inS s q) : FnP Tryd.prog 44 [.c (.ptr 0 0)] (obR s q) 1 kp0 (.agg (vc (rdV s q).1)) (obR s (rdV s q).2) 1 := by
  obtain ⟨h0, h1⟩ := h
  refine fnP noI Tryd.func44 rfl rfl rfl rfl ?_
  conv => whnf
  refine any0 ?_
  conv => whnf
  refine callr0 (refval_Decode s q.1 hs) rfl ?_
  conv => whnf
  refine ⟨.inl (by kernel_rfl), after0 ?_⟩
  conv => whnf
  refine ⟨fun a => ?_, fun a => ?_⟩
  · rw [show rdV s q = (VD.df, q.1, true) from if_pos (yesyes2 a)]
    conv => whnf
    refine ⟨rfl, ?_, ?_, ?_⟩ <;> (repeat' apply And.intro) <;> first | exact trivial | rfl | assumption
  have a := yesno2 a
  have hl := vS_bd (not_false' fun h => a (.inr h))
  have e1 : IntKind.wrap .i64 (q.1 + ((vS' s q.1).2 : Int)) = q.1 + ((vS' s q.1).2 : Int) := wr64 _ (by omega) (by omega)
  rw [show rdV s q = ((vS' s q.1).1, q.1 + (vS' s q.1).2, q.2) from if_neg a]
  rw [show (decV s q.1).getD (V0, 0) = vS' s q.1 from rfl]
  conv => whnf
  refine any0 ?_
  conv => whnf
  refine ⟨.inl (by kernel_rfl), after0 ?_⟩
  conv => whnf
  rw [e1]
  refine ⟨rfl, ?_, ?_, ?_⟩ <;> (repeat' apply And.intro) <;> first | exact trivial | rfl | assumption
/-- a field of a change that is read -/
def rdOf (s : List UInt8) (st : OD.T × Int × Bool) (f : Int) : OD.T × Int × Bool :=
  if f = 116 then (oT st.1 (rdT s st.2).1, (rdT s st.2).2)
  else if f = 110 then (oN st.1 (rdT s st.2).1, (rdT s st.2).2)
  else if f = 105 then (oI st.1 (rdN s 4611686018427387903 st.2).1, (rdN s 4611686018427387903 st.2).2)
  else if f = 97 then (oF st.1 (rdN s 4611686018427387903 st.2).1, (rdN s 4611686018427387903 st.2).2)
  else if f = 98 then (oE st.1 (rdN s 4611686018427387903 st.2).1, (rdN s 4611686018427387903 st.2).2)
  else if f = 119 then (oVl st.1 (rdV s st.2).1, (rdV s st.2).2)
  else (oC st.1 (decide ((rdY s st.2).1 = 1)), (rdY s st.2).2.1, (rdY s st.2).2.2 || decide (1 < (rdY s st.2).1))
def opk (k : Int) : List UInt8 := if k = 1 then [116] else if k = 2 then [105, 99] else if k = 3 then [116, 97, 98] else if k = 4 then [105] else if k = 5 then [105, 110, 119] else []
def rdO (s : List UInt8) (q : Int × Bool) : OD.T × Int × Bool := (opk (rdY s q).1).foldl (fun st f => rdOf s st f.toNat) (o0 (rdY s q).1, (rdY s q).2)
theorem rd_Op (s : List UInt8) (hs : s.length ≤ 1000000) (q : Int × Bool) (h : inS s q) : FnP Tryd.prog 42 [.c (.ptr 0 0)] (obR s q) 1 kp0 (.agg (oc (rdO s q).1)) (obR s (rdO s q).2) 1 := by
  have hy := rdY_in h
  unfold rdO
  refine fnP noI Tryd.func42 rfl rfl rfl rfl ?_
  conv => whnf
  refine callp0 [0] rfl rfl (rd_Byte s hs q h) rfl rfl rfl rfl rfl ?_
  conv => whnf
  generalize rdY s q = y at hy
  obtain ⟨k, q1⟩ := y
  dsimp only at hy
  refine ⟨fun a => ?_, fun a => ?_⟩
  · have a : k = 1 := of_decide_eq_true a
    subst a
    conv => whnf
    refine callp0 [0] rfl rfl (rd_Text s hs q1 hy) rfl rfl rfl rfl rfl ?_
    conv => whnf
    refine ⟨rfl, ?_, ?_, ?_⟩ <;> (repeat' apply And.intro) <;> first | exact trivial | rfl | assumption
  have a1 : ¬ k = 1 := of_decide_eq_false a
  clear a
  conv => whnf
  refine ⟨fun a => ?_, fun a => ?_⟩
  · have a : k = 2 := of_decide_eq_true a
    subst a
    conv => whnf
    refine callp0 [0] rfl rfl (rd_Num s hs 4611686018427387903 q1 hy) rfl rfl rfl rfl rfl ?_
    conv => whnf
    refine callp0 [0] rfl rfl (rd_Byte s hs _ (rdN_in hy)) rfl rfl rfl rfl rfl ?_
    conv => whnf
    refine ⟨rfl, ?_, ?_, ?_⟩ <;> (repeat' apply And.intro) <;> first | exact trivial | rfl | assumption
  have a2 : ¬ k = 2 := of_decide_eq_false a
  clear a
  conv => whnf
  refine ⟨fun a => ?_, fun a => ?_⟩
  · have a : k = 3 := of_decide_eq_true a
    subst a
    conv => whnf
    refine callp0 [0] rfl rfl (rd_Text s hs q1 hy) rfl rfl rfl rfl rfl ?_
    conv => whnf
    refine callp0 [0] rfl rfl (rd_Num s hs 4611686018427387903 _ (rdT_in hy)) rfl rfl rfl rfl rfl ?_
    conv => whnf
    refine callp0 [0] rfl rfl (rd_Num s hs 4611686018427387903 _ (rdN_in (rdT_in hy))) rfl rfl rfl rfl rfl ?_
    conv => whnf
    refine ⟨rfl, ?_, ?_, ?_⟩ <;> (repeat' apply And.intro) <;> first | exact trivial | rfl | assumption
  have a3 : ¬ k = 3 := of_decide_eq_false a
  clear a
  conv => whnf
  refine ⟨fun a => ?_, fun a => ?_⟩
  · have a : k = 4 := of_decide_eq_true a
    subst a
    conv => whnf
    refine callp0 [0] rfl rfl (rd_Num s hs 4611686018427387903 q1 hy) rfl rfl rfl rfl rfl ?_
    conv => whnf
    refine ⟨rfl, ?_, ?_, ?_⟩ <;> (repeat' apply And.intro) <;> first | exact trivial | rfl | assumption
  have a4 : ¬ k = 4 := of_decide_eq_false a
  clear a
  conv => whnf
  refine ⟨fun a => ?_, fun a => ?_⟩
  · have a : k = 5 := of_decide_eq_true a
    subst a
    conv => whnf
    refine callp0 [0] rfl rfl (rd_Num s hs 4611686018427387903 q1 hy) rfl rfl rfl rfl rfl ?_
    conv => whnf
    refine callp0 [0] rfl rfl (rd_Text s hs _ (rdN_in hy)) rfl rfl rfl rfl rfl ?_
    conv => whnf
    refine callp0 [0] rfl rfl (rd_Val s hs _ (rdT_in (rdN_in hy))) rfl rfl rfl rfl rfl ?_
    conv => whnf
    refine ⟨rfl, ?_, ?_, ?_⟩ <;> (repeat' apply And.intro) <;> first | exact trivial | rfl | assumption
  have a5 : ¬ k = 5 := of_decide_eq_false a
  rw [show opk k = [] by unfold opk; rw [if_neg a1, if_neg a2, if_neg a3, if_neg a4, if_neg a5]]
  conv => whnf
  refine ⟨rfl, ?_, ?_, ?_⟩ <;> (repeat' apply And.intro) <;> first | exact trivial | rfl | assumption
theorem rdOf_in {s : List UInt8} {st : OD.T × Int × Bool} {f : Int} (h : inS s st.2) : inS s (rdOf s st f).2 := by
  unfold rdOf
  repeat' split
  all_goals first | exact rdT_in h | exact rdN_in h | exact rdV_in h | exact ⟨(rdY_in h).1, (rdY_in h).2⟩
theorem fold_in {α : Type} {s : List UInt8} {g : α × Int × Bool → UInt8 → α × Int × Bool} (hg : ∀ st f, inS s st.2 → inS s (g st f).2) : ∀ (l : List UInt8) (st : α × Int × Bool), inS s st.2 → inS s (l.foldl g st).2
  | [], _, h => h
  | f :: l, st, h => fold_in hg l _ (hg st f h)
theorem rdO_in {s : List UInt8} {q : Int × Bool} (h : inS s q) : inS s (rdO s q).2 := fold_in (fun st f h => rdOf_in h) _ _ (rdY_in h)
/-- a field of a command that is read -/
def rdMf (s : List UInt8) (st : MD.T × Int × Bool) (f : Int) : MD.T × Int × Bool :=
  if f = 116 ∨ f = 101 then (mT st.1 (rdT s st.2).1, (rdT s st.2).2)
  else if f = 110 then (mNm st.1 (rdT s st.2).1, (rdT s st.2).2)
  else if f = 105 then (mI st.1 (rdN s 4611686018427387903 st.2).1, (rdN s 4611686018427387903 st.2).2)
  else if f = 118 ∨ f = 119 then (mVl st.1 (rdV s st.2).1, (rdV s st.2).2)
  else if f = 120 then (mW st.1 (rdV s st.2).1, (rdV s st.2).2)
  else if f = 107 then (mM st.1 (rdN s 2 st.2).1, (rdN s 2 st.2).2)
  else if f = 109 then (mM st.1 (rdN s 1000000 st.2).1, (rdN s 1000000 st.2).2)
  else if f = 114 then (mR st.1 (rS' s st.2.1).1, st.2.1 + (rS' s st.2.1).2, st.2.2 || !(decS s st.2.1).isSome)
  else (sO st.1 (rdO s st.2).1, (rdO s st.2).2)
def rdM (s : List UInt8) : MD.T × Int × Bool := (gt (d := .str) cmdL (rdY s (0, false)).1).foldl (fun st f => rdMf s st f.toNat) (m0 (rdY s (0, false)).1, (rdY s (0, false)).2)
def okRD (s : List UInt8) (p : MD.T × Int × Bool) : Bool := !(p.2.2 || !decide (p.2.1 = (s.length : Int)) || !refgood p.1)
def decRP (s : List UInt8) (p : MD.T × Int × Bool) : MD.T := if okRD s p = true then p.1 else MD.df
def derRP (s : List UInt8) (p : MD.T × Int × Bool) : Int := if okRD s p = true then 0 else 11
end Go.Proofs.YtnldokebmfojeaaDoor
