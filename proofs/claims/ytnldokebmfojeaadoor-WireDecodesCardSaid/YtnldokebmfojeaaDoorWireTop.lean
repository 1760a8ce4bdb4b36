/- The walks of wire.Good, Encode, Decode, Message. Own work. -/
import Derived.Test.YtnldokebmfojeaaDoorWireSmall
set_option linter.unusedVariables false
set_option maxRecDepth 100000
namespace Go.Proofs.YtnldokebmfojeaaDoor
open Go Go.RowKit OE

def goodM (m : MD.T) : Bool := (bytM m).2 && ((readS (bytM m).1).2 && MD.eqb (readS (bytM m).1).1 m)
def encM (m : MD.T) : List UInt8 := if goodM m = true then (bytM m).1 else []
def errM (m : MD.T) : Int := if goodM m = true then 0 else 11
def decOk (s : List UInt8) : Bool := (readS s).2 && ((bytM (readS s).1).2 && decide ((bytM (readS s).1).1 = s))
def decM (s : List UInt8) : MD.T := if decOk s = true then (readS s).1 else MD.df
def derM (s : List UInt8) : Int := if decOk s = true then 0 else 11
def msgM (m : MD.T) : List UInt8 := if goodM m = true then Num.putT (bytM m).1 else []
theorem rl_tup {x : Cx} {b c : BE} (h : b.v = c.v) : ∀ {L : List (Bool × List C)} {vs : List Value}, RL (RP x) (L ++ [(false, [.bool b])]) vs → RL (RP x) (L ++ [(false, [.bool c])]) vs
  | [], [], hv => hv.elim
  | [], v :: vs, ⟨h1, h2⟩ => by
    refine ⟨?_, h2⟩
    unfold RP at h1 ⊢
    simp only [Bool.false_eq_true, if_false] at h1 ⊢
    obtain ⟨y, hy, h3⟩ := h1
    simp only [List.cons.injEq, and_true] at hy
    subst hy
    exact ⟨_, rfl, by show v = .bool c.v; rw [← h]; exact h3⟩
  | _ :: L, [], hv => hv.elim
  | _ :: L, v :: vs, ⟨h1, h2⟩ => ⟨h1, rl_tup h h2⟩
theorem FnD.tt {P : Program} {f : Nat} {args : List SV} {L : List (Bool × List C)} {b c : BE} (h : FnD P f args (· = .tup (L ++ [(false, [.bool b])]))) (hb : b.v = c.v) : FnD P f args (· = .tup (L ++ [(false, [.bool c])])) :=
  h.res fun r hr w ok v hv => by
    subst hr
    obtain ⟨vs, e, hl⟩ := hv
    exact ⟨vs, e, rl_tup hb hl⟩
theorem read_tt {s : List UInt8} (hs : s.length ≤ 1000000) (h : (readS s).2 = true) : FnD Tryd.prog 33 [.c (.str s)] (· = .tup [(true, mc (readS s).1), (false, [.bool .tt])]) :=
  FnD.tt (L := [(true, mc (readS s).1)]) (wire_read s hs) h
theorem read_ff {s : List UInt8} (hs : s.length ≤ 1000000) (h : (readS s).2 = false) : FnD Tryd.prog 33 [.c (.str s)] (· = .tup [(true, mc (readS s).1), (false, [.bool .ff])]) :=
  FnD.tt (L := [(true, mc (readS s).1)]) (wire_read s hs) h
theorem wire_Good (m : MD.T) (h : SmC m) : FnD Tryd.prog 14 [.agg (mc m)] (· = .c (.bool (.sym (goodM m)))) := by
  refine fn0 Tryd.func14 rfl rfl rfl ?_
  conv => whnf
  refine call1 (small_bytes h) rfl ?_
  conv => whnf
  refine ⟨fun a => ?_, fun a => ?_⟩
  · rw [show goodM m = false by unfold goodM; rw [wnt a]; rfl]
    conv => whnf
  have a : (bytM m).2 = true := wnf a
  have hl : (bytM m).1.length ≤ 1000000 := Nat.le_trans (bytM_len h) (by decide)
  rw [show goodM m = ((readS (bytM m).1).2 && MD.eqb (readS (bytM m).1).1 m) by unfold goodM; rw [a]; rfl]
  conv => whnf
  cases hr : (readS (bytM m).1).2 with
  | false =>
    refine call1 (read_ff hl hr) rfl ?_
    conv => whnf
    rfl
  | true =>
    refine call1 (read_tt hl hr) rfl ?_
    conv => whnf
    refine eqs0 MD (p := (readS (bytM m).1).1) (q := m) 100 rfl (by kernel_rfl) rfl (by kernel_rfl) rfl rfl rfl ?_
    conv => whnf
    rfl
theorem wire_Encode (m : MD.T) (h : SmC m) : FnD Tryd.prog 10 [.agg (mc m)] (· = .tup [(false, [.str (encM m)]), (false, [.int .i64 (errM m)])]) := by
  refine fn0 Tryd.func10 rfl rfl rfl ?_
  conv => whnf
  refine call1 (wire_Good m h) rfl ?_
  conv => whnf
  refine ⟨fun a => ?_, fun a => ?_⟩
  · have a := wnt a
    rw [show encM m = [] from if_neg (by rw [a]; decide), show errM m = 11 from if_neg (by rw [a]; decide)]
    conv => whnf
  have a := wnf a
  rw [show encM m = (bytM m).1 from if_pos a, show errM m = 0 from if_pos a]
  conv => whnf
  refine call1 (small_bytes h) rfl ?_
  conv => whnf
theorem wire_Message (m : MD.T) (h : SmC m) : FnD Tryd.prog 12 [.agg (mc m)] (· = .tup [(false, [.str (msgM m)]), (false, [.int .i64 (errM m)])]) := by
  refine fn0 Tryd.func12 rfl rfl rfl ?_
  conv => whnf
  refine call1 (wire_Encode m h) rfl ?_
  conv => whnf
  refine ⟨fun a => ?_, fun a => ?_⟩
  · have a : ¬ goodM m = true := fun hg => by rw [show errM m = 0 from if_pos hg] at a; cases a
    rw [show msgM m = [] from if_neg a]
    conv => whnf
  have a : goodM m = true := Decidable.byContradiction fun hg => by rw [show errM m = 11 from if_neg hg] at a; cases a
  rw [show msgM m = Num.putT (bytM m).1 from if_pos a, show errM m = 0 from if_pos a, show encM m = (bytM m).1 from if_pos a]
  conv => whnf
  refine call1 (num_PutText (bytM m).1 (Nat.le_trans (bytM_len h) (by decide))) rfl ?_
  conv => whnf
theorem wire_Decode (s : List UInt8) (hs : s.length ≤ 1000000) : FnD Tryd.prog 16 [.c (.str s)] (· = .tup [(true, mc (decM s)), (false, [.int .i64 (derM s)])]) := by
  have hO : decOk s = !(!(readS s).2 || !(bytM (readS s).1).2 || !decide ((bytM (readS s).1).1 = s)) := by
    unfold decOk; cases (readS s).2 <;> cases (bytM (readS s).1).2 <;> simp
  refine fn0 Tryd.func16 rfl rfl rfl ?_
  conv => whnf
  refine call1 (wire_read s hs) rfl ?_
  conv => whnf
  refine call1 (small_bytes (read_sm s)) rfl ?_
  conv => whnf
  refine ⟨fun a => ?_, fun a => ?_⟩
  · have a : decOk s = false := by rw [hO, a]; rfl
    rw [show decM s = MD.df from if_neg (by rw [a]; decide), show derM s = 11 from if_neg (by rw [a]; decide)]
    conv => whnf
    rfl
  have a : decOk s = true := by rw [hO, a]; rfl
  rw [show decM s = (readS s).1 from if_pos a, show derM s = 0 from if_pos a]
  conv => whnf
end Go.Proofs.YtnldokebmfojeaaDoor
