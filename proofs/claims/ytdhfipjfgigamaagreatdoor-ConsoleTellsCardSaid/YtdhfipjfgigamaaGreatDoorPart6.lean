/- Several texts of the proof, one behind the other; put together by a program of the session (mrg.py). Own work. -/
import Derived.Lib.Join
import Derived.Shelf.Strings.Builder1
import Derived.Shelf.Strings.OnBuilder
import Derived.Shelf.Strings.Trim
import Derived.Shelf.Strings.SlTrimAscii
import Derived.Shelf.Small.Strs
import Derived.Shelf.Small.Wraps
import Derived.Shelf.Strconv.Itoa3
import Derived.Shelf.Strconv.Itoa4
import Derived.Shelf.Strconv.ParseIntPublic10
import Derived.Shelf.Strings.Prefix
import Derived.Test.YtdhfipjfgigamaaGreatDoorProg
import Derived.Lib.AppendIntMem
import Derived.Lib.AtoiErrMem
import Derived.Test.YtdhfipjfgigamaaGreatDoorPart5
/- The walks of val.Props and of the reference's. Own work. -/
set_option linter.unusedVariables false
set_option maxRecDepth 100000
namespace Go.Proofs.YtdhfipjfgigamaaGreatDoor
open Go Go.RowKit OE

def pv (l : List PD.T) (i : Nat) : List UInt8 := (gt (d := PD) l ((i : Int) - 1)).1
/-- is the i-th property good where it stands? -/
def goodAt (l : List PD.T) (i : Nat) : Bool := nameS (gt (d := PD) l i).1 && goodV (gt (d := PD) l i).2 && (!decide ((0 : Int) < i) || Op.bytesLess (pv l i) (gt (d := PD) l i).1)
def propsS (l : List PD.T) : Bool := !decide ((8 : Int) < l.length) && (List.range l.length).all (goodAt l)

theorem refval_Props (l : List PD.T) : FnD Tryz.prog 41 [.c (.dat PD l)] (· = .c (.bool (.sym (propsS l)))) := by
  refine fn0 Tryz.func41 rfl rfl rfl ?_
  conv => whnf
  intro _
  refine ⟨fun h0 => ?_, fun h0 => ?_⟩
  · conv => whnf
    rw [propsS, h0]; rfl
  have hP : propsS l = (List.range l.length).all (goodAt l) := by rw [propsS, h0]; rfl
  simp at h0
  rw [hP]
  conv => whnf
  refine loop0 (α := Nat) (fun i => i ≤ l.length ∧ ((List.range l.length).drop i).all (goodAt l) = (List.range l.length).all (goodAt l))
    (fun i => ⟨[(0, .c (.dat PD l)), (3, .c (.int .i64 i))], [], 0⟩) (fun i => l.length - i) ⟨0, ⟨by omega, rfl⟩, ?_⟩ ?_
  · (conv => whnf); refine ⟨rfl, ?_, ?_, ?_⟩ <;> (repeat' apply And.intro) <;> first | exact trivial | rfl | exact wr_succ _ (by omega) | assumption | exact decide_eq_false (by assumption) | exact decide_eq_true (by assumption)
  rintro i ⟨hI1, hI2⟩
  conv => whnf
  intro _
  refine ⟨fun h2 => ?_, fun h2 => ?_⟩
  · have h2 : i < l.length := by simp at h2; omega
    rw [all_step (by rw [List.length_range]; exact h2), List.getElem_range] at hI2
    have hg : gt (d := PD) l (i : Int) = l[i] := gt_nat (d := PD) l i h2
    have hA : goodAt l i = (nameS l[i].1 && goodV l[i].2 && (!decide ((0 : Int) < i) || Op.bytesLess (pv l i) l[i].1)) := by unfold goodAt; rw [hg]
    have hw : IntKind.wrap .i64 ((i : Int) - 1) = (i : Int) - 1 := wr64 _ (by omega) (by omega)
    conv => whnf
    refine any0 ?_
    conv => whnf
    try (intro _; conv => whnf)
    refine ⟨by omega, ?_⟩
    rw [gt_nat (d := PD) l i h2]
    conv => whnf
    refine callr0 (ref_Name l[i].1) rfl ?_
    conv => whnf
    try (intro _; conv => whnf)
    refine ⟨fun _ => by omega, ?_⟩
    rw [gt_nat (d := PD) l i h2]
    conv => whnf
    refine callrg0 (fun _ => ref_Good l[i].2) rfl ?_
    conv => whnf
    refine ⟨fun h => by have := h.2; simp at this; rw [hw]; omega, ?_⟩
    conv => whnf
    rw [hw]
    refine ⟨fun h => by omega, ?_⟩
    rw [gt_nat (d := PD) l i h2]
    conv => whnf
    refine ⟨.inl (by kernel_rfl), after0 ?_⟩
    conv => whnf
    have hc : (!nameS l[i].1 || !goodV l[i].2 || (decide ((0 : Int) < i) && !Op.bytesLess (pv l i) l[i].1)) = !goodAt l i := by
      rw [hA]
      cases nameS l[i].1 <;> cases goodV l[i].2 <;> cases decide ((0 : Int) < i) <;> cases Op.bytesLess (pv l i) l[i].1 <;> rfl
    refine ⟨fun h3 => ?_, fun h3 => ?_⟩
    · have h3 : goodAt l i = false := by have h3' := hc.symm.trans h3; simpa using h3'
      rw [h3, Bool.false_and] at hI2
      conv => whnf
      rw [← hI2]
    · have h3 : goodAt l i = true := by have h3' := hc.symm.trans h3; simpa using h3'
      rw [h3, Bool.true_and] at hI2
      conv => whnf
      refine ⟨i + 1, ⟨⟨by omega, hI2⟩, by omega⟩, ?_⟩
      (conv => whnf); refine ⟨rfl, ?_, ?_, ?_⟩ <;> (repeat' apply And.intro) <;> first | exact trivial | rfl | exact wr_succ _ (by omega) | assumption | exact decide_eq_false (by assumption) | exact decide_eq_true (by assumption)
  · conv => whnf
    rw [← hI2, List.drop_of_length_le (by rw [List.length_range]; simp at h2; omega)]
    rfl
end Go.Proofs.YtdhfipjfgigamaaGreatDoor
/- The walks of val.EncodeProps and of the reference's. Own work. -/
set_option linter.unusedVariables false
set_option maxRecDepth 100000
namespace Go.Proofs.YtdhfipjfgigamaaGreatDoor
open Go Go.RowKit OE

theorem encV_len {v : VD.T} (hv : Wf VD v) : (encV v).length ≤ 1040 := by
  have hz := wf_i64 hv.2.1
  have hzl := putZ_len v.2.1 hz.1 hz.2
  unfold encV
  split
  · show 1 ≤ _; omega
  · split
    · rename_i hg
      have hl := good_len hg
      split
      · show 1 + 1 ≤ _; omega
      · split
        · rw [List.length_append]; show 1 + _ ≤ _; omega
        · rw [List.length_append]
          have := Num.putN_ten (n := v.2.2.length) (Nat.lt_of_le_of_lt hl (by decide))
          unfold Num.putT
          rw [List.length_append]
          show 1 + _ ≤ _; omega
    · simp
end Go.Proofs.YtdhfipjfgigamaaGreatDoor
/- What properties' bytes say; no program in sight. Own work. -/
set_option linter.unusedVariables false
set_option maxRecDepth 100000
namespace Go.Proofs.YtdhfipjfgigamaaGreatDoor
open Go Go.RowKit OE

end Go.Proofs.YtdhfipjfgigamaaGreatDoor
/- Rules' bytes: what was encoded is decoded as it was, what was decoded is encoded as it stood; no program in sight. Own work. -/
set_option linter.unusedVariables false
set_option maxRecDepth 100000
namespace Go.Proofs.YtdhfipjfgigamaaGreatDoor
open Go Go.RowKit OE

theorem gnS_at {s : List UInt8} {k : Int} (p : List UInt8) (n : Nat) (r : List UInt8) (hn : n ≤ 1000000) (hs : s = p ++ Num.putN n ++ r) (hk : k = p.length) : gnS s k = some (n, (Num.putN n).length) := by
  unfold gnS
  rw [hs, hk, Num.getN_put n p r (by omega)]
  exact if_pos hn
theorem gtS_at {s : List UInt8} {k : Int} (p : List UInt8) (t : List UInt8) (r : List UInt8) (hn : t.length ≤ 16) (hs : s = p ++ Num.putT t ++ r) (hk : k = p.length) : Num.getT s k 16 = some (t, (Num.putT t).length) := by
  rw [hs, hk, Num.getT_put t p r 16 (by omega) (by omega)]
theorem toNat_le (x : Int) (h : x ≤ 1000000) : x.toNat ≤ 1000000 := by omega

theorem bytS_len {r : RD.T} (h : okS r = true) : (bytS r).length ≤ 144 := by
  obtain ⟨i0, i1, k0, k1, n0, n1, s0, s1, t0, t1, t2, t3⟩ := okR h
  have p1 := putN_b r.1 i1
  have p2 := putN_b r.2.1 (Int.le_trans k1 (by decide))
  have p3 := putN_b r.2.2.2.2.2.2.2 (Int.le_trans s1 (by decide))
  have p4 := putN_b r.2.2.2.2.2.2.1 (Int.le_trans n1 (by decide))
  have q1 := putT_b t0
  have q2 := putT_b t1
  have q3 := putT_b t2
  have q4 := putT_b t3
  simp only [bytS, List.length_append]
  omega

end Go.Proofs.YtdhfipjfgigamaaGreatDoor
/- Values' and properties' bytes: what was encoded is decoded as it was, what was decoded is encoded as it stood; no program in sight. Own work. -/
set_option linter.unusedVariables false
set_option maxRecDepth 100000
namespace Go.Proofs.YtdhfipjfgigamaaGreatDoor
open Go Go.RowKit OE

theorem zag_zig' (b : Int) : Num.zag (Num.zig b) = b := by
  unfold Num.zag Num.zig
  split <;> split <;> omega
theorem bt_at (p : List UInt8) (c : UInt8) (r : List UInt8) : bt (p ++ c :: r) (p.length : Int) = (c.toNat : Int) := by
  rw [bt_nat _ _ (by simp)]
  simp
theorem bt_at' {s : List UInt8} {k : Int} (p : List UInt8) (c : UInt8) (r : List UInt8) (hs : s = p ++ c :: r) (hk : k = p.length) : bt s k = (c.toNat : Int) := by
  rw [hs, hk, bt_at]
theorem blank_is {v : VD.T} (h : blankV v = true) : v = (0, 0, []) := by
  rw [← blank_eq] at h
  exact (D.eqb_iff VD v (0, 0, [])).1 h
theorem encV_blank : encV ((0, 0, []) : VD.T) = [0] := rfl

theorem decV_enc {v : VD.T} (hv : Wf VD v) (h : blankV v = true ∨ goodV v = true) (p r : List UInt8) {s : List UInt8} {k : Int} (hs : s = p ++ encV v ++ r) (hk : k = p.length) :
    decV s k = some (v, (encV v).length) := by
  by_cases hb : blankV v = true
  · have e := blank_is hb
    subst e
    rw [encV_blank] at hs ⊢
    have h0 : bt s k = 0 := by rw [bt_at' (s := s) (k := k) p 0 r (by rw [hs]; simp) hk]; rfl
    have hr : ¬ (k < 0 ∨ (s.length : Int) ≤ k) := by rw [hs, hk]; simp; omega
    unfold decV decB
    rw [if_neg hr, if_pos h0]
    rfl
  have hg : goodV v = true := h.resolve_left hb
  obtain ⟨x, y, t⟩ := v
  have hz := wf_i64 hv.2.1
  have hx : x = 1 ∨ x = 2 ∨ x = 3 := by
    unfold goodV at hg
    dsimp only at hg
    split at hg
    · exact .inl (by assumption)
    · split at hg
      · exact .inr (.inl (by assumption))
      · split at hg
        · exact .inr (.inr (by assumption))
        · cases hg
  rcases hx with rfl | rfl | rfl
  · have hE : encV ((1, y, t) : VD.T) = [1] ++ byl [IntKind.wrap .u8 y] := by
      unfold encV; rw [if_neg hb, if_pos hg]; rfl
    have hgg : (y = 0 ∨ y = 1) ∧ t = [] := by
      have : good1 ((1, y, t) : VD.T) = true := hg
      simpa [good1] using this
    obtain ⟨hy, rfl⟩ := hgg
    rw [hE] at hs ⊢
    have hby : byl [IntKind.wrap .u8 y] = [UInt8.ofNat y.toNat] := by rcases hy with rfl | rfl <;> rfl
    rw [hby] at hs ⊢
    have h0 : bt s k = 1 := by rw [bt_at' (s := s) (k := k) p 1 (UInt8.ofNat y.toNat :: r) (by rw [hs]; simp) hk]; rfl
    have h1 : bt s (k + 1) = y := by
      rw [bt_at' (s := s) (k := k + 1) (p ++ [1]) (UInt8.ofNat y.toNat) r (by rw [hs]; simp) (by rw [hk]; simp)]
      rcases hy with rfl | rfl <;> rfl
    have hr : ¬ (k < 0 ∨ (s.length : Int) ≤ k) := by rw [hs, hk]; simp; omega
    have hr2 : k + 1 < s.length := by rw [hs, hk]; simp; omega
    unfold decV decB
    rw [if_neg hr, h0, h1]
    rw [if_neg (by decide), if_pos rfl, if_pos ⟨hr2, by rcases hy with rfl | rfl <;> decide⟩]
    rfl
  · have hE : encV ((2, y, t) : VD.T) = [2] ++ Num.putZ y := by
      unfold encV; rw [if_neg hb, if_pos hg]; rfl
    have ht : t = [] := by
      have : decide (t = []) = true := hg
      simpa using this
    subst ht
    rw [hE] at hs ⊢
    have h0 : bt s k = 2 := by rw [bt_at' (s := s) (k := k) p 2 (Num.putZ y ++ r) (by rw [hs]; simp) hk]; rfl
    have hr : ¬ (k < 0 ∨ (s.length : Int) ≤ k) := by rw [hs, hk]; simp; omega
    have hgn : Num.getN s (k + 1) = some (Num.zig y, (Num.putZ y).length) := by
      have := Num.getN_put (Num.zig y) (p ++ [2]) r (zig_bd y hz.1 hz.2)
      rw [show s = p ++ [2] ++ Num.putN (Num.zig y) ++ r by rw [hs]; simp [Num.putZ], show k + 1 = ((p ++ [2]).length : Int) by rw [hk]; simp]
      exact this
    unfold decV decB
    rw [if_neg hr, h0, hgn]
    dsimp only
    rw [if_neg (by decide), if_neg (by decide), if_pos rfl, zag_zig', List.length_append]
    rw [Nat.add_comm]; rfl
  · have hE : encV ((3, y, t) : VD.T) = [3] ++ Num.putT t := by
      unfold encV; rw [if_neg hb, if_pos hg]; rfl
    have hgg : y = 0 ∧ (t.length : Int) ≤ 1024 := by
      have : good3 ((3, y, t) : VD.T) = true := hg
      simpa [good3] using this
    obtain ⟨rfl, hl⟩ := hgg
    rw [hE] at hs ⊢
    have h0 : bt s k = 3 := by rw [bt_at' (s := s) (k := k) p 3 (Num.putT t ++ r) (by rw [hs]; simp) hk]; rfl
    have hr : ¬ (k < 0 ∨ (s.length : Int) ≤ k) := by rw [hs, hk]; simp; omega
    have hgn : Num.getT s (k + 1) 1024 = some (t, (Num.putT t).length) := by
      have := Num.getT_put t (p ++ [3]) r 1024 hl (by omega)
      rw [show s = p ++ [3] ++ Num.putT t ++ r by rw [hs]; simp, show k + 1 = ((p ++ [3]).length : Int) by rw [hk]; simp]
      exact this
    unfold decV decB
    rw [if_neg hr, h0, hgn]
    dsimp only
    rw [if_neg (by decide), if_neg (by decide), if_neg (by decide), if_pos rfl, List.length_append]
    rw [Nat.add_comm]; rfl

end Go.Proofs.YtdhfipjfgigamaaGreatDoor
/- What is small of a command, and of one that was read. Own work. -/
set_option linter.unusedVariables false
namespace Go.Proofs.YtdhfipjfgigamaaGreatDoor
open Go Go.RowKit OE

structure SmC (m : MD.T) : Prop where
  ty : (mType m).length ≤ 100000
  nm : (mName m).length ≤ 100000
  v : Wf VD (mV m)
  to : Wf VD (mTo m)
  oty : (mOp m).2.2.1.length ≤ 100000
  onm : (mOp m).2.2.2.2.2.1.length ≤ 100000
  ov : Wf VD (oV (mOp m))
theorem putT_1000 {t : List UInt8} (h : t.length ≤ 100000) : (Num.putT t).length ≤ 100010 := by
  unfold Num.putT
  have := Num.putN_ten (n := t.length) (Nat.lt_of_le_of_lt h (by decide))
  rw [List.length_append]; omega
theorem txS_len {t : List UInt8} {e : Bool} (h : t.length ≤ 100000) : (txS t e).1.length ≤ 100010 := putT_1000 h
theorem nuS_len (n a b : Int) : (nuS n a b).1.length ≤ 10 := Num.putN_ten (wrap_u64 n).2
theorem vaS_len {v : VD.T} {e : Bool} (h : Wf VD v) : (vaS v e).1.length ≤ 1040 := encV_len h
theorem encS_144 (r : RD.T) : (encS r).length ≤ 144 := by
  unfold encS
  split
  · rename_i h; exact bytS_len h
  · simp
theorem putO_len {m : MD.T} (h : SmC m) (f : Int) : (putO (mOp m) f).1.length ≤ 100010 := by
  generalize hr : putO (mOp m) f = r
  unfold putO at hr
  repeat' split at hr
  all_goals subst hr
  all_goals first | exact Nat.le_trans (txS_len h.oty) (by decide) | exact Nat.le_trans (txS_len h.onm) (by decide) | exact Nat.le_trans (nuS_len _ _ _) (by decide) | exact Nat.le_trans (vaS_len h.ov) (by decide) | (show 1 ≤ 100010; decide)
theorem allS_len {P : Int → List UInt8 × Bool} {B : Nat} (h : ∀ f, (P f).1.length ≤ B) (k : Int) (l : List UInt8) : (allS P k l).1.length ≤ 1 + l.length * B := by
  unfold allS
  split
  · have := flat_len h l
    rw [List.length_append]
    show 1 + _ ≤ _
    omega
  · exact Nat.zero_le _
theorem ops_three (k : Int) : (gt (d := .str) opsL k).length ≤ 3 := by
  show (opsL.getD k.toNat []).length ≤ 3
  rcases Nat.lt_or_ge k.toNat 6 with h | h
  · exact (by decide : ∀ n : Fin 6, (opsL.getD n.1 []).length ≤ 3) ⟨k.toNat, h⟩
  · have : opsL.getD k.toNat [] = [] := by rw [List.getD_eq_getElem?_getD, List.getElem?_eq_none h]; rfl
    rw [this]; decide
theorem cmd_four (k : Int) : (gt (d := .str) cmdL k).length ≤ 4 := by
  show (cmdL.getD k.toNat []).length ≤ 4
  rcases Nat.lt_or_ge k.toNat 21 with h | h
  · exact (by decide : ∀ n : Fin 21, (cmdL.getD n.1 []).length ≤ 4) ⟨k.toNat, h⟩
  · have : cmdL.getD k.toNat [] = [] := by rw [List.getD_eq_getElem?_getD, List.getElem?_eq_none h]; rfl
    rw [this]; decide
theorem chgS_len {m : MD.T} (h : SmC m) : (chgS (mOp m)).1.length ≤ 300031 := by
  unfold chgS
  split
  · exact Nat.zero_le _
  · refine Nat.le_trans (allS_len (putO_len h) _ _) ?_
    have := Nat.mul_le_mul_right 100010 (ops_three (mOp m).1)
    omega
theorem putM_len {m : MD.T} (h : SmC m) (f : Int) : (putM m f).1.length ≤ 300031 := by
  generalize hr : putM m f = r
  unfold putM at hr
  repeat' split at hr
  all_goals subst hr
  all_goals first | exact Nat.le_trans (txS_len h.ty) (by decide) | exact Nat.le_trans (txS_len h.nm) (by decide) | exact Nat.le_trans (nuS_len _ _ _) (by decide) | exact Nat.le_trans (vaS_len h.v) (by decide) | exact Nat.le_trans (vaS_len h.to) (by decide) | exact Nat.le_trans (encS_144 _) (by decide) | exact chgS_len h
theorem bytM_len {m : MD.T} (h : SmC m) : (bytM m).1.length ≤ 1200125 := by
  unfold bytM
  split
  · exact Nat.zero_le _
  · refine Nat.le_trans (allS_len (putM_len h) _ _) ?_
    have := Nat.mul_le_mul_right 300031 (cmd_four m.1)
    omega
theorem SmC.m {m : MD.T} (h : SmC m) : SmM m := by
  have hl : (100000 : Nat) ≤ 140737488355327 := by decide
  exact ⟨h.ty, h.nm, h.v, h.to, fun f => Nat.le_trans (putO_len h f) (by decide), Nat.le_trans h.oty hl, Nat.le_trans h.onm hl, h.ov⟩
theorem small_bytes {m : MD.T} (h : SmC m) : FnD Tryz.prog 56 [.agg (mc m)] (· = paR (bytM m)) := wire_bytes m (fun f => Nat.le_trans (putM_len h f) (by decide)) h.m

/-! what was read is small -/
theorem wf0 : Wf VD ((0, 0, []) : VD.T) := ⟨by decide, by decide, Nat.zero_le _⟩
end Go.Proofs.YtdhfipjfgigamaaGreatDoor
/- The walks of wire.Good, Encode, Decode, Message. Own work. -/
set_option linter.unusedVariables false
set_option maxRecDepth 100000
namespace Go.Proofs.YtdhfipjfgigamaaGreatDoor
open Go Go.RowKit OE

def goodM (m : MD.T) : Bool := (bytM m).2 && ((readS (bytM m).1).2 && MD.eqb (readS (bytM m).1).1 m)
theorem rl_tup {x : Cx} {b c : BE} (h : b.v = c.v) : ∀ {L : List (Bool × List C)} {vs : List Value}, RL (RP x) (L ++ [(false, [.bool b])]) vs → RL (RP x) (L ++ [(false, [.bool c])]) vs
  | [], [], hv => hv.elim
  | [], v :: vs, ⟨h1, h2⟩ => by
    refine ⟨?_, h2⟩
    unfold RP at h1 ⊢
    simp only [Bool.false_eq_true, if_false] at h1 ⊢
    obtain ⟨y, hy, h3⟩ := h1
    simp only [List.cons.injEq, and_true] at hy
    subst hy
    exact ⟨_, rfl, by show v = .bool c.v; rw [← h]; exact h3⟩
  | _ :: L, [], hv => hv.elim
  | _ :: L, v :: vs, ⟨h1, h2⟩ => ⟨h1, rl_tup h h2⟩
theorem FnD.tt {P : Program} {f : Nat} {args : List SV} {L : List (Bool × List C)} {b c : BE} (h : FnD P f args (· = .tup (L ++ [(false, [.bool b])]))) (hb : b.v = c.v) : FnD P f args (· = .tup (L ++ [(false, [.bool c])])) :=
  h.res fun r hr w ok v hv => by
    subst hr
    obtain ⟨vs, e, hl⟩ := hv
    exact ⟨vs, e, rl_tup hb hl⟩
theorem read_tt {s : List UInt8} (hs : s.length ≤ 100000000) (h : (readS s).2 = true) : FnD Tryz.prog 57 [.c (.str s)] (· = .tup [(true, mc (readS s).1), (false, [.bool .tt])]) :=
  FnD.tt (L := [(true, mc (readS s).1)]) (wire_read s hs) h
theorem read_ff {s : List UInt8} (hs : s.length ≤ 100000000) (h : (readS s).2 = false) : FnD Tryz.prog 57 [.c (.str s)] (· = .tup [(true, mc (readS s).1), (false, [.bool .ff])]) :=
  FnD.tt (L := [(true, mc (readS s).1)]) (wire_read s hs) h
theorem wire_Good (m : MD.T) (h : SmC m) : FnD Tryz.prog 24 [.agg (mc m)] (· = .c (.bool (.sym (goodM m)))) := by
  refine fn0 Tryz.func24 rfl rfl rfl ?_
  conv => whnf
  refine call1 (small_bytes h) rfl ?_
  conv => whnf
  refine ⟨fun a => ?_, fun a => ?_⟩
  · rw [show goodM m = false by unfold goodM; rw [wnt a]; rfl]
    conv => whnf
  have a : (bytM m).2 = true := wnf a
  have hl : (bytM m).1.length ≤ 100000000 := Nat.le_trans (bytM_len h) (by decide)
  rw [show goodM m = ((readS (bytM m).1).2 && MD.eqb (readS (bytM m).1).1 m) by unfold goodM; rw [a]; rfl]
  conv => whnf
  cases hr : (readS (bytM m).1).2 with
  | false =>
    refine call1 (read_ff hl hr) rfl ?_
    conv => whnf
    rfl
  | true =>
    refine call1 (read_tt hl hr) rfl ?_
    conv => whnf
    refine eqs0 MD (p := (readS (bytM m).1).1) (q := m) 100 rfl (by kernel_rfl) rfl (by kernel_rfl) rfl rfl rfl ?_
    conv => whnf
    rfl
end Go.Proofs.YtdhfipjfgigamaaGreatDoor
/- The walks of wire.lacks, Next. Own work. -/
set_option linter.unusedVariables false
set_option maxRecDepth 100000
namespace Go.Proofs.YtdhfipjfgigamaaGreatDoor
open Go Go.RowKit OE

end Go.Proofs.YtdhfipjfgigamaaGreatDoor
/- The walk of the laws' wakes (wire). Own work. -/
set_option linter.unusedVariables false
set_option maxRecDepth 100000
namespace Go.Proofs.YtdhfipjfgigamaaGreatDoor
open Go Go.RowKit OE

end Go.Proofs.YtdhfipjfgigamaaGreatDoor
/- The walks of the reference's Op, GoodOp, Good. Own work. -/
set_option linter.unusedVariables false
set_option maxRecDepth 100000
namespace Go.Proofs.YtdhfipjfgigamaaGreatDoor
open Go Go.RowKit OE

def okId (n : Int) : Bool := decide (0 ≤ n) && decide (n ≤ 4611686018427387903)
def okVal (v : VD.T) : Bool := goodV v || blankV v
def o0 (k : Int) : OD.T := (k, OD.df.2)
/-- of a change that has a form, just its fields -/
def opN (o : OD.T) : OD.T × Bool :=
  if (o.1 : Int) = 1 then (oT (o0 1) o.2.2.1, nameS o.2.2.1)
  else if (o.1 : Int) = 2 then (oC (oI (o0 2) o.2.1) o.2.2.2.2.2.2.2, okId o.2.1)
  else if (o.1 : Int) = 3 then (oE (oF (oT (o0 3) o.2.2.1) o.2.2.2.1) o.2.2.2.2.1, nameS o.2.2.1 && okId o.2.2.2.1 && okId o.2.2.2.2.1)
  else if (o.1 : Int) = 4 then (oI (o0 4) o.2.1, okId o.2.1)
  else if (o.1 : Int) = 5 then (oVl (oN (oI (o0 5) o.2.1) o.2.2.2.2.2.1) (oV o), okId o.2.1 && nameS o.2.2.2.2.2.1 && okVal (oV o))
  else (o0 o.1, false)
def goodO (o : OD.T) : Bool := (opN o).2 && OD.eqb (opN o).1 o
/-- of a command, just its kind's fields; whether they have a form -/
def cmN (m : MD.T) : MD.T × Bool :=
  if (m.1 : Int) = 1 ∨ (m.1 : Int) = 2 ∨ (m.1 : Int) = 3 ∨ (m.1 : Int) = 20 then (m0 m.1, true)
  else if (m.1 : Int) = 4 ∨ (m.1 : Int) = 5 then (mNm (m0 m.1) (mName m), nameS (mName m))
  else if (m.1 : Int) = 6 then (sO (m0 m.1) (mOp m), goodO (mOp m))
  else if (m.1 : Int) = 7 ∨ (m.1 : Int) = 8 then (mI (m0 m.1) m.2.1, okId m.2.1)
  else if (m.1 : Int) = 9 ∨ (m.1 : Int) = 10 then (mT (mI (m0 m.1) m.2.1) (mType m), okId m.2.1 && (decide (mType m = []) || nameS (mType m)))
  else if (m.1 : Int) = 11 then (mT (m0 m.1) (mType m), nameS (mType m))
  else if (m.1 : Int) = 12 then (mVl (mNm (mT (m0 m.1) (mType m)) (mName m)) (mV m), nameS (mType m) && nameS (mName m) && goodV (mV m))
  else if (m.1 : Int) = 13 then (mW (mVl (mNm (mT (m0 m.1) (mType m)) (mName m)) (mV m)) (mTo m), nameS (mType m) && nameS (mName m) && okVal (mV m) && okVal (mTo m))
  else if (m.1 : Int) = 14 ∨ (m.1 : Int) = 15 then (mM (mT (m0 m.1) (mType m)) (mN m), nameS (mType m) && (decide (mN m = 1) || decide (mN m = 2)))
  else if (m.1 : Int) = 16 then (mR (m0 m.1) (mRule m), formS (mRule m) && decide ((mRule m).1 = 0) && decide ((mRule m).2.2.2.2.2.2.2 = 0))
  else if (m.1 : Int) = 17 then (mM (m0 m.1) (mN m), decide (0 ≤ mN m) && decide (mN m ≤ 1000000))
  else if (m.1 : Int) = 18 ∨ (m.1 : Int) = 19 then (mNm (mT (m0 m.1) (mType m)) (mName m), nameS (mType m) && nameS (mName m))
  else (m0 m.1, false)
def refgood (m : MD.T) : Bool := (cmN m).2 && MD.eqb (cmN m).1 m
end Go.Proofs.YtdhfipjfgigamaaGreatDoor
/- What the console's functions compute, in plain Lean. Own work. -/
set_option linter.unusedVariables false
set_option maxRecDepth 100000
namespace Go.Proofs.YtdhfipjfgigamaaGreatDoor.Con
open Go Go.RowKit Go.Lib OE

/-- the lines' forms: word, kind, inner kind, the places of the other words -/
abbrev FD : D := .pair .str (.pair (.int .i64) (.pair (.int .i64) .str))
abbrev fx (x : FD.T) : List C := [.str x.1, .int .i64 x.2.1, .int .i64 x.2.2.1, .str x.2.2.2]
abbrev formsL : List FD.T := [([98, 101, 103, 105, 110], 1, 0, []), ([99, 111, 109, 109, 105, 116], 2, 0, []), ([97, 98, 111, 114, 116], 3, 0, []), ([99, 97, 116, 97, 108, 111, 103], 20, 0, []), ([115, 97, 118, 101], 4, 0, [110]), ([98, 97, 99, 107], 5, 0, [110]), ([110, 111, 100, 101], 6, 1, [116]), ([100, 114, 111, 112], 6, 2, [105]), ([99, 97, 115, 99, 97, 100, 101], 6, 2, [105]), ([101, 100, 103, 101], 6, 3, [116, 97, 98]), ([99, 117, 116], 6, 4, [105]), ([115, 101, 116], 6, 5, [105, 110, 118]), ([103, 101, 116], 7, 0, [105]), ([97, 114, 99], 8, 0, [105]), ([111, 117, 116], 9, 0, [105, 101]), ([105, 110], 10, 0, [105, 101]), ([115, 99, 97, 110], 11, 0, [116]), ([102, 105, 110, 100], 12, 0, [116, 110, 118]), ([114, 97, 110, 103, 101], 13, 0, [116, 110, 118, 119]), ([116, 121, 112, 101], 14, 0, [116, 107]), ([110, 111, 116, 121, 112, 101], 15, 0, [116, 107]), ([117, 110, 105, 113, 117, 101], 16, 1, [116, 110]), ([101, 120, 105, 115, 116, 115], 16, 2, [116, 110]), ([101, 110, 100, 115], 16, 3, [116, 102, 103]), ([109, 111, 115, 116], 16, 4, [116, 107]), ([110, 111, 114, 117, 108, 101], 17, 0, [107]), ([105, 110, 100, 101, 120], 18, 0, [116, 110]), ([110, 111, 105, 110, 100, 101, 120], 19, 0, [116, 110])]
abbrev tNone : List UInt8 := [110, 111, 110, 101]
abbrev tFalse : List UInt8 := [102, 97, 108, 115, 101]
abbrev tTrue : List UInt8 := [116, 114, 117, 101]
abbrev tCascade : List UInt8 := [99, 97, 115, 99, 97, 100, 101]
/-- what ParseInt hands back -/
def pn (s : List UInt8) : Int := match parseIntB 64 s with
  | .ok n => n
  | .range => intSat 64 s
  | _ => 0
/-- a word's value, and whether it is one -/
def valS (s : List UInt8) : VD.T × Bool :=
  if s = tNone then ((0, 0, []), true)
  else if s = tFalse then ((1, 0, []), true)
  else if s = tTrue then ((1, 1, []), true)
  else if s.head? = some 34 then (if hexB s.tail = true then ((3, 0, unhex s.tail), true) else ((0, 0, []), false))
  else ((2, pn s, []), (intV s).isSome)
/-- a value's word -/
def wordV (v : VD.T) : List UInt8 :=
  if (v.1 : Int) = 0 then tNone
  else if (v.1 : Int) = 1 then (if (v.2.1 : Int) = 1 then tTrue else tFalse)
  else if (v.1 : Int) = 2 then itoa v.2.1
  else 34 :: hexS v.2.2
def rT (r : RD.T) (t : List UInt8) : RD.T := (r.1, r.2.1, t, r.2.2.2)
def rN (r : RD.T) (t : List UInt8) : RD.T := (r.1, r.2.1, r.2.2.1, t, r.2.2.2.2)
def rF (r : RD.T) (t : List UInt8) : RD.T := (r.1, r.2.1, r.2.2.1, r.2.2.2.1, t, r.2.2.2.2.2)
def rG (r : RD.T) (t : List UInt8) : RD.T := (r.1, r.2.1, r.2.2.1, r.2.2.2.1, r.2.2.2.2.1, t, r.2.2.2.2.2.2)
def rM (r : RD.T) (n : Int) : RD.T := (r.1, r.2.1, r.2.2.1, r.2.2.2.1, r.2.2.2.2.1, r.2.2.2.2.2.1, n, r.2.2.2.2.2.2.2)
/-- a word is read -/
def readV (m : MD.T) (f : Int) (s : List UInt8) : MD.T × Bool :=
  if f = 118 then (if (m.1 : Int) = 6 then (sO m (oVl (mOp m) (valS s).1), (valS s).2) else (mVl m (valS s).1, (valS s).2))
  else if f = 119 then (mW m (valS s).1, (valS s).2)
  else if f = 105 then (if (m.1 : Int) = 6 then (sO m (oI (mOp m) (numP s).1), (numP s).2) else (mI m (numP s).1, (numP s).2))
  else if f = 97 then (sO m (oF (mOp m) (numP s).1), (numP s).2)
  else if f = 98 then (sO m (oE (mOp m) (numP s).1), (numP s).2)
  else if (m.1 : Int) = 16 then (mR m (rM (mRule m) (numP s).1), (numP s).2)
  else (mM m (numP s).1, (numP s).2)
def readM (m : MD.T) (f : Int) (s : List UInt8) : MD.T × Bool :=
  if (m.1 : Int) = 6 then
    if f = 116 then (sO m (oT (mOp m) s), !decide (s = []))
    else if f = 110 then (sO m (oN (mOp m) s), !decide (s = []))
    else readV m f s
  else if (m.1 : Int) = 16 then
    if f = 116 then (mR m (rT (mRule m) s), !decide (s = []))
    else if f = 110 then (mR m (rN (mRule m) s), !decide (s = []))
    else if f = 102 then (mR m (rF (mRule m) s), !decide (s = []))
    else if f = 103 then (mR m (rG (mRule m) s), !decide (s = []))
    else readV m f s
  else if f = 116 then (mT m s, !decide (s = []))
  else if f = 101 then (mT m s, !decide (s = []))
  else if f = 110 then (mNm m s, !decide (s = []))
  else readV m f s
/-- the word that stands somewhere -/
def writeV (m : MD.T) (f : Int) : List UInt8 :=
  if f = 118 then (if (m.1 : Int) = 6 then wordV (oV (mOp m)) else wordV (mV m))
  else if f = 119 then wordV (mTo m)
  else if f = 105 then (if (m.1 : Int) = 6 then itoa (mOp m).2.1 else itoa m.2.1)
  else if f = 97 then itoa (mOp m).2.2.2.1
  else if f = 98 then itoa (mOp m).2.2.2.2.1
  else if (m.1 : Int) = 16 then itoa (mRule m).2.2.2.2.2.2.1
  else itoa (mN m)
def writeM (m : MD.T) (f : Int) : List UInt8 :=
  if (m.1 : Int) = 6 then
    if f = 116 then (mOp m).2.2.1
    else if f = 110 then (mOp m).2.2.2.2.2.1
    else writeV m f
  else if (m.1 : Int) = 16 then
    if f = 116 then (mRule m).2.2.1
    else if f = 110 then (mRule m).2.2.2.1
    else if f = 102 then (mRule m).2.2.2.2.1
    else if f = 103 then (mRule m).2.2.2.2.2.1
    else writeV m f
  else if f = 116 then mType m
  else if f = 101 then mType m
  else if f = 110 then mName m
  else writeV m f
/-- the places of words -/
def fW (f : Int) : Prop := f = 116 ∨ f = 101 ∨ f = 110 ∨ f = 105 ∨ f = 118 ∨ f = 119 ∨ f = 107 ∨ f = 102 ∨ f = 103 ∨ f = 97 ∨ f = 98
instance (f : Int) : Decidable (fW f) := by unfold fW; infer_instance
/-- the command of a form, without its words -/
def freshM (x : FD.T) : MD.T :=
  if (x.2.1 : Int) = 6 then sO (m0 x.2.1) (oC (oK OD.df x.2.2.1) (decide (x.1 = tCascade)))
  else if (x.2.1 : Int) = 16 then mR (m0 x.2.1) (0, x.2.2.1, RD.df.2.2)
  else m0 x.2.1
def readAll (m : MD.T) : List UInt8 → List (List UInt8) → MD.T × Bool
  | _, [] => (m, true)
  | [], _ :: _ => (m, false)
  | f :: fs, w :: ws => if (readM m f.toNat w).2 = true then readAll (readM m f.toNat w).1 fs ws else ((readM m f.toNat w).1, false)
def okL (x : FD.T) (ws : List (List UInt8)) : Bool := decide (x.2.2.2.length + 1 = ws.length) || (decide (x.2.2.2.length = ws.length) && hasSuffix x.2.2.2 [101])
def tryF (x : FD.T) (ws : List (List UInt8)) : Option MD.T :=
  if okL x ws = true then
    if (readAll (freshM x) x.2.2.2 ws.tail).2 = true then
      if refgood (readAll (freshM x) x.2.2.2 ws.tail).1 = true then some (readAll (freshM x) x.2.2.2 ws.tail).1 else none
    else none
  else none
def pF : List FD.T → List (List UInt8) → Option MD.T
  | [], _ => none
  | x :: xs, ws => if x.1 = ws.headD [] then (match tryF x ws with
    | some m => some m
    | none => pF xs ws) else pF xs ws
def parseS (line : List UInt8) : Option MD.T := pF formsL (wordsL line)
def resM (o : Option MD.T) : MD.T := o.getD MD.df
def resE (o : Option MD.T) : Int := if o.isSome = true then 0 else 320
/-- the line of a command -/
def outW (m : MD.T) : List UInt8 → List (List UInt8)
  | [] => []
  | f :: fs => if f = 101 ∧ mType m = [] then outW m fs else writeM m f.toNat :: outW m fs
def joinW (l : List (List UInt8)) : List UInt8 := join l [32]
def lineX (x : FD.T) (m : MD.T) : List UInt8 := joinW (x.1 :: outW m x.2.2.2)
def sameO (o : Option MD.T) (m : MD.T) : Bool := match o with
  | some d => MD.eqb d m
  | none => false
def lF : List FD.T → MD.T → Option (List UInt8)
  | [], _ => none
  | x :: xs, m => if (x.2.1 : Int) = m.1 then (if sameO (parseS (lineX x m)) m = true then some (lineX x m) else lF xs m) else lF xs m
def lineS (m : MD.T) : Option (List UInt8) := lF formsL m
def linL (m : MD.T) : List UInt8 := (lineS m).getD []
def linE (m : MD.T) : Int := if (lineS m).isSome = true then 0 else 11
end Go.Proofs.YtdhfipjfgigamaaGreatDoor.Con
/- A nil list in a slot is an own row that has nothing in it. Own work. -/
set_option linter.unusedVariables false
namespace Go.Proofs.YtdhfipjfgigamaaGreatDoor
open Go Go.RowKit OE

theorem _root_.OE.nilslot_rule {E : En} {cur : FI} {t : List It} {fr : List (Nat × SV)} {hp : List (Nat × Ob)} {nx : Nat} {stk : List Fm} (t0 : Nat) (T' : TypeId) (d : D) (ht0 : lk fr t0 = some (.c (.val (.slice none 0 0))))
    (hm : Mean E cur t ⟨(t0, .c (.row nx)) :: fr, (nx, .row T' d []) :: hp, nx + 1⟩ stk) : Mean E cur t ⟨fr, hp, nx⟩ stk := by
  intro w0 η S a w hS hR
  have hH := hR.1.1
  have hnn : ¬ lt nx nx := Nat.lt_irrefl _
  have ht : Turns hp hp η w w := ⟨rfl, rfl, rfl, Nat.le_refl _, fun _ _ _ => rfl⟩
  have hle1 := step_le (p := (none, .slice none 0 0)) (ob := .row T' d []) hnn hH (fun _ _ h => h) ht (fun k hk => by cases hk)
  have e0 : upd η nx (none, Value.slice none 0 0) nx = (none, .slice none 0 0) := by simp [upd]
  have hH1 := step_rep (p := (none, .slice none 0 0)) (ob := .row T' d []) hnn hH (fun _ _ h => h) ht (fun k hk => by cases hk) ⟨[], by
    show (upd η nx (none, Value.slice none 0 0) nx).1 = (upd η nx (none, Value.slice none 0 0) nx).2.ownBlock
    rw [e0]; rfl, by
    show w.ownsRow 0 T' d.sz (upd η nx (none, Value.slice none 0 0) nx).2 0 []
    rw [e0]; exact ⟨by simp, .inl ⟨rfl, rfl⟩⟩, rfl⟩
  rw [nmE_lt (Nat.le_succ nx)] at hle1 hH1
  obtain ⟨v, hv1, hv2⟩ := hR.2.1.sl t0 _ ht0
  exact hm w0 _ S a w hS ⟨⟨hH1, hR.1.2⟩, cons_sound (RepF.mono hle1 hR.2.1) hv1 (by
    obtain ⟨rfl, _⟩ := hv2
    refine ⟨Nat.lt_succ_self _, ?_, none, 0, 0, rfl⟩
    show _ = (upd η nx (none, Value.slice none 0 0) nx).2
    rw [e0]), fun p hp => ⟨RepF.mono hle1 (hR.2.2 p hp).1, (hR.2.2 p hp).2⟩⟩
section
variable {inl : Nat → Option (FI × Code)} [hI : InlOk inl]
variable {post : SV → St → Prop} {cur : FI} {r : List It} {fr : List (Nat × SV)} {hp : List (Nat × Ob)} {nx : Nat} {stk : List Fm}
theorem nilsl0 (t0 T' : Nat) (d : D) {c : Code} (ht0 : lk fr t0 = some (.c (.val (.slice none 0 0))))
    (h : go (EnI inl post) 100000 cur (.code (.loop c) :: r) ⟨(t0, .c (.row nx)) :: fr, (nx, .row T' d []) :: hp, nx + 1⟩ stk) : LoopOk (EnI inl post) cur c r ⟨fr, hp, nx⟩ stk :=
  ⟨nilslot_rule t0 T' d ht0 (go0 h)⟩
end
end Go.Proofs.YtdhfipjfgigamaaGreatDoor
/- The walks of words and fresh. Own work. -/
set_option linter.unusedVariables false
set_option maxRecDepth 100000
namespace Go.Proofs.YtdhfipjfgigamaaGreatDoor.Con
open Go Go.RowKit Go.Lib OE

theorem console_fresh (x : FD.T) : FnD Tryz.prog 21 [.agg (fx x)] (· = .agg (mc (freshM x))) := by
  obtain ⟨w, k, i, l⟩ := x
  unfold freshM
  refine fn0 Tryz.func21 rfl rfl rfl ?_
  conv => whnf
  refine ⟨fun a => ?_, fun a => ?_⟩
  · have a : k = 6 := of_decide_eq_true a
    subst a
    rw [if_pos rfl]
    conv => whnf
    refine any0 ?_
    conv => whnf
    refine ⟨.inl (by kernel_rfl), after0 ?_⟩
    conv => whnf
    rfl
  have a : ¬ k = 6 := of_decide_eq_false a
  rw [if_neg a]
  conv => whnf
  refine ⟨fun b => ?_, fun b => ?_⟩
  · have b : k = 16 := of_decide_eq_true b
    subst b
    rw [if_pos rfl]
    conv => whnf
    rfl
  have b : ¬ k = 16 := of_decide_eq_false b
  rw [if_neg b]
  conv => whnf
  rfl
theorem cut_at {s : List UInt8} {f p : Nat} (hp : p < s.length) (hf : f ≤ p) (h32 : s[p] = 32) (hn : ∀ j (h : j < s.length), f ≤ j → j < p → s[j] ≠ 32) : wordsL (s.drop f) = (s.take p).drop f :: wordsL (s.drop (p + 1)) := by
  have h1 : s.drop f = (s.take p).drop f ++ 32 :: s.drop (p + 1) := by
    have h2 : s = s.take p ++ s.drop p := (List.take_append_drop p s).symm
    have h3 : s.drop p = 32 :: s.drop (p + 1) := by rw [List.drop_eq_getElem_cons hp, h32]
    conv => lhs; rw [h2, h3]
    rw [List.drop_append_of_le_length (by rw [List.length_take]; omega)]
  rw [h1]
  refine wordsL_cut _ fun c hc => ?_
  obtain ⟨j, hj, rfl⟩ := List.getElem_of_mem hc
  rw [List.length_drop, List.length_take] at hj
  rw [List.getElem_drop, List.getElem_take]
  exact hn (f + j) (by omega) (by omega) (by omega)
theorem end_at {s : List UInt8} {f : Nat} (hn : ∀ j (h : j < s.length), f ≤ j → j < s.length → s[j] ≠ 32) : wordsL (s.drop f) = [s.drop f] := by
  refine wordsL_one fun c hc => ?_
  obtain ⟨j, hj, rfl⟩ := List.getElem_of_mem hc
  rw [List.length_drop] at hj
  rw [List.getElem_drop]
  exact hn (f + j) (by omega) (by omega) (by omega)
theorem console_words (s : List UInt8) (hs : s.length ≤ 100000) : FnD Tryz.prog 20 [.c (.str s)] (· = .c (.dat .str (wordsL s))) := by
  refine fn0 Tryz.func20 rfl rfl rfl ?_
  conv => whnf
  refine ranges0 rfl rfl rfl rfl ?_
  conv => whnf
  refine nilsl0 3 9 .str rfl ?_
  conv => whnf
  refine loop0 (α := Nat × Nat × List (List UInt8)) (fun q => q.1 ≤ s.length ∧ q.2.1 ≤ q.1 ∧ wordsL s = q.2.2 ++ wordsL (s.drop q.2.1) ∧ (∀ j (h : j < s.length), q.2.1 ≤ j → j < q.1 → s[j] ≠ 32) ∧ q.2.2.length ≤ q.1)
    (fun q => ⟨[(0, .c (.str s)), (3, .c (.row 1)), (4, .c (.int .i64 q.2.1)), (8, .c (.ptr 0 0))], [(0, .sit s q.1), (1, .row 9 .str q.2.2)], 2⟩) (fun q => s.length - q.1) ⟨(0, 0, []), ⟨Nat.zero_le _, Nat.le_refl _, rfl, fun j h h1 h2 => by omega, Nat.le_refl _⟩, ?_⟩ ?_
  · (conv => whnf); refine ⟨rfl, ?_, ?_, ?_⟩ <;> (repeat' apply And.intro) <;> first | exact trivial | rfl | exact wr_succ _ (by omega) | assumption | exact decide_eq_false (by assumption) | exact decide_eq_true (by assumption)
  rintro ⟨p, f, out⟩ ⟨h1, h2, h3, h4, h5⟩
  dsimp only at h1 h2 h3 h4 h5 ⊢
  conv => whnf
  refine nexts0 rfl rfl rfl (fun hp => ?_) (fun hp => ?_)
  · conv => whnf
    refine ⟨by omega, ?_⟩
    conv => whnf
    refine ⟨by show (out.length + 1) * 16 ≤ 140737488355328; omega, ?_⟩
    conv => whnf
    rw [h3, end_at (fun j h g1 _ => h4 j h g1 (by omega)), List.take_of_length_le (Nat.le_refl _)]
    rfl
  · obtain ⟨b1, b2⟩ := rune_bd s p hp
    conv => whnf
    refine ⟨fun c => ?_, fun c => ?_⟩
    · have c : (rn s p).1 = 32 := by have := of_decide_eq_true c; omega
      have c2 : s[p] = 32 := by
        have := (rune_ascii s p hp (c := 32) (by decide)).1 c
        exact UInt8.toNat_inj.1 this
      conv => whnf
      refine ⟨by omega, ?_⟩
      conv => whnf
      refine ⟨by show (out.length + 1) * 16 ≤ 140737488355328; omega, ?_⟩
      conv => whnf
      refine ⟨(p + (rn s p).2, p + 1, out ++ [(s.take p).drop f]), ⟨⟨b2, by dsimp only; omega, ?_, fun j h g1 g2 e => ?_, by dsimp only; rw [List.length_append, List.length_singleton]; omega⟩, by dsimp only; omega⟩, ?_⟩
      · dsimp only
        rw [h3, cut_at hp h2 c2 h4, List.append_assoc]; rfl
      · have := rune_in s p hp (j := j) (by dsimp only at g1; omega) g2 h
        rw [e] at this
        revert this; decide
      · (conv => whnf); refine ⟨rfl, ?_, ?_, ?_⟩ <;> (repeat' apply And.intro) <;> first | exact trivial | rfl | exact wr_succ _ (by omega) | assumption | exact decide_eq_false (by assumption) | exact decide_eq_true (by assumption)
    · have c : ¬ (rn s p).1 = 32 := by have := of_decide_eq_false c; omega
      have c2 : s[p] ≠ 32 := fun e => c ((rune_ascii s p hp (c := 32) (by decide)).2 (by rw [e]; rfl))
      conv => whnf
      refine ⟨(p + (rn s p).2, f, out), ⟨⟨b2, by dsimp only; omega, h3, fun j h g1 g2 => ?_, by dsimp only; omega⟩, by dsimp only; omega⟩, ?_⟩
      · rcases Nat.lt_trichotomy j p with g | g | g
        · exact h4 j h g1 g
        · subst g; exact c2
        · intro e
          have := rune_in s p hp (j := j) g g2 h
          rw [e] at this
          revert this; decide
      · (conv => whnf); refine ⟨rfl, ?_, ?_, ?_⟩ <;> (repeat' apply And.intro) <;> first | exact trivial | rfl | exact wr_succ _ (by omega) | assumption | exact decide_eq_false (by assumption) | exact decide_eq_true (by assumption)
end Go.Proofs.YtdhfipjfgigamaaGreatDoor.Con
/- The walks of place.text, value, id, n. Own work. -/
set_option linter.unusedVariables false
set_option maxRecDepth 100000
namespace Go.Proofs.YtdhfipjfgigamaaGreatDoor.Con
open Go Go.RowKit Go.Lib OE

abbrev nilP : SV := .c (.val (.pointer none))
def textP (k f : Int) : SV :=
  if k = 6 then (if f = 116 then .c (.ptr 0 13) else if f = 110 then .c (.ptr 0 16) else nilP)
  else if k = 16 then (if f = 116 then .c (.ptr 0 23) else if f = 110 then .c (.ptr 0 24) else if f = 102 then .c (.ptr 0 25) else if f = 103 then .c (.ptr 0 26) else nilP)
  else if f = 116 ∨ f = 101 then .c (.ptr 0 2) else if f = 110 then .c (.ptr 0 3) else nilP
def valueP (k f : Int) : SV := if f = 118 ∧ k = 6 then .c (.ptr 0 17) else if f = 118 then .c (.ptr 0 4) else if f = 119 then .c (.ptr 0 7) else nilP
def idP (k f : Int) : SV := if f = 105 ∧ k = 6 then .c (.ptr 0 12) else if f = 105 then .c (.ptr 0 1) else if f = 97 then .c (.ptr 0 14) else if f = 98 then .c (.ptr 0 15) else nilP
def nP (k : Int) : SV := if k = 16 then .c (.ptr 0 27) else .c (.ptr 0 10)
theorem place_text (m : MD.T) (f : Int) : FnP Tryz.prog 50 [.agg [.ptr 0 0], .c (.int .u8 f)] (obM m) 1 kp0 (textP m.1 f) (obM m) 1 := by
  refine fnP noI Tryz.func50 rfl rfl rfl rfl ?_
  conv => whnf
  refine any0 ?_
  conv => whnf
  refine ⟨.inl (by kernel_rfl), after0 ?_⟩
  conv => whnf
  refine ⟨fun a => ?_, fun a => ?_⟩
  · have a : m.1 = 6 := of_decide_eq_true a
    rw [show textP m.1 f = (if f = 116 then .c (.ptr 0 13) else if f = 110 then .c (.ptr 0 16) else nilP) from if_pos a]
    conv => whnf
    refine ⟨fun b => ?_, fun b => ?_⟩
    · have b : f = 116 := of_decide_eq_true b
      rw [if_pos b]
      conv => whnf
      refine ⟨rfl, ?_, ?_, ?_⟩ <;> (repeat' apply And.intro) <;> first | exact trivial | rfl | assumption
    have b : ¬ f = 116 := of_decide_eq_false b
    rw [if_neg b]
    conv => whnf
    refine ⟨fun c => ?_, fun c => ?_⟩
    · have c : f = 110 := of_decide_eq_true c
      rw [if_pos c]
      conv => whnf
      refine ⟨rfl, ?_, ?_, ?_⟩ <;> (repeat' apply And.intro) <;> first | exact trivial | rfl | assumption
    have c : ¬ f = 110 := of_decide_eq_false c
    rw [if_neg c]
    conv => whnf
    refine ⟨rfl, ?_, ?_, ?_⟩ <;> (repeat' apply And.intro) <;> first | exact trivial | rfl | assumption
  have a : ¬ m.1 = 6 := of_decide_eq_false a
  rw [show textP m.1 f = _ from if_neg a]
  conv => whnf
  refine ⟨fun b => ?_, fun b => ?_⟩
  · have b : m.1 = 16 := of_decide_eq_true b
    rw [if_pos b]
    conv => whnf
    refine ⟨fun c => ?_, fun c => ?_⟩
    · have c : f = 116 := of_decide_eq_true c
      rw [if_pos c]
      conv => whnf
      refine ⟨rfl, ?_, ?_, ?_⟩ <;> (repeat' apply And.intro) <;> first | exact trivial | rfl | assumption
    have c : ¬ f = 116 := of_decide_eq_false c
    rw [if_neg c]
    conv => whnf
    refine ⟨fun d => ?_, fun d => ?_⟩
    · have d : f = 110 := of_decide_eq_true d
      rw [if_pos d]
      conv => whnf
      refine ⟨rfl, ?_, ?_, ?_⟩ <;> (repeat' apply And.intro) <;> first | exact trivial | rfl | assumption
    have d : ¬ f = 110 := of_decide_eq_false d
    rw [if_neg d]
    conv => whnf
    refine ⟨fun e => ?_, fun e => ?_⟩
    · have e : f = 102 := of_decide_eq_true e
      rw [if_pos e]
      conv => whnf
      refine ⟨rfl, ?_, ?_, ?_⟩ <;> (repeat' apply And.intro) <;> first | exact trivial | rfl | assumption
    have e : ¬ f = 102 := of_decide_eq_false e
    rw [if_neg e]
    conv => whnf
    refine ⟨fun g => ?_, fun g => ?_⟩
    · have g : f = 103 := of_decide_eq_true g
      rw [if_pos g]
      conv => whnf
      refine ⟨rfl, ?_, ?_, ?_⟩ <;> (repeat' apply And.intro) <;> first | exact trivial | rfl | assumption
    have g : ¬ f = 103 := of_decide_eq_false g
    rw [if_neg g]
    conv => whnf
    refine ⟨rfl, ?_, ?_, ?_⟩ <;> (repeat' apply And.intro) <;> first | exact trivial | rfl | assumption
  have b : ¬ m.1 = 16 := of_decide_eq_false b
  rw [if_neg b]
  conv => whnf
  refine ⟨fun c => ?_, fun c => ?_⟩
  · have c : f = 116 := of_decide_eq_true c
    rw [if_pos (.inl c)]
    conv => whnf
    refine ⟨rfl, ?_, ?_, ?_⟩ <;> (repeat' apply And.intro) <;> first | exact trivial | rfl | assumption
  have c : ¬ f = 116 := of_decide_eq_false c
  conv => whnf
  refine ⟨fun d => ?_, fun d => ?_⟩
  · have d : f = 101 := of_decide_eq_true d
    rw [if_pos (.inr d)]
    conv => whnf
    refine ⟨rfl, ?_, ?_, ?_⟩ <;> (repeat' apply And.intro) <;> first | exact trivial | rfl | assumption
  have d : ¬ f = 101 := of_decide_eq_false d
  rw [if_neg (fun h => h.elim c d)]
  conv => whnf
  refine ⟨fun e => ?_, fun e => ?_⟩
  · have e : f = 110 := of_decide_eq_true e
    rw [if_pos e]
    conv => whnf
    refine ⟨rfl, ?_, ?_, ?_⟩ <;> (repeat' apply And.intro) <;> first | exact trivial | rfl | assumption
  have e : ¬ f = 110 := of_decide_eq_false e
  rw [if_neg e]
  conv => whnf
  refine ⟨rfl, ?_, ?_, ?_⟩ <;> (repeat' apply And.intro) <;> first | exact trivial | rfl | assumption
theorem place_value (m : MD.T) (f : Int) : FnP Tryz.prog 51 [.agg [.ptr 0 0], .c (.int .u8 f)] (obM m) 1 kp0 (valueP m.1 f) (obM m) 1 := by
  unfold valueP
  refine fnP noI Tryz.func51 rfl rfl rfl rfl ?_
  conv => whnf
  refine ⟨fun a => ?_, fun a => ?_⟩
  · have a : f = 118 ∧ m.1 = 6 := by simpa using a
    rw [if_pos a]
    conv => whnf
    refine ⟨rfl, ?_, ?_, ?_⟩ <;> (repeat' apply And.intro) <;> first | exact trivial | rfl | assumption
  have a : ¬ (f = 118 ∧ m.1 = 6) := by simpa using a
  rw [if_neg a]
  conv => whnf
  refine ⟨fun b => ?_, fun b => ?_⟩
  · have b : f = 118 := of_decide_eq_true b
    rw [if_pos b]
    conv => whnf
    refine ⟨rfl, ?_, ?_, ?_⟩ <;> (repeat' apply And.intro) <;> first | exact trivial | rfl | assumption
  have b : ¬ f = 118 := of_decide_eq_false b
  rw [if_neg b]
  conv => whnf
  refine ⟨fun c => ?_, fun c => ?_⟩
  · have c : f = 119 := of_decide_eq_true c
    rw [if_pos c]
    conv => whnf
    refine ⟨rfl, ?_, ?_, ?_⟩ <;> (repeat' apply And.intro) <;> first | exact trivial | rfl | assumption
  have c : ¬ f = 119 := of_decide_eq_false c
  rw [if_neg c]
  conv => whnf
  refine ⟨rfl, ?_, ?_, ?_⟩ <;> (repeat' apply And.intro) <;> first | exact trivial | rfl | assumption
theorem place_id (m : MD.T) (f : Int) : FnP Tryz.prog 54 [.agg [.ptr 0 0], .c (.int .u8 f)] (obM m) 1 kp0 (idP m.1 f) (obM m) 1 := by
  unfold idP
  refine fnP noI Tryz.func54 rfl rfl rfl rfl ?_
  conv => whnf
  refine ⟨fun a => ?_, fun a => ?_⟩
  · have a : f = 105 ∧ m.1 = 6 := by simpa using a
    rw [if_pos a]
    conv => whnf
    refine ⟨rfl, ?_, ?_, ?_⟩ <;> (repeat' apply And.intro) <;> first | exact trivial | rfl | assumption
  have a : ¬ (f = 105 ∧ m.1 = 6) := by simpa using a
  rw [if_neg a]
  conv => whnf
  refine ⟨fun b => ?_, fun b => ?_⟩
  · have b : f = 105 := of_decide_eq_true b
    rw [if_pos b]
    conv => whnf
    refine ⟨rfl, ?_, ?_, ?_⟩ <;> (repeat' apply And.intro) <;> first | exact trivial | rfl | assumption
  have b : ¬ f = 105 := of_decide_eq_false b
  rw [if_neg b]
  conv => whnf
  refine ⟨fun c => ?_, fun c => ?_⟩
  · have c : f = 97 := of_decide_eq_true c
    rw [if_pos c]
    conv => whnf
    refine ⟨rfl, ?_, ?_, ?_⟩ <;> (repeat' apply And.intro) <;> first | exact trivial | rfl | assumption
  have c : ¬ f = 97 := of_decide_eq_false c
  rw [if_neg c]
  conv => whnf
  refine ⟨fun d => ?_, fun d => ?_⟩
  · have d : f = 98 := of_decide_eq_true d
    rw [if_pos d]
    conv => whnf
    refine ⟨rfl, ?_, ?_, ?_⟩ <;> (repeat' apply And.intro) <;> first | exact trivial | rfl | assumption
  have d : ¬ f = 98 := of_decide_eq_false d
  rw [if_neg d]
  conv => whnf
  refine ⟨rfl, ?_, ?_, ?_⟩ <;> (repeat' apply And.intro) <;> first | exact trivial | rfl | assumption
theorem place_n (m : MD.T) : FnP Tryz.prog 55 [.agg [.ptr 0 0]] (obM m) 1 kp0 (nP m.1) (obM m) 1 := by
  unfold nP
  refine fnP noI Tryz.func55 rfl rfl rfl rfl ?_
  conv => whnf
  refine ⟨fun a => ?_, fun a => ?_⟩
  · have a : m.1 = 16 := of_decide_eq_true a
    rw [if_pos a]
    conv => whnf
    refine ⟨rfl, ?_, ?_, ?_⟩ <;> (repeat' apply And.intro) <;> first | exact trivial | rfl | assumption
  have a : ¬ m.1 = 16 := of_decide_eq_false a
  rw [if_neg a]
  conv => whnf
  refine ⟨rfl, ?_, ?_, ?_⟩ <;> (repeat' apply And.intro) <;> first | exact trivial | rfl | assumption
end Go.Proofs.YtdhfipjfgigamaaGreatDoor.Con
/-
  DERIVED: THE SHELF's CONTRACTS AT THIS DUMP, IN PLAIN WORDS (tools/lay-plain.mjs out of 'TryzShelf.lean', which tools/lay-shelf.mjs wrote): THE SAME DECLARATIONS UNDER THE SAME NAMES: 'import', 'namespace', 'open', 'def', 'theorem' AND NOTHING ELSE: no command of the shelf's: FOR A HAND-IN. Each laying: the table of numbers ('.._ren') and one theorem, a field a fact of the dump's own or the kernel's comparison; each contract: ONE APPLICATION.
-/
namespace Go.Proofs
open Go.Shelf
def Tryz.lays169_ren : Go.Shelf.Ren := ⟨fun | 169 => 71 | n => n, fun | 70 => 117 | 9 => 9 | 0 => 0 | 72 => 120 | 37 => 118 | 127 => 159 | 3 => 3 | 5 => 5 | n => n, fun | n => n⟩
theorem Tryz.lays169 : Go.Proofs.Lays.n169 Tryz.prog Tryz.lays169_ren := {
  mixed := by kernel_rfl
  f169 := Tryz.func71.trans (congrArg some (by kernel_rfl))
  t0 := Tryz.underlying0
  a0 := Tryz.isAgg0
  z0 := Tryz.sizeOf0
  v0 := Tryz.zeroValue0
  t3 := Tryz.underlying3
  a3 := Tryz.isAgg3
  z3 := Tryz.sizeOf3
  v3 := Tryz.zeroValue3
  t9 := Tryz.underlying9
  a9 := Tryz.isAgg9
  z9 := Tryz.sizeOf9
  v9 := Tryz.zeroValue9
  t37 := Tryz.underlying118
  a37 := Tryz.isAgg118
  z37 := Tryz.sizeOf118
  v37 := Tryz.zeroValue118
  t70 := Tryz.underlying117
  a70 := Tryz.isAgg117
  z70 := Tryz.sizeOf117
  v70 := Tryz.zeroValue117
  t72 := Tryz.underlying120
  a72 := Tryz.isAgg120
  z72 := Tryz.sizeOf120
  v72 := Tryz.zeroValue120
  t127 := Tryz.underlying159
  a127 := Tryz.isAgg159
  z127 := Tryz.sizeOf159
  v127 := Tryz.zeroValue159 }
theorem Tryz.Builder_Extra_169 : Builder.Extra Tryz.prog Tryz.lays169_ren := {
  sizeBuilder := by kernel_rfl
  liesBuilder := by kernel_rfl
  t5 := Tryz.underlying5
  a5 := Tryz.isAgg5
  z5 := Tryz.sizeOf5
  v5 := Tryz.zeroValue5
  infoByte := by kernel_rfl
  cellsByte := by kernel_rfl
  sizeByte := by kernel_rfl
  neB5 := by decide }
open Go.RowKit in
/-- (*strings.Builder).String: "String returns the accumulated string.": WHATEVER THE BUILDER HOLDS. (LAID: no walk: one application.) -/
theorem Tryz.Builder_String_any (B b : Nat) (l : List UInt8) (w : World) (h : Lib.IsBuilder 120 5 B b (Lib.byteCells l) w) (hBw : B ≤ w.heap.size) :
    Calls Tryz.prog 71 #[.pointer (some ⟨b, 0, none⟩)] w fun e w' => e = .returned (.string ⟨l.toArray⟩) ∧ Below B w w' := Any.Builder_String_any Tryz.lays169 Tryz.Builder_Extra_169 B b l w h hBw
def Tryz.lays156_ren : Go.Shelf.Ren := ⟨fun | 156 => 35 | 165 => 69 | 166 => 70 | 169 => 71 | 240 => 98 | 241 => 99 | 276 => 121 | 277 => 122 | n => n, fun | 31 => 46 | 9 => 9 | 3 => 3 | 4 => 4 | 0 => 0 | 20 => 20 | 72 => 120 | 76 => 124 | 70 => 117 | 37 => 118 | 75 => 123 | 127 => 159 | 164 => 179 | 5 => 5 | 80 => 126 | n => n, fun | n => n⟩
theorem Tryz.lays156 : Go.Proofs.Lays.n156 Tryz.prog Tryz.lays156_ren := {
  mixed := by kernel_rfl
  f156 := Tryz.func35.trans (congrArg some (by kernel_rfl))
  f165 := Tryz.func69.trans (congrArg some (by kernel_rfl))
  f166 := Tryz.func70.trans (congrArg some (by kernel_rfl))
  f169 := Tryz.func71.trans (congrArg some (by kernel_rfl))
  f240 := Tryz.func98.trans (congrArg some (by kernel_rfl))
  f241 := Tryz.func99.trans (congrArg some (by kernel_rfl))
  f276 := Tryz.func121.trans (congrArg some (by kernel_rfl))
  f277 := Tryz.func122.trans (congrArg some (by kernel_rfl))
  t0 := Tryz.underlying0
  a0 := Tryz.isAgg0
  z0 := Tryz.sizeOf0
  v0 := Tryz.zeroValue0
  t3 := Tryz.underlying3
  a3 := Tryz.isAgg3
  z3 := Tryz.sizeOf3
  v3 := Tryz.zeroValue3
  t4 := Tryz.underlying4
  a4 := Tryz.isAgg4
  z4 := Tryz.sizeOf4
  v4 := Tryz.zeroValue4
  t9 := Tryz.underlying9
  a9 := Tryz.isAgg9
  z9 := Tryz.sizeOf9
  v9 := Tryz.zeroValue9
  t20 := Tryz.underlying20
  a20 := Tryz.isAgg20
  z20 := Tryz.sizeOf20
  v20 := Tryz.zeroValue20
  t31 := Tryz.underlying46
  a31 := Tryz.isAgg46
  z31 := Tryz.sizeOf46
  v31 := Tryz.zeroValue46
  t37 := Tryz.underlying118
  a37 := Tryz.isAgg118
  z37 := Tryz.sizeOf118
  v37 := Tryz.zeroValue118
  t70 := Tryz.underlying117
  a70 := Tryz.isAgg117
  z70 := Tryz.sizeOf117
  v70 := Tryz.zeroValue117
  t72 := Tryz.underlying120
  a72 := Tryz.isAgg120
  z72 := Tryz.sizeOf120
  v72 := Tryz.zeroValue120
  t75 := Tryz.underlying123
  a75 := Tryz.isAgg123
  z75 := Tryz.sizeOf123
  v75 := Tryz.zeroValue123
  t76 := Tryz.underlying124
  a76 := Tryz.isAgg124
  z76 := Tryz.sizeOf124
  v76 := Tryz.zeroValue124
  t127 := Tryz.underlying159
  a127 := Tryz.isAgg159
  z127 := Tryz.sizeOf159
  v127 := Tryz.zeroValue159
  t164 := Tryz.underlying179
  a164 := Tryz.isAgg179
  z164 := Tryz.sizeOf179
  v164 := Tryz.zeroValue179 }
theorem Tryz.Builder_Extra_156 : Builder.Extra Tryz.prog Tryz.lays156_ren := {
  sizeBuilder := by kernel_rfl
  liesBuilder := by kernel_rfl
  t5 := Tryz.underlying5
  a5 := Tryz.isAgg5
  z5 := Tryz.sizeOf5
  v5 := Tryz.zeroValue5
  infoByte := by kernel_rfl
  cellsByte := by kernel_rfl
  sizeByte := by kernel_rfl
  neB5 := by decide }
open Go.RowKit in
/-- No element: the empty string; the world is as it was. (Whatever the slice's address and capacity: a nil slice too.) (LAID: no walk: one application.) -/
theorem Tryz.strings_Join_none (a : Option Addr) (c : Nat) (sep : ByteArray) (w : World) :
    Calls Tryz.prog 35 #[.slice a 0 c, .string sep] w fun e w' => e = .returned (.string ⟨#[]⟩) ∧ w' = w := Any.strings_Join_none Tryz.lays156 Tryz.Builder_Extra_156 a c sep w
open Go.RowKit in
/-- strings.Join: "Join concatenates the elements of its first argument to create a single string. The separator string sep is placed between elements in the resulting string.": HOWEVER MANY ELEMENTS. Below the heap's end the world is as it was. (LAID: no walk: one application.) -/
theorem Tryz.strings_Join (bk o c : Nat) (xs : List ByteArray) (sep : ByteArray) (w : World) (hcells : ∀ (j : Nat) x, xs[j]? = some x → w.cell? ⟨bk, o + j, none⟩ = some (.string x)) (hbk : bk < w.heap.size) (hN : xs.length ≤ 140737488355328) (hcap : xs.length ≤ c) (hlen : (Lib.join (xs.map (·.data.toList)) sep.data.toList).length ≤ 140737488355328) :
    Calls Tryz.prog 35 #[.slice (some ⟨bk, o, none⟩) xs.length c, .string sep] w fun e w' => e = .returned (.string ⟨(Lib.join (xs.map (·.data.toList)) sep.data.toList).toArray⟩) ∧ Below w.heap.size w w' := Any.strings_Join Tryz.lays156 Tryz.Builder_Extra_156 bk o c xs sep w hcells hbk hN hcap hlen
def Tryz.lays160_ren : Go.Shelf.Ren := ⟨fun | 160 => 82 | 232 => 105 | 231 => 104 | 227 => 106 | 234 => 108 | 233 => 107 | 236 => 110 | 235 => 109 | 228 => 124 | 271 => 127 | 151 => 126 | 197 => 125 | 120 => 151 | 152 => 150 | 260 => 149 | 137 => 83 | 119 => 165 | 224 => 166 | 225 => 167 | 217 => 111 | 266 => 128 | n => n, fun | 9 => 9 | 4 => 4 | 3 => 3 | 5 => 5 | 117 => 166 | 116 => 165 | 0 => 0 | 124 => 169 | 21 => 21 | 105 => 183 | 46 => 139 | 119 => 225 | 139 => 228 | 138 => 227 | n => n, fun | 3 => 7 | 4 => 8 | n => n⟩
theorem Tryz.lays160 : Go.Proofs.Lays.n160 Tryz.prog Tryz.lays160_ren := {
  mixed := by kernel_rfl
  f119 := Tryz.func165.trans (congrArg some (by kernel_rfl))
  f120 := Tryz.func151.trans (congrArg some (by kernel_rfl))
  f137 := Tryz.func83.trans (congrArg some (by kernel_rfl))
  f151 := Tryz.func126.trans (congrArg some (by kernel_rfl))
  f152 := Tryz.func150.trans (congrArg some (by kernel_rfl))
  f160 := Tryz.func82.trans (congrArg some (by kernel_rfl))
  f197 := Tryz.func125.trans (congrArg some (by kernel_rfl))
  f217 := Tryz.func111.trans (congrArg some (by kernel_rfl))
  f224 := Tryz.func166.trans (congrArg some (by kernel_rfl))
  f225 := Tryz.func167.trans (congrArg some (by kernel_rfl))
  f227 := Tryz.func106.trans (congrArg some (by kernel_rfl))
  f228 := Tryz.func124.trans (congrArg some (by kernel_rfl))
  f231 := Tryz.func104.trans (congrArg some (by kernel_rfl))
  f232 := Tryz.func105.trans (congrArg some (by kernel_rfl))
  f233 := Tryz.func107.trans (congrArg some (by kernel_rfl))
  f234 := Tryz.func108.trans (congrArg some (by kernel_rfl))
  f235 := Tryz.func109.trans (congrArg some (by kernel_rfl))
  f236 := Tryz.func110.trans (congrArg some (by kernel_rfl))
  f260 := Tryz.func149.trans (congrArg some (by kernel_rfl))
  f266 := Tryz.func128.trans (congrArg some (by kernel_rfl))
  f271 := Tryz.func127.trans (congrArg some (by kernel_rfl))
  t0 := Tryz.underlying0
  a0 := Tryz.isAgg0
  z0 := Tryz.sizeOf0
  v0 := Tryz.zeroValue0
  t3 := Tryz.underlying3
  a3 := Tryz.isAgg3
  z3 := Tryz.sizeOf3
  v3 := Tryz.zeroValue3
  t4 := Tryz.underlying4
  a4 := Tryz.isAgg4
  z4 := Tryz.sizeOf4
  v4 := Tryz.zeroValue4
  t5 := Tryz.underlying5
  a5 := Tryz.isAgg5
  z5 := Tryz.sizeOf5
  v5 := Tryz.zeroValue5
  t9 := Tryz.underlying9
  a9 := Tryz.isAgg9
  z9 := Tryz.sizeOf9
  v9 := Tryz.zeroValue9
  t21 := Tryz.underlying21
  a21 := Tryz.isAgg21
  z21 := Tryz.sizeOf21
  v21 := Tryz.zeroValue21
  t46 := Tryz.underlying139
  a46 := Tryz.isAgg139
  z46 := Tryz.sizeOf139
  v46 := Tryz.zeroValue139
  t105 := Tryz.underlying183
  a105 := Tryz.isAgg183
  z105 := Tryz.sizeOf183
  v105 := Tryz.zeroValue183
  t116 := Tryz.underlying165
  a116 := Tryz.isAgg165
  z116 := Tryz.sizeOf165
  t117 := Tryz.underlying166
  a117 := Tryz.isAgg166
  z117 := Tryz.sizeOf166
  v117 := Tryz.zeroValue166
  t119 := Tryz.underlying225
  a119 := Tryz.isAgg225
  z119 := Tryz.sizeOf225
  t124 := Tryz.underlying169
  a124 := Tryz.isAgg169
  z124 := Tryz.sizeOf169
  v124 := Tryz.zeroValue169
  t138 := Tryz.underlying227
  a138 := Tryz.isAgg227
  z138 := Tryz.sizeOf227
  v138 := Tryz.zeroValue227
  t139 := Tryz.underlying228
  a139 := Tryz.isAgg228
  z139 := Tryz.sizeOf228
  v139 := Tryz.zeroValue228
  g3 := by kernel_rfl
  g4 := by kernel_rfl }
def Tryz.lays137_ren : Go.Shelf.Ren := ⟨fun | 137 => 83 | 217 => 111 | 266 => 128 | n => n, fun | 9 => 9 | 5 => 5 | 3 => 3 | n => n, fun | n => n⟩
theorem Tryz.lays137 : Go.Proofs.Lays.n137 Tryz.prog Tryz.lays137_ren := {
  mixed := by kernel_rfl
  f137 := Tryz.func83.trans (congrArg some (by kernel_rfl))
  f217 := Tryz.func111.trans (congrArg some (by kernel_rfl))
  f266 := Tryz.func128.trans (congrArg some (by kernel_rfl))
  t3 := Tryz.underlying3
  a3 := Tryz.isAgg3
  z3 := Tryz.sizeOf3
  v3 := Tryz.zeroValue3
  t5 := Tryz.underlying5
  a5 := Tryz.isAgg5
  z5 := Tryz.sizeOf5
  v5 := Tryz.zeroValue5
  t9 := Tryz.underlying9
  a9 := Tryz.isAgg9
  z9 := Tryz.sizeOf9
  v9 := Tryz.zeroValue9 }
open Go.RowKit in
/-- strings.IndexByte: "IndexByte returns the index of the first instance of c in s, or -1 if c is not present in s.": IT RETURNS 'Lib.indexByte s c'; the world is as it was. (LAID: no walk: one application.) -/
theorem Tryz.strings_IndexByte (s : ByteArray) (c : Int) (w : World) :
    Calls Tryz.prog 83 #[.string s, .int .u8 c] w fun e w' => e = .returned (.int .i64 (Lib.indexByte s.data.toList c.toNat.toUInt8)) ∧ w' = w := Any.strings_IndexByte Tryz.lays137 s c w
def Tryz.lays103_ren : Go.Shelf.Ren := ⟨fun | 103 => 81 | 210 => 103 | 206 => 123 | n => n, fun | 9 => 9 | 4 => 4 | 24 => 106 | 3 => 3 | n => n, fun | n => n⟩
theorem Tryz.lays103 : Go.Proofs.Lays.n103 Tryz.prog Tryz.lays103_ren := {
  mixed := by kernel_rfl
  f103 := Tryz.func81.trans (congrArg some (by kernel_rfl))
  f206 := Tryz.func123.trans (congrArg some (by kernel_rfl))
  f210 := Tryz.func103.trans (congrArg some (by kernel_rfl))
  t3 := Tryz.underlying3
  a3 := Tryz.isAgg3
  z3 := Tryz.sizeOf3
  v3 := Tryz.zeroValue3
  t4 := Tryz.underlying4
  a4 := Tryz.isAgg4
  z4 := Tryz.sizeOf4
  v4 := Tryz.zeroValue4
  t9 := Tryz.underlying9
  a9 := Tryz.isAgg9
  z9 := Tryz.sizeOf9
  v9 := Tryz.zeroValue9
  t24 := Tryz.underlying106
  a24 := Tryz.isAgg106
  z24 := Tryz.sizeOf106
  v24 := Tryz.zeroValue106 }
open Go.RowKit in
/-- strings.CutPrefix: "CutPrefix returns s without the provided leading prefix string and reports whether it found the prefix. If s doesn't start with prefix, CutPrefix returns s, false. If prefix is the empty string, CutPrefix returns s, true.": IT RETURNS '(Lib.trimPrefix s p, Lib.hasPrefix s p)'; the world is as it was. (LAID: no walk: one application.) -/
theorem Tryz.strings_CutPrefix (s p : ByteArray) (w : World) :
    Calls Tryz.prog 81 #[.string s, .string p] w fun e w' => e = .returned (.tuple #[.string ⟨(Lib.trimPrefix s.data.toList p.data.toList).toArray⟩, .bool (Lib.hasPrefix s.data.toList p.data.toList)]) ∧ w' = w := Any.strings_CutPrefix Tryz.lays103 s p w
def Tryz.lays121_ren : Go.Shelf.Ren := ⟨fun | 121 => 95 | 214 => 116 | n => n, fun | 4 => 4 | 9 => 9 | n => n, fun | n => n⟩
theorem Tryz.lays121 : Go.Proofs.Lays.n121 Tryz.prog Tryz.lays121_ren := {
  mixed := by kernel_rfl
  f121 := Tryz.func95.trans (congrArg some (by kernel_rfl))
  f214 := Tryz.func116.trans (congrArg some (by kernel_rfl))
  t4 := Tryz.underlying4
  a4 := Tryz.isAgg4
  z4 := Tryz.sizeOf4
  v4 := Tryz.zeroValue4
  t9 := Tryz.underlying9
  a9 := Tryz.isAgg9
  z9 := Tryz.sizeOf9
  v9 := Tryz.zeroValue9 }
open Go.RowKit in
/-- strconv.FormatBool: "FormatBool returns "true" or "false" according to the value of b.": IT RETURNS 'Lib.formatBool b'; the world is as it was. (LAID: no walk: one application.) -/
theorem Tryz.strconv_FormatBool (b : Bool) (w : World) :
    Calls Tryz.prog 95 #[.bool b] w fun e w' => e = .returned (.string ⟨(Lib.formatBool b).toArray⟩) ∧ w' = w := Any.strconv_FormatBool Tryz.lays121 b w
def Tryz.laysM171_ren : Go.Shelf.Ren := ⟨fun | 171 => 44 | 243 => 79 | 246 => 97 | 283 => 117 | 284 => 118 | 285 => 119 | 286 => 120 | 129 => 145 | 317 => 144 | 318 => 146 | 319 => 147 | 320 => 148 | 337 => 163 | 338 => 164 | n => n, fun | 3 => 3 | 9 => 9 | 2 => 2 | 4 => 4 | 171 => 174 | 0 => 0 | 53 => 173 | 37 => 118 | 5 => 5 | 173 => 177 | 212 => 208 | 51 => 57 | 20 => 20 | 213 => 209 | 46 => 139 | 232 => 234 | 233 => 235 | n => n, fun | 17 => 2 | 18 => 9 | 19 => 10 | n => n⟩
theorem Tryz.laysM171 : Go.Proofs.LaysM.n171 Tryz.prog Tryz.laysM171_ren := {
  mixed := by kernel_rfl
  f129 := Tryz.func145.trans (congrArg some (by kernel_rfl))
  f171 := Tryz.func44.trans (congrArg some (by kernel_rfl))
  f243 := Tryz.func79.trans (congrArg some (by kernel_rfl))
  f246 := Tryz.func97.trans (congrArg some (by kernel_rfl))
  f283 := Tryz.func117.trans (congrArg some (by kernel_rfl))
  f284 := Tryz.func118.trans (congrArg some (by kernel_rfl))
  f285 := Tryz.func119.trans (congrArg some (by kernel_rfl))
  f286 := Tryz.func120.trans (congrArg some (by kernel_rfl))
  f317 := Tryz.func144.trans (congrArg some (by kernel_rfl))
  f318 := Tryz.func146.trans (congrArg some (by kernel_rfl))
  f319 := Tryz.func147.trans (congrArg some (by kernel_rfl))
  f320 := Tryz.func148.trans (congrArg some (by kernel_rfl))
  f337 := Tryz.func163.trans (congrArg some (by kernel_rfl))
  f338 := Tryz.func164.trans (congrArg some (by kernel_rfl))
  t0 := Tryz.underlying0
  a0 := Tryz.isAgg0
  z0 := Tryz.sizeOf0
  v0 := Tryz.zeroValue0
  t2 := Tryz.underlying2
  a2 := Tryz.isAgg2
  z2 := Tryz.sizeOf2
  v2 := Tryz.zeroValue2
  t3 := Tryz.underlying3
  a3 := Tryz.isAgg3
  z3 := Tryz.sizeOf3
  v3 := Tryz.zeroValue3
  t4 := Tryz.underlying4
  a4 := Tryz.isAgg4
  z4 := Tryz.sizeOf4
  v4 := Tryz.zeroValue4
  t5 := Tryz.underlying5
  a5 := Tryz.isAgg5
  z5 := Tryz.sizeOf5
  v5 := Tryz.zeroValue5
  t9 := Tryz.underlying9
  a9 := Tryz.isAgg9
  z9 := Tryz.sizeOf9
  v9 := Tryz.zeroValue9
  t20 := Tryz.underlying20
  a20 := Tryz.isAgg20
  z20 := Tryz.sizeOf20
  v20 := Tryz.zeroValue20
  t37 := Tryz.underlying118
  a37 := Tryz.isAgg118
  z37 := Tryz.sizeOf118
  v37 := Tryz.zeroValue118
  t46 := Tryz.underlying139
  a46 := Tryz.isAgg139
  z46 := Tryz.sizeOf139
  v46 := Tryz.zeroValue139
  t51 := Tryz.underlying57
  a51 := Tryz.isAgg57
  z51 := Tryz.sizeOf57
  v51 := Tryz.zeroValue57
  t53 := Tryz.underlying173
  a53 := Tryz.isAgg173
  z53 := Tryz.sizeOf173
  v53 := Tryz.zeroValue173
  t171 := Tryz.underlying174
  a171 := Tryz.isAgg174
  z171 := Tryz.sizeOf174
  v171 := Tryz.zeroValue174
  t173 := Tryz.underlying177
  a173 := Tryz.isAgg177
  z173 := Tryz.sizeOf177
  v173 := Tryz.zeroValue177
  t212 := Tryz.underlying208
  a212 := Tryz.isAgg208
  z212 := Tryz.sizeOf208
  v212 := Tryz.zeroValue208
  t213 := Tryz.underlying209
  a213 := Tryz.isAgg209
  z213 := Tryz.sizeOf209
  t232 := Tryz.underlying234
  a232 := Tryz.isAgg234
  z232 := Tryz.sizeOf234
  v232 := Tryz.zeroValue234
  t233 := Tryz.underlying235
  a233 := Tryz.isAgg235
  z233 := Tryz.sizeOf235
  v233 := Tryz.zeroValue235
  g17 := by kernel_rfl
  g18 := by kernel_rfl
  g19 := by kernel_rfl
  i0 := by kernel_rfl
  i2 := by kernel_rfl
  i3 := by kernel_rfl
  i4 := by kernel_rfl
  i5 := by kernel_rfl
  i9 := by kernel_rfl
  i20 := by kernel_rfl
  i37 := by kernel_rfl
  i46 := by kernel_rfl
  i51 := by kernel_rfl
  i53 := by kernel_rfl
  i171 := by kernel_rfl
  i173 := by kernel_rfl
  i212 := by kernel_rfl
  i232 := by kernel_rfl
  i233 := by kernel_rfl
  m17 := by kernel_rfl
  m18 := by kernel_rfl
  m19 := by kernel_rfl }
open Go.RowKit Go.Sort Go.Lib in
/-- strconv.Itoa: "Itoa is equivalent to FormatInt(int64(i), 10).": i's DECIMAL NUMERAL ('Lib.itoa': a '-' where i is negative, then the digits), FOR EVERY int. The world behind the call: the world before it, new blocks behind the heap (the library's 'var a [24]byte'), draws. (LAID: no walk: one application.) -/
theorem Tryz.strconv_Itoa (n : Int) (h0 : -9223372036854775808 ≤ n) (h1 : n ≤ 9223372036854775807) (w : World) (htab : Lib.TabIs Tryz.prog w "internal/strconv.uint64pow10" .u64 Lib.pow10Tab) :
    Calls Tryz.prog 44 #[.int .i64 n] w fun e w' => e = .returned (.string ⟨(Lib.itoa n).toArray⟩) ∧ ∃ k os, w' = grow (w.drewN k) os := Any.strconv_Itoa Tryz.laysM171 n h0 h1 w htab
def Tryz.laysM173_ren : Go.Shelf.Ren := ⟨fun | 173 => 68 | 246 => 97 | 283 => 117 | 284 => 118 | 285 => 119 | 286 => 120 | 129 => 145 | 317 => 144 | 318 => 146 | 319 => 147 | 320 => 148 | 337 => 163 | 338 => 164 | n => n, fun | 2 => 2 | 3 => 3 | 9 => 9 | 4 => 4 | 171 => 174 | 0 => 0 | 53 => 173 | 37 => 118 | 5 => 5 | 173 => 177 | 212 => 208 | 51 => 57 | 20 => 20 | 213 => 209 | 46 => 139 | 232 => 234 | 233 => 235 | n => n, fun | 17 => 2 | 18 => 9 | 19 => 10 | n => n⟩
theorem Tryz.laysM173 : Go.Proofs.LaysM.n173 Tryz.prog Tryz.laysM173_ren := {
  mixed := by kernel_rfl
  f129 := Tryz.func145.trans (congrArg some (by kernel_rfl))
  f173 := Tryz.func68.trans (congrArg some (by kernel_rfl))
  f246 := Tryz.func97.trans (congrArg some (by kernel_rfl))
  f283 := Tryz.func117.trans (congrArg some (by kernel_rfl))
  f284 := Tryz.func118.trans (congrArg some (by kernel_rfl))
  f285 := Tryz.func119.trans (congrArg some (by kernel_rfl))
  f286 := Tryz.func120.trans (congrArg some (by kernel_rfl))
  f317 := Tryz.func144.trans (congrArg some (by kernel_rfl))
  f318 := Tryz.func146.trans (congrArg some (by kernel_rfl))
  f319 := Tryz.func147.trans (congrArg some (by kernel_rfl))
  f320 := Tryz.func148.trans (congrArg some (by kernel_rfl))
  f337 := Tryz.func163.trans (congrArg some (by kernel_rfl))
  f338 := Tryz.func164.trans (congrArg some (by kernel_rfl))
  t0 := Tryz.underlying0
  a0 := Tryz.isAgg0
  z0 := Tryz.sizeOf0
  v0 := Tryz.zeroValue0
  t2 := Tryz.underlying2
  a2 := Tryz.isAgg2
  z2 := Tryz.sizeOf2
  v2 := Tryz.zeroValue2
  t3 := Tryz.underlying3
  a3 := Tryz.isAgg3
  z3 := Tryz.sizeOf3
  v3 := Tryz.zeroValue3
  t4 := Tryz.underlying4
  a4 := Tryz.isAgg4
  z4 := Tryz.sizeOf4
  v4 := Tryz.zeroValue4
  t5 := Tryz.underlying5
  a5 := Tryz.isAgg5
  z5 := Tryz.sizeOf5
  v5 := Tryz.zeroValue5
  t9 := Tryz.underlying9
  a9 := Tryz.isAgg9
  z9 := Tryz.sizeOf9
  v9 := Tryz.zeroValue9
  t20 := Tryz.underlying20
  a20 := Tryz.isAgg20
  z20 := Tryz.sizeOf20
  v20 := Tryz.zeroValue20
  t37 := Tryz.underlying118
  a37 := Tryz.isAgg118
  z37 := Tryz.sizeOf118
  v37 := Tryz.zeroValue118
  t46 := Tryz.underlying139
  a46 := Tryz.isAgg139
  z46 := Tryz.sizeOf139
  v46 := Tryz.zeroValue139
  t51 := Tryz.underlying57
  a51 := Tryz.isAgg57
  z51 := Tryz.sizeOf57
  v51 := Tryz.zeroValue57
  t53 := Tryz.underlying173
  a53 := Tryz.isAgg173
  z53 := Tryz.sizeOf173
  v53 := Tryz.zeroValue173
  t171 := Tryz.underlying174
  a171 := Tryz.isAgg174
  z171 := Tryz.sizeOf174
  v171 := Tryz.zeroValue174
  t173 := Tryz.underlying177
  a173 := Tryz.isAgg177
  z173 := Tryz.sizeOf177
  v173 := Tryz.zeroValue177
  t212 := Tryz.underlying208
  a212 := Tryz.isAgg208
  z212 := Tryz.sizeOf208
  v212 := Tryz.zeroValue208
  t213 := Tryz.underlying209
  a213 := Tryz.isAgg209
  z213 := Tryz.sizeOf209
  t232 := Tryz.underlying234
  a232 := Tryz.isAgg234
  z232 := Tryz.sizeOf234
  v232 := Tryz.zeroValue234
  t233 := Tryz.underlying235
  a233 := Tryz.isAgg235
  z233 := Tryz.sizeOf235
  v233 := Tryz.zeroValue235
  g17 := by kernel_rfl
  g18 := by kernel_rfl
  g19 := by kernel_rfl
  i0 := by kernel_rfl
  i2 := by kernel_rfl
  i3 := by kernel_rfl
  i4 := by kernel_rfl
  i5 := by kernel_rfl
  i9 := by kernel_rfl
  i20 := by kernel_rfl
  i37 := by kernel_rfl
  i46 := by kernel_rfl
  i51 := by kernel_rfl
  i53 := by kernel_rfl
  i171 := by kernel_rfl
  i173 := by kernel_rfl
  i212 := by kernel_rfl
  i232 := by kernel_rfl
  i233 := by kernel_rfl
  m17 := by kernel_rfl
  m18 := by kernel_rfl
  m19 := by kernel_rfl }
open Go.RowKit Go.Sort Go.Lib in
/-- strconv.FormatInt: "FormatInt returns the string representation of i in the given base": AT BASE 10: i's decimal numeral, for every int64. (LAID: no walk: one application.) -/
theorem Tryz.strconv_FormatInt_10 (n : Int) (h0 : -9223372036854775808 ≤ n) (h1 : n ≤ 9223372036854775807) (w : World) (htab : Lib.TabIs Tryz.prog w "internal/strconv.uint64pow10" .u64 Lib.pow10Tab) :
    Calls Tryz.prog 68 #[.int .i64 n, .int .i64 10] w fun e w' => e = .returned (.string ⟨(Lib.itoa n).toArray⟩) ∧ ∃ k os, w' = grow (w.drewN k) os := Any.strconv_FormatInt_10 Tryz.laysM173 n h0 h1 w htab
def Tryz.laysC174_ren : Go.Shelf.Ren := ⟨fun | 174 => 84 | 247 => 112 | 245 => 113 | 287 => 129 | 279 => 130 | 280 => 131 | 281 => 132 | 282 => 133 | 321 => 152 | 322 => 153 | 316 => 154 | 171 => 44 | 205 => 155 | 243 => 79 | 246 => 97 | 283 => 117 | 284 => 118 | 285 => 119 | 286 => 120 | 129 => 145 | 317 => 144 | 318 => 146 | 319 => 147 | 320 => 148 | 337 => 163 | 338 => 164 | n => n, fun | 9 => 9 | 3 => 3 | 2 => 2 | 75 => 123 | 85 => 140 | 4 => 4 | 167 => 186 | 5 => 5 | 53 => 173 | 175 => 187 | 46 => 139 | 168 => 189 | 37 => 118 | 0 => 0 | 210 => 214 | 21 => 21 | 127 => 159 | 145 => 233 | 143 => 231 | 171 => 174 | 173 => 177 | 212 => 208 | 51 => 57 | 20 => 20 | 213 => 209 | 232 => 234 | 233 => 235 | 80 => 126 | n => n, fun | 15 => 4 | 16 => 5 | 17 => 2 | 18 => 9 | 19 => 10 | n => n⟩
theorem Tryz.laysC174 : Go.Proofs.LaysC.n174 Tryz.prog Tryz.laysC174_ren := {
  mixed := by kernel_rfl
  f129 := Tryz.func145.trans (congrArg some (by kernel_rfl))
  f171 := Tryz.func44.trans (congrArg some (by kernel_rfl))
  f174 := Tryz.func84.trans (congrArg some (by kernel_rfl))
  f205 := Tryz.func155.trans (congrArg some (by kernel_rfl))
  f243 := Tryz.func79.trans (congrArg some (by kernel_rfl))
  f245 := Tryz.func113.trans (congrArg some (by kernel_rfl))
  f246 := Tryz.func97.trans (congrArg some (by kernel_rfl))
  f247 := Tryz.func112.trans (congrArg some (by kernel_rfl))
  f279 := Tryz.func130.trans (congrArg some (by kernel_rfl))
  f280 := Tryz.func131.trans (congrArg some (by kernel_rfl))
  f281 := Tryz.func132.trans (congrArg some (by kernel_rfl))
  f282 := Tryz.func133.trans (congrArg some (by kernel_rfl))
  f283 := Tryz.func117.trans (congrArg some (by kernel_rfl))
  f284 := Tryz.func118.trans (congrArg some (by kernel_rfl))
  f285 := Tryz.func119.trans (congrArg some (by kernel_rfl))
  f286 := Tryz.func120.trans (congrArg some (by kernel_rfl))
  f287 := Tryz.func129.trans (congrArg some (by kernel_rfl))
  f316 := Tryz.func154.trans (congrArg some (by kernel_rfl))
  f317 := Tryz.func144.trans (congrArg some (by kernel_rfl))
  f318 := Tryz.func146.trans (congrArg some (by kernel_rfl))
  f319 := Tryz.func147.trans (congrArg some (by kernel_rfl))
  f320 := Tryz.func148.trans (congrArg some (by kernel_rfl))
  f321 := Tryz.func152.trans (congrArg some (by kernel_rfl))
  f322 := Tryz.func153.trans (congrArg some (by kernel_rfl))
  f337 := Tryz.func163.trans (congrArg some (by kernel_rfl))
  f338 := Tryz.func164.trans (congrArg some (by kernel_rfl))
  t0 := Tryz.underlying0
  a0 := Tryz.isAgg0
  z0 := Tryz.sizeOf0
  v0 := Tryz.zeroValue0
  t2 := Tryz.underlying2
  a2 := Tryz.isAgg2
  z2 := Tryz.sizeOf2
  v2 := Tryz.zeroValue2
  t3 := Tryz.underlying3
  a3 := Tryz.isAgg3
  z3 := Tryz.sizeOf3
  v3 := Tryz.zeroValue3
  t4 := Tryz.underlying4
  a4 := Tryz.isAgg4
  z4 := Tryz.sizeOf4
  v4 := Tryz.zeroValue4
  t5 := Tryz.underlying5
  a5 := Tryz.isAgg5
  z5 := Tryz.sizeOf5
  v5 := Tryz.zeroValue5
  t9 := Tryz.underlying9
  a9 := Tryz.isAgg9
  z9 := Tryz.sizeOf9
  v9 := Tryz.zeroValue9
  t20 := Tryz.underlying20
  a20 := Tryz.isAgg20
  z20 := Tryz.sizeOf20
  v20 := Tryz.zeroValue20
  t21 := Tryz.underlying21
  a21 := Tryz.isAgg21
  z21 := Tryz.sizeOf21
  v21 := Tryz.zeroValue21
  t37 := Tryz.underlying118
  a37 := Tryz.isAgg118
  z37 := Tryz.sizeOf118
  v37 := Tryz.zeroValue118
  t46 := Tryz.underlying139
  a46 := Tryz.isAgg139
  z46 := Tryz.sizeOf139
  v46 := Tryz.zeroValue139
  t51 := Tryz.underlying57
  a51 := Tryz.isAgg57
  z51 := Tryz.sizeOf57
  v51 := Tryz.zeroValue57
  t53 := Tryz.underlying173
  a53 := Tryz.isAgg173
  z53 := Tryz.sizeOf173
  v53 := Tryz.zeroValue173
  t75 := Tryz.underlying123
  a75 := Tryz.isAgg123
  z75 := Tryz.sizeOf123
  v75 := Tryz.zeroValue123
  t85 := Tryz.underlying140
  a85 := Tryz.isAgg140
  z85 := Tryz.sizeOf140
  v85 := Tryz.zeroValue140
  t127 := Tryz.underlying159
  a127 := Tryz.isAgg159
  z127 := Tryz.sizeOf159
  v127 := Tryz.zeroValue159
  t143 := Tryz.underlying231
  a143 := Tryz.isAgg231
  z143 := Tryz.sizeOf231
  v143 := Tryz.zeroValue231
  t145 := Tryz.underlying233
  a145 := Tryz.isAgg233
  z145 := Tryz.sizeOf233
  v145 := Tryz.zeroValue233
  t167 := Tryz.underlying186
  a167 := Tryz.isAgg186
  z167 := Tryz.sizeOf186
  v167 := Tryz.zeroValue186
  t168 := Tryz.underlying189
  a168 := Tryz.isAgg189
  z168 := Tryz.sizeOf189
  v168 := Tryz.zeroValue189
  t171 := Tryz.underlying174
  a171 := Tryz.isAgg174
  z171 := Tryz.sizeOf174
  v171 := Tryz.zeroValue174
  t173 := Tryz.underlying177
  a173 := Tryz.isAgg177
  z173 := Tryz.sizeOf177
  v173 := Tryz.zeroValue177
  t175 := Tryz.underlying187
  a175 := Tryz.isAgg187
  z175 := Tryz.sizeOf187
  v175 := Tryz.zeroValue187
  t210 := Tryz.underlying214
  a210 := Tryz.isAgg214
  z210 := Tryz.sizeOf214
  v210 := Tryz.zeroValue214
  t212 := Tryz.underlying208
  a212 := Tryz.isAgg208
  z212 := Tryz.sizeOf208
  v212 := Tryz.zeroValue208
  t213 := Tryz.underlying209
  a213 := Tryz.isAgg209
  z213 := Tryz.sizeOf209
  t232 := Tryz.underlying234
  a232 := Tryz.isAgg234
  z232 := Tryz.sizeOf234
  v232 := Tryz.zeroValue234
  t233 := Tryz.underlying235
  a233 := Tryz.isAgg235
  z233 := Tryz.sizeOf235
  v233 := Tryz.zeroValue235
  g15 := by kernel_rfl
  g16 := by kernel_rfl
  g17 := by kernel_rfl
  g18 := by kernel_rfl
  g19 := by kernel_rfl
  t80 := Tryz.underlying126
  a80 := Tryz.isAgg126
  z80 := Tryz.sizeOf126
  v80 := Tryz.zeroValue126
  i0 := by kernel_rfl
  i2 := by kernel_rfl
  i3 := by kernel_rfl
  i4 := by kernel_rfl
  i5 := by kernel_rfl
  i9 := by kernel_rfl
  i20 := by kernel_rfl
  i21 := by kernel_rfl
  i37 := by kernel_rfl
  i46 := by kernel_rfl
  i51 := by kernel_rfl
  i53 := by kernel_rfl
  i75 := by kernel_rfl
  i80 := by kernel_rfl
  i85 := by kernel_rfl
  i127 := by kernel_rfl
  i143 := by kernel_rfl
  i145 := by kernel_rfl
  i167 := by kernel_rfl
  i168 := by kernel_rfl
  i171 := by kernel_rfl
  i173 := by kernel_rfl
  i175 := by kernel_rfl
  i210 := by kernel_rfl
  i212 := by kernel_rfl
  i232 := by kernel_rfl
  i233 := by kernel_rfl
  m15 := by kernel_rfl
  m16 := by kernel_rfl
  m17 := by kernel_rfl
  m18 := by kernel_rfl
  m19 := by kernel_rfl
  c0 := by kernel_rfl
  c2 := by kernel_rfl
  c3 := by kernel_rfl
  c4 := by kernel_rfl
  c5 := by kernel_rfl
  c9 := by kernel_rfl
  c20 := by kernel_rfl
  c21 := by kernel_rfl
  c37 := by kernel_rfl
  c46 := by kernel_rfl
  c51 := by kernel_rfl
  c53 := by kernel_rfl
  c75 := by kernel_rfl
  c80 := by kernel_rfl
  c85 := by kernel_rfl
  c127 := by kernel_rfl
  c143 := by kernel_rfl
  c145 := by kernel_rfl
  c167 := by kernel_rfl
  c168 := by kernel_rfl
  c171 := by kernel_rfl
  c173 := by kernel_rfl
  c175 := by kernel_rfl
  c210 := by kernel_rfl
  c212 := by kernel_rfl
  c213 := by kernel_rfl
  c232 := by kernel_rfl
  c233 := by kernel_rfl }
open Go.RowKit in
/-- strconv.ParseInt(s, 10, 64), AT EVERY STRING THAT SPELLS AN int64 ('Lib.parseIntB 64 s.data.toList = .ok v'): v, AND NO ERROR. (LAID: no walk: one application.) -/
theorem Tryz.strconv_ParseInt_10_at64_ok (s : ByteArray) (hmax : s.size ≤ 9223372036854775806) (v : Int) (h : Lib.parseIntB 64 s.data.toList = .ok v) (w : World) :
    Calls Tryz.prog 84 #[.string s, .int .i64 10, .int .i64 64] w fun e w' => e = .returned (.tuple #[.int .i64 v, .nilIface]) ∧ (w' = w ∨ ∃ t, w' = Lib.bytesWorld w 5 t) := Any.strconv_ParseInt_10_at64_ok Tryz.laysC174 s hmax v h w
open Go.RowKit in
/-- strconv.ParseInt(s, 10, 64), AT EVERY STRING THAT IS NO DECIMAL NUMERAL: 0, AND AN ERROR THAT IS NOT nil: a *NumError in a new block N: {Func: "ParseInt", Num: s's bytes, Err: what the variable ErrSyntax holds}. Of what was there nothing has turned. (LAID: no walk: one application.) -/
theorem Tryz.strconv_ParseInt_10_at64_syntax (s : ByteArray) (hlim : s.size ≤ 281474976710656) (h1 : ∀ n, Lib.parseIntB 64 s.data.toList ≠ .ok n) (h2 : Lib.parseIntB 64 s.data.toList ≠ .range) (ev : Value) (w : World) (hv : w.cell? ⟨4, 0, none⟩ = some ev) (hev : ev = .nilIface ∨ ∃ te pe, ev = .iface te pe) :
    Calls Tryz.prog 84 #[.string s, .int .i64 10, .int .i64 64] w fun e w' => ∃ N, e = .returned (.tuple #[.int .i64 (0), .iface 189 (.pointer (some ⟨N, 0, none⟩))]) ∧ w.heap.size ≤ N ∧ w'.heap[N]? = some (.cells #[.string ⟨#[80, 97, 114, 115, 101, 73, 110, 116]⟩, .string s, ev] 214 (0, 0)) ∧ Below w.heap.size w w' := Any.strconv_ParseInt_10_at64_syntax Tryz.laysC174 s hlim (by cases h : Lib.parseIntB 64 s.data.toList <;> first | rfl | exact absurd h (h1 _) | exact absurd h h2) ev w hv hev
open Go.RowKit in
/-- strconv.ParseInt(s, 10, 64), AT EVERY NUMERAL THAT NO int64 HOLDS: THE GREATEST OR THE LEAST int64, BY THE SIGN ('Lib.intSat 64'), AND AN ERROR THAT IS NOT nil: a *NumError in a new block N: {Func: "ParseInt", Num: s's bytes, Err: what the variable ErrRange holds}. Of what was there nothing has turned. (LAID: no walk: one application.) -/
theorem Tryz.strconv_ParseInt_10_at64_range (s : ByteArray) (hlim : s.size ≤ 281474976710656) (h : Lib.parseIntB 64 s.data.toList = .range) (ev : Value) (w : World) (hv : w.cell? ⟨5, 0, none⟩ = some ev) (hev : ev = .nilIface ∨ ∃ te pe, ev = .iface te pe) :
    Calls Tryz.prog 84 #[.string s, .int .i64 10, .int .i64 64] w fun e w' => ∃ N, e = .returned (.tuple #[.int .i64 (Lib.intSat 64 s.data.toList), .iface 189 (.pointer (some ⟨N, 0, none⟩))]) ∧ w.heap.size ≤ N ∧ w'.heap[N]? = some (.cells #[.string ⟨#[80, 97, 114, 115, 101, 73, 110, 116]⟩, .string s, ev] 214 (0, 0)) ∧ Below w.heap.size w w' := Any.strconv_ParseInt_10_at64_range Tryz.laysC174 s hlim h ev w hv hev
def Tryz.lays100_ren : Go.Shelf.Ren := ⟨fun | 100 => 22 | 207 => 49 | n => n, fun | 9 => 9 | 4 => 4 | 3 => 3 | n => n, fun | n => n⟩
theorem Tryz.lays100 : Go.Proofs.Lays.n100 Tryz.prog Tryz.lays100_ren := {
  mixed := by kernel_rfl
  f100 := Tryz.func22.trans (congrArg some (by kernel_rfl))
  f207 := Tryz.func49.trans (congrArg some (by kernel_rfl))
  t3 := Tryz.underlying3
  a3 := Tryz.isAgg3
  z3 := Tryz.sizeOf3
  v3 := Tryz.zeroValue3
  t4 := Tryz.underlying4
  a4 := Tryz.isAgg4
  z4 := Tryz.sizeOf4
  v4 := Tryz.zeroValue4
  t9 := Tryz.underlying9
  a9 := Tryz.isAgg9
  z9 := Tryz.sizeOf9
  v9 := Tryz.zeroValue9 }
open Go.RowKit Go.Lib in
/-- strings.HasSuffix: "HasSuffix reports whether the string s ends with suffix.": IT RETURNS 'Lib.hasSuffix s suffix'; the world is as it was. ('hs': no Go string is longer: a caller has it of every string that it was handed.) (LAID: no walk: one application.) -/
theorem Tryz.strings_HasSuffix (s p : ByteArray) (w : World) (hs : s.size ≤ 9223372036854775807) :
    Calls Tryz.prog 22 #[.string s, .string p] w fun e w' => e = .returned (.bool (Lib.hasSuffix s.data.toList p.data.toList)) ∧ w' = w := Any.strings_HasSuffix Tryz.lays100 s p w hs
def Tryz.lays167_ren : Go.Shelf.Ren := ⟨fun | 167 => 96 | 240 => 98 | 276 => 121 | n => n, fun | 0 => 0 | 4 => 4 | 5 => 5 | 9 => 9 | 20 => 20 | 37 => 118 | 70 => 117 | 72 => 120 | 75 => 123 | 164 => 179 | 80 => 126 | n => n, fun | n => n⟩
theorem Tryz.lays167 : Go.Proofs.Lays.n167 Tryz.prog Tryz.lays167_ren := {
  mixed := by kernel_rfl
  f167 := Tryz.func96.trans (congrArg some (by kernel_rfl))
  f240 := Tryz.func98.trans (congrArg some (by kernel_rfl))
  f276 := Tryz.func121.trans (congrArg some (by kernel_rfl))
  t0 := Tryz.underlying0
  a0 := Tryz.isAgg0
  z0 := Tryz.sizeOf0
  v0 := Tryz.zeroValue0
  t4 := Tryz.underlying4
  a4 := Tryz.isAgg4
  z4 := Tryz.sizeOf4
  v4 := Tryz.zeroValue4
  t5 := Tryz.underlying5
  a5 := Tryz.isAgg5
  z5 := Tryz.sizeOf5
  v5 := Tryz.zeroValue5
  t9 := Tryz.underlying9
  a9 := Tryz.isAgg9
  z9 := Tryz.sizeOf9
  v9 := Tryz.zeroValue9
  t20 := Tryz.underlying20
  a20 := Tryz.isAgg20
  z20 := Tryz.sizeOf20
  v20 := Tryz.zeroValue20
  t37 := Tryz.underlying118
  a37 := Tryz.isAgg118
  z37 := Tryz.sizeOf118
  v37 := Tryz.zeroValue118
  t70 := Tryz.underlying117
  a70 := Tryz.isAgg117
  z70 := Tryz.sizeOf117
  v70 := Tryz.zeroValue117
  t72 := Tryz.underlying120
  a72 := Tryz.isAgg120
  z72 := Tryz.sizeOf120
  v72 := Tryz.zeroValue120
  t75 := Tryz.underlying123
  a75 := Tryz.isAgg123
  z75 := Tryz.sizeOf123
  v75 := Tryz.zeroValue123
  t164 := Tryz.underlying179
  a164 := Tryz.isAgg179
  z164 := Tryz.sizeOf179
  v164 := Tryz.zeroValue179 }
theorem Tryz.Builder_Extra_167 : Builder.Extra Tryz.prog Tryz.lays167_ren := {
  sizeBuilder := by kernel_rfl
  liesBuilder := by kernel_rfl
  t5 := Tryz.underlying5
  a5 := Tryz.isAgg5
  z5 := Tryz.sizeOf5
  v5 := Tryz.zeroValue5
  infoByte := by kernel_rfl
  cellsByte := by kernel_rfl
  sizeByte := by kernel_rfl
  neB5 := by decide }
open Go.RowKit in
theorem Tryz.Builder_WriteByte (B b : Nat) (bs : List Value) (c : Int) (w : World) (h : Lib.IsBuilder 120 5 B b bs w) (hlen : bs.length + 1 ≤ 140737488355328) (hBw : B ≤ w.heap.size) :
    Calls Tryz.prog 96 #[.pointer (some ⟨b, 0, none⟩), .int .u8 c] w fun e w' => e = .returned .nilIface ∧ (Lib.BuilderAt 120 5 B b (.pointer (some ⟨b, 0, none⟩)) (bs ++ [.int .u8 c]) w' ∧ Below B w w') := Any.Builder_WriteByte Tryz.lays167 Tryz.Builder_Extra_167 B b bs c w h hlen hBw
end Go.Proofs
/- The library's functions that the console calls, as contracts of the engine. Own work. -/
set_option linter.unusedVariables false
set_option maxRecDepth 100000
namespace Go.Proofs.YtdhfipjfgigamaaGreatDoor.Con
open Go Go.RowKit Go.Lib OE

theorem rl1 {R : SV → Value → Prop} {a : SV} {vs : Array Value} (h : RL R [a] vs.toList) : ∃ v, vs = #[v] ∧ R a v := by
  obtain ⟨l⟩ := vs
  match l, h with
  | [v], ⟨h1, _⟩ => exact ⟨v, rfl, h1⟩
theorem rl2 {R : SV → Value → Prop} {a b : SV} {vs : Array Value} (h : RL R [a, b] vs.toList) : ∃ v u, vs = #[v, u] ∧ R a v ∧ R b u := by
  obtain ⟨l⟩ := vs
  match l, h with
  | [v, u], ⟨h1, h2, _⟩ => exact ⟨v, u, rfl, h1, h2⟩
theorem rl3 {R : SV → Value → Prop} {a b c : SV} {vs : Array Value} (h : RL R [a, b, c] vs.toList) : ∃ v u t, vs = #[v, u, t] ∧ R a v ∧ R b u ∧ R c t := by
  obtain ⟨l⟩ := vs
  match l, h with
  | [v, u, t], ⟨h1, h2, h3, _⟩ => exact ⟨v, u, t, rfl, h1, h2, h3⟩
/-- the powers of ten stand where they are -/
theorem tab_of {w : World} {ok : Nat → Prop} (ho : OkW w ok) : TabIs Tryz.prog w "internal/strconv.uint64pow10" .u64 pow10Tab := by
  obtain ⟨_, _, arr, T, fz, h3, h4⟩ := ho.gl 2 _ rfl
  obtain ⟨_, h4⟩ := h4
  have h3 : w.heap[2]? = some (.cells arr T fz) := h3
  unfold TabIs World.var?
  rw [show Tryz.prog.globalNamed "internal/strconv.uint64pow10" = some 2 by kernel_rfl]
  show (match w.heap[2]? with | some (.cells cs _ _) => some cs | _ => none) = _
  rw [h3]
  show some arr = some _
  rw [Array.toList_inj.1 (h4.trans rfl : arr.toList = (pow10Tab.map fun z => Value.int .u64 z).toArray.toList)]
theorem err_of {w : World} {ok : Nat → Prop} (ho : OkW w ok) {g : Nat} (hg : glS g = some .ifc) : ∃ t p, w.cell? ⟨g, 0, none⟩ = some (.iface t p) := by
  obtain ⟨_, _, arr, T, fz, h3, t, p, h4⟩ := ho.gl g _ hg
  refine ⟨t, p, ?_⟩
  have h3 : w.heap[g]? = some (.cells arr T fz) := h3
  unfold World.cell?
  rw [h3]
  obtain ⟨l⟩ := arr
  have h4 : l = [.iface t p] := h4
  subst h4
  rfl
theorem lib_Itoa (n : Int) (h0 : -9223372036854775808 ≤ n) (h1 : n ≤ 9223372036854775807) : FnD Tryz.prog 44 [.c (.int .i64 n)] (· = .c (.str (itoa n))) :=
  FnD.ofCalls ⟨_, Tryz.func44, rfl, rfl⟩ fun w ok vs ho hv => by
    obtain ⟨v, rfl, h1v⟩ := rl1 hv
    obtain rfl : v = .int .i64 n := h1v
    refine (Tryz.strconv_Itoa n h0 h1 w (tab_of ho)).mono fun e w' ⟨he, k, os, hw⟩ => ?_
    subst he hw
    exact ⟨_, _, rfl, rfl, fun x => rfl, below_grow _ w (Nat.le_refl _) k os⟩
theorem lib_FormatInt (n : Int) (h0 : -9223372036854775808 ≤ n) (h1 : n ≤ 9223372036854775807) : FnD Tryz.prog 68 [.c (.int .i64 n), .c (.int .i64 10)] (· = .c (.str (itoa n))) :=
  FnD.ofCalls ⟨_, Tryz.func68, rfl, rfl⟩ fun w ok vs ho hv => by
    obtain ⟨v, u, rfl, h1v, hu⟩ := rl2 hv
    obtain rfl : v = .int .i64 n := h1v
    obtain rfl : u = .int .i64 10 := hu
    refine (Tryz.strconv_FormatInt_10 n h0 h1 w (tab_of ho)).mono fun e w' ⟨he, k, os, hw⟩ => ?_
    subst he hw
    exact ⟨_, _, rfl, rfl, fun x => rfl, below_grow _ w (Nat.le_refl _) k os⟩
theorem lib_FormatBool (b : BE) : FnD Tryz.prog 95 [.c (.bool b)] (· = .c (.str (formatBool b.v))) :=
  FnD.ofCalls ⟨_, Tryz.func95, rfl, rfl⟩ fun w ok vs ho hv => by
    obtain ⟨v, rfl, h1v⟩ := rl1 hv
    obtain rfl : v = .bool b.v := h1v
    refine (Tryz.strconv_FormatBool b.v w).mono fun e w' ⟨he, hw⟩ => ?_
    subst he hw
    exact ⟨_, _, rfl, rfl, fun x => rfl, Below.refl _ _⟩
theorem lib_IndexByte (s : List UInt8) (c : Int) : FnD Tryz.prog 83 [.c (.str s), .c (.int .u8 c)] (· = .c (.int .i64 (indexByte s c.toNat.toUInt8))) :=
  FnD.ofCalls ⟨_, Tryz.func83, rfl, rfl⟩ fun w ok vs ho hv => by
    obtain ⟨v, u, rfl, h1v, hu⟩ := rl2 hv
    obtain rfl : v = .string ⟨s.toArray⟩ := h1v
    obtain rfl : u = .int .u8 c := hu
    refine (Tryz.strings_IndexByte ⟨s.toArray⟩ c w).mono fun e w' ⟨he, hw⟩ => ?_
    subst he hw
    exact ⟨_, _, rfl, rfl, fun x => rfl, Below.refl _ _⟩
theorem lib_CutPrefix (s p : List UInt8) : FnD Tryz.prog 81 [.c (.str s), .c (.str p)] (· = .tup [(false, [.str (trimPrefix s p)]), (false, [.bool (.sym (hasPrefix s p))])]) :=
  FnD.ofCalls ⟨_, Tryz.func81, rfl, rfl⟩ fun w ok vs ho hv => by
    obtain ⟨v, u, rfl, h1v, hu⟩ := rl2 hv
    obtain rfl : v = .string ⟨s.toArray⟩ := h1v
    obtain rfl : u = .string ⟨p.toArray⟩ := hu
    refine (Tryz.strings_CutPrefix ⟨s.toArray⟩ ⟨p.toArray⟩ w).mono fun e w' ⟨he, hw⟩ => ?_
    subst he hw
    exact ⟨_, _, rfl, rfl, fun x => ⟨_, rfl, ⟨_, rfl, rfl⟩, ⟨_, rfl, rfl⟩, trivial⟩, Below.refl _ _⟩
theorem lib_HasSuffix (s p : List UInt8) (hs : s.length ≤ 9223372036854775807) : FnD Tryz.prog 22 [.c (.str s), .c (.str p)] (· = .c (.bool (.sym (hasSuffix s p)))) :=
  FnD.ofCalls ⟨_, Tryz.func22, rfl, rfl⟩ fun w ok vs ho hv => by
    obtain ⟨v, u, rfl, h1v, hu⟩ := rl2 hv
    obtain rfl : v = .string ⟨s.toArray⟩ := h1v
    obtain rfl : u = .string ⟨p.toArray⟩ := hu
    refine (Tryz.strings_HasSuffix ⟨s.toArray⟩ ⟨p.toArray⟩ w hs).mono fun e w' ⟨he, hw⟩ => ?_
    subst he hw
    exact ⟨_, _, rfl, rfl, fun x => rfl, Below.refl _ _⟩
theorem lib_Trim (s cs : List UInt8) (hs : s.length ≤ 9223372036854775807) (hcs : cs.length < 4294967281) (ha : cs.all (fun b => decide (b.toNat < 128)) = true) : FnD Tryz.prog 82 [.c (.str s), .c (.str cs)] (· = .c (.str (trimS s cs))) :=
  FnD.ofCalls ⟨_, Tryz.func82, rfl, rfl⟩ fun w ok vs ho hv => by
    obtain ⟨v, u, rfl, h1v, hu⟩ := rl2 hv
    obtain rfl : v = .string ⟨s.toArray⟩ := h1v
    obtain rfl : u = .string ⟨cs.toArray⟩ := hu
    refine Calls.mono (Any.strings_Trim_laid Tryz.lays160 (by kernel_rfl) ⟨s.toArray⟩ ⟨cs.toArray⟩ w hs hcs (ascii_of_all ha)) fun e w' ⟨he, hw⟩ => ?_
    subst he
    exact ⟨_, _, rfl, rfl, fun x => rfl, hw⟩
theorem lib_ParseInt (s : List UInt8) (hs : s.length ≤ 281474976710656) : FnD Tryz.prog 84 [.c (.str s), .c (.int .i64 10), .c (.int .i64 64)]
    (fun r => (∃ n, parseIntB 64 s = .ok n ∧ r = .tup [(false, [.int .i64 n]), (false, [.val .nilIface])]) ∨ ((∀ n, parseIntB 64 s ≠ .ok n) ∧ ∃ t p, r = .tup [(false, [.int .i64 (pn s)]), (false, [.val (.iface t p)])])) :=
  FnD.ofCalls ⟨_, Tryz.func84, rfl, rfl⟩ fun w ok vs ho hv => by
    obtain ⟨v, u, t, rfl, h1v, hu, ht⟩ := rl3 hv
    obtain rfl : v = .string ⟨s.toArray⟩ := h1v
    obtain rfl : u = .int .i64 10 := hu
    obtain rfl : t = .int .i64 64 := ht
    have hsz : (⟨s.toArray⟩ : ByteArray).size = s.length := by simp [ByteArray.size]
    cases hp : parseIntB 64 s with
    | ok n =>
      refine (Tryz.strconv_ParseInt_10_at64_ok ⟨s.toArray⟩ (by rw [hsz]; omega) n hp w).mono fun e w' ⟨he, hw⟩ => ?_
      subst he
      refine ⟨_, _, rfl, .inl ⟨n, rfl, rfl⟩, fun x => ⟨_, rfl, ⟨_, rfl, rfl⟩, ⟨_, rfl, rfl, rfl⟩, trivial⟩, ?_⟩
      rcases hw with rfl | ⟨t, rfl⟩
      · exact Below.refl _ _
      · exact bytesWorld_below w _ t
    | range =>
      obtain ⟨te, pe, hc⟩ := err_of ho (g := 5) rfl
      refine (Tryz.strconv_ParseInt_10_at64_range ⟨s.toArray⟩ (by rw [hsz]; exact hs) hp _ w hc (.inr ⟨te, pe, rfl⟩)).mono fun e w' ⟨N, he, _, _, hw⟩ => ?_
      subst he
      have hq : pn s = intSat 64 s := by unfold pn; rw [hp]
      exact ⟨.tup [(false, [.int .i64 (pn s)]), (false, [.val (.iface 189 (.pointer (some ⟨N, 0, none⟩)))])], _, rfl, .inr ⟨(fun n h => by cases h), _, _, rfl⟩, fun x => ⟨_, rfl, ⟨_, rfl, by rw [hq]; rfl⟩, ⟨_, rfl, rfl, rfl⟩, trivial⟩, hw⟩
    | _ =>
      obtain ⟨te, pe, hc⟩ := err_of ho (g := 4) rfl
      refine (Tryz.strconv_ParseInt_10_at64_syntax ⟨s.toArray⟩ (by rw [hsz]; exact hs) (fun n h => by rw [hp] at h; cases h) (fun h => by rw [hp] at h; cases h) _ w hc (.inr ⟨te, pe, rfl⟩)).mono fun e w' ⟨N, he, _, _, hw⟩ => ?_
      subst he
      have hq : pn s = 0 := by unfold pn; rw [hp]
      exact ⟨.tup [(false, [.int .i64 (pn s)]), (false, [.val (.iface 189 (.pointer (some ⟨N, 0, none⟩)))])], _, rfl, .inr ⟨(fun n h => by cases h), _, _, rfl⟩, fun x => ⟨_, rfl, ⟨_, rfl, by rw [hq]; rfl⟩, ⟨_, rfl, rfl, rfl⟩, trivial⟩, hw⟩
theorem rdf_str {w : World} {ok : Nat → Prop} : ∀ {xs : List (List UInt8)} {cs : List Value}, RdF (Rd w ok .str) xs cs → ∀ (j : Nat) x, xs[j]? = some x → cs[j]? = some (.string ⟨x.toArray⟩)
  | [], _, _, j, x, h => by simp at h
  | y :: ys, cs, ⟨c1, c2, e, h1, h2⟩, j, x, h => by
    have h1 : c1 = [.string ⟨y.toArray⟩] := h1
    subst h1 e
    cases j with
    | zero =>
      simp only [List.getElem?_cons_zero, Option.some.injEq] at h
      subst h; rfl
    | succ j => simpa using rdf_str h2 j x (by simpa using h)
theorem lib_Join (xs : List (List UInt8)) (sep : List UInt8) (hn : xs.length ≤ 140737488355328) (hl : (join xs sep).length ≤ 140737488355328) : FnD Tryz.prog 35 [.c (.dat .str xs), .c (.str sep)] (· = .c (.str (join xs sep))) :=
  FnD.ofCalls ⟨_, Tryz.func35, rfl, rfl⟩ fun w ok vs ho hv => by
    obtain ⟨v, u, rfl, h1v, hu⟩ := rl2 hv
    obtain rfl : u = .string ⟨sep.toArray⟩ := hu
    obtain ⟨A, c, e, h1, h2, h3, h4⟩ := h1v
    simp only [List.cons.injEq, and_true] at e
    subst e
    have he : (xs.map fun s => (⟨s.toArray⟩ : ByteArray)).map (·.data.toList) = xs := by rw [List.map_map]; simp [Function.comp_def]
    rcases h4 with rfl | ⟨k, off, cells, T, fz, rfl, hk, hc, hr⟩
    · refine (Tryz.strings_Join_none A c ⟨sep.toArray⟩ w).mono fun e w' ⟨he, hw⟩ => ?_
      subst he hw
      exact ⟨_, _, rfl, rfl, fun x => rfl, Below.refl _ _⟩
    · have hcell : ∀ (j : Nat) x, (xs.map fun s => (⟨s.toArray⟩ : ByteArray))[j]? = some x → w.cell? ⟨k, off + j, none⟩ = some (.string x) := by
        intro j x hx
        rw [List.getElem?_map, Option.map_eq_some_iff] at hx
        obtain ⟨y, hy, rfl⟩ := hx
        have hj : j < xs.length := (List.getElem?_eq_some_iff.1 hy).1
        have := rdf_str hr j y hy
        rw [List.getElem?_take, List.getElem?_drop, if_pos (by show j < xs.length * 1; omega)] at this
        have hc : w.heap[k]? = some (.cells cells T fz) := hc
        unfold World.cell?
        simp only [hc]
        simpa using this
      have := Tryz.strings_Join k off c (xs.map fun s => (⟨s.toArray⟩ : ByteArray)) ⟨sep.toArray⟩ w hcell (ho.lt k hk) (by simpa using hn) (by simpa using h1) (by rw [he]; exact hl)
      rw [he, List.length_map] at this
      refine this.mono fun e w' ⟨he, hw⟩ => ?_
      subst he
      exact ⟨_, _, rfl, rfl, fun x => rfl, hw⟩
end Go.Proofs.YtdhfipjfgigamaaGreatDoor.Con
/- The walks of number and value. Own work. -/
set_option linter.unusedVariables false
set_option maxRecDepth 100000
namespace Go.Proofs.YtdhfipjfgigamaaGreatDoor.Con
open Go Go.RowKit Go.Lib OE

theorem FnD_be {P : Program} {f : Nat} {args : List SV} {L : List (Bool × List C)} {b : Bool} (h : FnD P f args (fun r => ∃ c : BE, c.v = b ∧ r = .tup (L ++ [(false, [.bool c])]))) : FnD P f args (· = .tup (L ++ [(false, [.bool (.sym b)])])) :=
  h.res fun r ⟨c, hc, hr⟩ w ok v hv => by
    subst hr
    obtain ⟨vs, e, hl⟩ := hv
    exact ⟨vs, e, rl_tup (c := .sym b) hc hl⟩
theorem bt_head (c : UInt8) (t : List UInt8) : bt (c :: t) 0 = (c.toNat : Int) := rfl
theorem pre_of (s : List UInt8) : (decide (s = []) || decide ((19 : Int) < (s.length : Int)) || (decide ((1 : Int) < (s.length : Int)) && decide (bt s 0 = 48)) || !decide (trimS s decD = [])) = !numPre s := by
  have ht : decide (trimS s decD = []) = s.all digitB := by
    rw [Bool.eq_iff_iff, decide_eq_true_eq, trim_nil]
    have : (fun c => decD.contains c) = digitB := funext dec_has
    rw [this]
  rw [ht]
  unfold numPre
  cases s with
  | nil => rfl
  | cons c t =>
    have h1 : decide (bt (c :: t) 0 = 48) = decide ((c :: t).head? = some 48) := by
      rw [bt_head]
      apply decide_eq_decide.2
      constructor
      · intro h
        have h : c.toNat = 48 := by omega
        have : c = 48 := UInt8.toNat_inj.1 h
        rw [this]; rfl
      · intro h
        have h : c = 48 := by simpa using h
        rw [h]; rfl
    rw [h1]
    have h2 : decide ((19 : Int) < ((c :: t).length : Int)) = !decide ((c :: t).length ≤ 19) := by
      rw [← decide_not]; apply decide_eq_decide.2; omega
    have h3 : decide ((1 : Int) < ((c :: t).length : Int)) = decide (1 < (c :: t).length) := by apply decide_eq_decide.2; omega
    rw [h2, h3]
    simp [Bool.not_and, Bool.not_or]
theorem head_num {s : List UInt8} (h : numPre s = true) : ¬ s.head?.map (·.toNat) = some 45 := by
  obtain ⟨h1, _, h3, _⟩ := len_of h
  cases s with
  | nil => exact absurd rfl h1
  | cons c t =>
    rw [List.all_cons, Bool.and_eq_true] at h3
    have := (digit_ne h3.1).2.1
    simpa using this
theorem console_number (s : List UInt8) (hs : s.length ≤ 100000) : FnD Tryz.prog 53 [.c (.str s)] (· = .tup [(false, [.int .i64 (numP s).1]), (false, [.bool (.sym (numP s).2)])]) := by
  refine FnD_be (L := [(false, [.int .i64 (numP s).1])]) ?_
  refine fn0 Tryz.func53 rfl rfl rfl ?_
  conv => whnf
  refine ⟨fun h => ⟨by omega, by have := of_decide_eq_true h.2; omega⟩, ?_⟩
  conv => whnf
  refine callg0 (fun _ => lib_Trim s _ (by omega) (by decide) (by decide)) rfl ?_
  conv => whnf
  have hp := pre_of s
  refine ⟨fun a => ?_, fun a => ?_⟩
  · have a : numPre s = false := by
      have : (!numPre s) = true := hp.symm.trans a
      cases h : numPre s <;> simp_all
    conv => whnf
    have hn : numP s = (0, false) := by unfold numP; rw [a]; rfl
    rw [hn]
    exact ⟨.sym false, rfl, rfl⟩
  have a : numPre s = true := by
    have : (!numPre s) = false := hp.symm.trans a
    cases h : numPre s <;> simp_all
  have hi := parseI_pre a
  conv => whnf
  refine call0 (lib_ParseInt s (by omega)) rfl fun r hr => ?_
  rcases hr with ⟨n, hn, rfl⟩ | ⟨hn, t, p, rfl⟩
  · have hl : valD s < 9223372036854775808 := Decidable.byContradiction fun h => by rw [if_neg h] at hi; rw [hi] at hn; cases hn
    rw [if_pos hl] at hi
    rw [hi] at hn
    cases hn
    have hq : numP s = ((valD s : Int), true) := by unfold numP; rw [if_pos a, if_pos hl]
    rw [hq]
    conv => whnf
    refine any0 ?_
    conv => whnf
    refine ⟨.inl (by kernel_rfl), after0 ?_⟩
    conv => whnf
    exact ⟨_, rfl, rfl⟩
  · have hl : ¬ valD s < 9223372036854775808 := fun h => by rw [if_pos h] at hi; exact hn _ hi
    rw [if_neg hl] at hi
    have hq : numP s = (9223372036854775807, false) := by unfold numP; rw [if_pos a, if_neg hl]
    have hpn : pn s = 9223372036854775807 := by
      unfold pn
      rw [hi]
      unfold intSat
      rw [if_neg (head_num a)]
      rfl
    rw [hq, hpn]
    conv => whnf
    refine any0 ?_
    conv => whnf
    refine ⟨.inl (by kernel_rfl), after0 ?_⟩
    conv => whnf
    exact ⟨_, rfl, rfl⟩
end Go.Proofs.YtdhfipjfgigamaaGreatDoor.Con
/- The walk of value. Own work. -/
set_option linter.unusedVariables false
set_option maxRecDepth 100000
namespace Go.Proofs.YtdhfipjfgigamaaGreatDoor.Con
open Go Go.RowKit Go.Lib OE

theorem pre_quote {s : List UInt8} (h : hasPrefix s [34] = true) : ∃ t, s = 34 :: t := by
  cases s with
  | nil => cases h
  | cons c t =>
    unfold hasPrefix at h
    simp [List.isPrefixOf] at h
    exact ⟨t, by rw [h]⟩
/-- the bytes that are there, then noughts -/
def rowH (t : List UInt8) (i : Nat) : List Int := (((unhex t).take i).map fun b => (b.toNat : Int)) ++ List.replicate (t.length / 2 - i) 0
theorem unhex_len : ∀ (n : Nat) (t : List UInt8), t.length ≤ n → (unhex t).length = t.length / 2
  | _, [], _ => rfl
  | _, [_], _ => by simp [unhex]
  | n + 1, a :: b :: r, h => by
    have := unhex_len n r (by simp at h; omega)
    show (unhex r).length + 1 = (r.length + 1 + 1) / 2
    omega
  | 0, a :: b :: r, h => by simp at h
theorem row_end (t : List UInt8) : byl (rowH t (t.length / 2)) = unhex t := by
  unfold rowH
  rw [Nat.sub_self, List.replicate_zero, List.append_nil, List.take_of_length_le (by rw [unhex_len _ t (Nat.le_refl _)]; omega)]
  unfold byl
  rw [List.map_map]
  conv => rhs; rw [← List.map_id (unhex t)]
  exact List.map_congr_left fun b _ => by simp
theorem lib_hexI (c : UInt8) : FnD Tryz.prog 83 [.c (.str hexD), .c (.int .u8 (c.toNat : Int))] (· = .c (.int .i64 (hexI c))) := by
  have := lib_IndexByte hexD (c.toNat : Int)
  rw [show ((c.toNat : Int)).toNat.toUInt8 = c by simp] at this
  exact this
theorem hex_at {t : List UInt8} (h : hexB t = true) {j : Nat} (hj : j < t.length) : ∃ x : Nat, hexI (t.getD j 0) = (x : Int) ∧ x < 16 := by
  unfold hexB at h
  rw [Bool.and_eq_true, List.all_eq_true] at h
  have hc := h.2 t[j] (List.getElem_mem hj)
  obtain ⟨h1, h2, _⟩ := hexC_I _ hc
  rw [List.getD_eq_getElem?_getD, List.getElem?_eq_getElem hj, Option.getD_some]
  exact ⟨(hexI t[j]).toNat, by omega, by omega⟩
theorem row_len {t : List UInt8} {i : Nat} : ((rowH t i).length : Int) = (min i (t.length / 2) + (t.length / 2 - i) : Nat) := by
  unfold rowH
  rw [List.length_append, List.length_map, List.length_take, List.length_replicate, unhex_len _ t (Nat.le_refl _)]
theorem hex_or (x y : Nat) (hx : x < 16) (hy : y < 16) : IntKind.wrap .u8 (bits BinOp.or .i64 (IntKind.wrap .i64 ((x : Int) * 2 ^ min (Int.toNat 4) IntKind.i64.bits)) (y : Int)) = ((16 * x + y : Nat) : Int) := by
  have : ∀ x y : Fin 16, IntKind.wrap .u8 (bits BinOp.or .i64 (IntKind.wrap .i64 ((x.val : Int) * 2 ^ min (Int.toNat 4) IntKind.i64.bits)) (y.val : Int)) = ((16 * x.val + y.val : Nat) : Int) := by decide +kernel
  exact this ⟨x, hx⟩ ⟨y, hy⟩
theorem unhex_at : ∀ (n : Nat) (t : List UInt8) (i : Nat), t.length ≤ n → i < t.length / 2 → (unhex t)[i]? = some (UInt8.ofNat (16 * (hexI (t.getD (2 * i) 0)).toNat + (hexI (t.getD (2 * i + 1) 0)).toNat))
  | _, [], i, _, h => by simp at h
  | _, [_], i, _, h => by simp at h
  | 0, a :: b :: r, i, h, _ => by simp at h
  | n + 1, a :: b :: r, 0, h, _ => rfl
  | n + 1, a :: b :: r, i + 1, h, hi => by
    have := unhex_at n r i (by simp at h; omega) (by simp at hi; omega)
    show (unhex r)[i]? = _
    rw [this]
    rfl
theorem row_set {t : List UInt8} {i x y : Nat} (h : i < t.length / 2) (hx : hexI (t.getD (2 * i) 0) = (x : Int)) (hx2 : x < 16) (hy : hexI (t.getD (2 * i + 1) 0) = (y : Int)) (hy2 : y < 16) :
    (rowH t i).set ((i : Int)).toNat ((16 * x + y : Nat) : Int) = rowH t (i + 1) := by
  have hl := unhex_len _ t (Nat.le_refl _)
  have hu := unhex_at _ t i (Nat.le_refl _) h
  rw [hx, hy, Int.toNat_natCast, Int.toNat_natCast] at hu
  unfold rowH
  rw [Int.toNat_natCast, show t.length / 2 - i = (t.length / 2 - (i + 1)) + 1 by omega, List.replicate_succ, List.set_append_right _ _ (by rw [List.length_map, List.length_take]; omega)]
  rw [show i - (((unhex t).take i).map fun b => (b.toNat : Int)).length = 0 by rw [List.length_map, List.length_take]; omega]
  rw [List.take_add_one, hu, List.map_append, List.append_assoc]
  congr 1
  show (((16 * x + y : Nat) : Int)) :: _ = (((UInt8.ofNat (16 * x + y)).toNat : Int)) :: _
  rw [UInt8.toNat_ofNat']
  congr 1
  omega
theorem console_value (s : List UInt8) (hs : s.length ≤ 100000) : FnD Tryz.prog 52 [.c (.str s)] (· = .tup [(true, vc (valS s).1), (false, [.bool (.sym (valS s).2)])]) := by
  refine FnD_be (L := [(true, vc (valS s).1)]) ?_
  refine fn0 Tryz.func52 rfl rfl rfl ?_
  conv => whnf
  refine ⟨fun a => ?_, fun a => ?_⟩
  · have a : s = tNone := of_decide_eq_true a
    rw [show valS s = ((0, 0, []), true) from if_pos a]
    conv => whnf
    exact ⟨_, rfl, rfl⟩
  have a1 : ¬ s = tNone := of_decide_eq_false a
  clear a
  conv => whnf
  refine ⟨fun a => ?_, fun a => ?_⟩
  · have a : s = tFalse := of_decide_eq_true a
    rw [show valS s = ((1, 0, []), true) by unfold valS; rw [if_neg a1, if_pos a]]
    conv => whnf
    exact ⟨_, rfl, rfl⟩
  have a2 : ¬ s = tFalse := of_decide_eq_false a
  clear a
  conv => whnf
  refine ⟨fun a => ?_, fun a => ?_⟩
  · have a : s = tTrue := of_decide_eq_true a
    rw [show valS s = ((1, 1, []), true) by unfold valS; rw [if_neg a1, if_neg a2, if_pos a]]
    conv => whnf
    exact ⟨_, rfl, rfl⟩
  have a3 : ¬ s = tTrue := of_decide_eq_false a
  clear a
  conv => whnf
  refine call1 (lib_CutPrefix s [34]) rfl ?_
  conv => whnf
  refine ⟨fun a => ?_, fun a => ?_⟩
  · obtain ⟨t, rfl⟩ := pre_quote a
    rw [show trimPrefix (34 :: t) [34] = t from rfl]
    have hq : valS (34 :: t) = if hexB t = true then ((3, 0, unhex t), true) else ((0, 0, []), false) := by
      unfold valS; rw [if_neg a1, if_neg a2, if_neg a3, if_pos (by rfl)]; rfl
    rw [hq]
    clear a a1 a2 a3 hq
    have hs : t.length + 1 ≤ 100000 := hs
    conv => whnf
    refine ⟨by decide, ?_⟩
    conv => whnf
    refine callg0 (fun _ => lib_Trim t _ (by omega) (by decide) (by decide)) rfl ?_
    conv => whnf
    have hB : hexB t = !(!decide (((t.length : Int)).tmod 2 = 0) || !decide (trimS t hexD = [])) := by
      have h1 : decide (((t.length : Int)).tmod 2 = 0) = decide (t.length % 2 = 0) := by
        rw [show ((t.length : Int)).tmod 2 = ((t.length % 2 : Nat) : Int) from rfl]
        apply decide_eq_decide.2; omega
      have h2 : decide (trimS t hexD = []) = t.all (hexD.contains ·) := by
        rw [Bool.eq_iff_iff, decide_eq_true_eq, trim_nil]
      rw [h1, h2]
      unfold hexB
      cases decide (t.length % 2 = 0) <;> cases t.all (hexD.contains ·) <;> rfl
    refine ⟨fun a => ?_, fun a => ?_⟩
    · have a : hexB t = false := by rw [hB]; exact congrArg (!·) a
      rw [a]
      conv => whnf
      exact ⟨_, rfl, rfl⟩
    have a : hexB t = true := by rw [hB]; exact congrArg (!·) a
    rw [a]
    conv => whnf
    refine ⟨by decide, ?_⟩
    conv => whnf
    obtain ⟨i0, hi, hii⟩ := Option.map_eq_some_iff.1 (show (Tryz.prog.info? 5).map (fun i => (i.zero, i.size, i.bytes)) = some (some (.int .u8 0), 1, 1) by kernel_rfl)
    simp only [Prod.mk.injEq] at hii
    obtain ⟨hz0, hz1, hz2⟩ := hii
    rw [show IntKind.wrap .i64 ((t.length : Int).tdiv 2) = ((t.length / 2 : Nat) : Int) from (congrArg _ (show (t.length : Int).tdiv 2 = ((t.length / 2 : Nat) : Int) from rfl)).trans (wr64 _ (by omega) (by omega))]
    refine mks0 (n := t.length / 2) i0 rfl rfl rfl Tryz.underlying118 hi hz0 hz1 hz2 (by omega) ?_
    conv => whnf
    intro _
    conv => whnf
    refine loop0 (α := Nat) (fun i => i ≤ t.length / 2) (fun i => ⟨[(2, .c (.ptr 0 0)), (4, .c (.str t)), (6, .c (.row 1)), (41, .c (.int .i64 (List.replicate (t.length / 2) (0 : Int)).length)), (42, .c (.int .i64 i))], [(0, .cells 24 (vc (0, 0, []))), (1, .row 5 (.int .u8) (rowH t i))], 2⟩) (fun i => t.length / 2 - i) ⟨0, by omega, ?_⟩ ?_
    · (conv => whnf); refine ⟨rfl, ?_, ?_, ?_⟩ <;> (repeat' apply And.intro) <;> first | exact trivial | rfl | exact wr_succ _ (by omega) | assumption | exact decide_eq_false (by assumption) | exact decide_eq_true (by assumption)
    · intro i hI
      conv => whnf
      refine ⟨fun h => ?_, fun h => ?_⟩
      · have h : i < t.length / 2 := by have := of_decide_eq_true h; rw [List.length_replicate] at this; omega
        conv => whnf
        have hb0 : bt t ((2 * i : Nat) : Int) = ((t.getD (2 * i) 0).toNat : Int) := rfl
        have hb1 : bt t ((2 * i + 1 : Nat) : Int) = ((t.getD (2 * i + 1) 0).toNat : Int) := rfl
        have hw0 : IntKind.wrap .i64 (2 * (i : Int)) = ((2 * i : Nat) : Int) := (wr64 _ (by omega) (by omega)).trans (by omega)
        have hw1 : IntKind.wrap .i64 (((2 * i : Nat) : Int) + 1) = ((2 * i + 1 : Nat) : Int) := (wr64 _ (by omega) (by omega)).trans (by omega)
        obtain ⟨x, hx, hx2⟩ := hex_at a (j := 2 * i) (by omega)
        obtain ⟨y, hy, hy2⟩ := hex_at a (j := 2 * i + 1) (by omega)
        refine any0 ?_
        conv => whnf
        rw [hw0]
        refine ⟨by omega, ?_⟩
        rw [hb0]
        conv => whnf
        refine callr0 (lib_hexI (t.getD (2 * i) 0)) rfl ?_
        conv => whnf
        rw [hx]
        refine ⟨by decide, ?_⟩
        conv => whnf
        rw [hw0, hw1]
        refine ⟨by omega, ?_⟩
        rw [hb1]
        conv => whnf
        refine callr0 (lib_hexI (t.getD (2 * i + 1) 0)) rfl ?_
        conv => whnf
        rw [hy]
        rw [hex_or x y hx2 hy2]
        refine ⟨by rw [row_len]; omega, ?_⟩
        conv => whnf
        refine ⟨by rw [row_len]; omega, ?_⟩
        conv => whnf
        refine ⟨.inl (by kernel_rfl), after0 ?_⟩
        conv => whnf
        refine ⟨i + 1, ⟨by omega, by omega⟩, ?_⟩
        have hr := (row_set h hx hx2 hy hy2).symm
        (conv => whnf); refine ⟨rfl, ?_, ?_, ?_⟩ <;> (repeat' apply And.intro) <;> first | exact trivial | rfl | exact wr_succ _ (by omega) | assumption | exact decide_eq_false (by assumption) | exact decide_eq_true (by assumption)
      · have h : i = t.length / 2 := by have := of_decide_eq_false h; rw [List.length_replicate] at this; omega
        subst h
        conv => whnf
        rw [row_end]
        exact ⟨_, rfl, rfl⟩
  have hh : ¬ s.head? = some 34 := by
    intro h
    cases s with
    | nil => cases h
    | cons c t =>
      have h : c = 34 := by simpa using h
      subst h
      cases a
  have hq : valS s = ((2, pn s, []), (intV s).isSome) := by
    unfold valS; rw [if_neg a1, if_neg a2, if_neg a3, if_neg hh]
  rw [hq]
  clear hq
  conv => whnf
  refine call0 (lib_ParseInt s (by omega)) rfl fun r hr => ?_
  obtain ⟨i1, i2⟩ := intV_parse s
  rcases hr with ⟨n, hn, rfl⟩ | ⟨hn, t, p, rfl⟩
  · have hr := parseIntB_bounds hn
    have n0 : -9223372036854775808 ≤ n := hr.1
    have n1 : n ≤ 9223372036854775807 := Int.le_of_lt_add_one hr.2
    have hpn : pn s = n := by unfold pn; rw [hn]
    rw [hpn]
    conv => whnf
    refine call1 (lib_FormatInt n n0 n1) rfl ?_
    conv => whnf
    refine ⟨_, ?_, rfl⟩
    show decide (itoa n = s) = (intV s).isSome
    cases hv : intV s with
    | some m =>
      have := (i1 n hn).2 (by
        obtain ⟨g1, g2, g3⟩ := intV_some hv
        rw [← g1, parse_itoa g2 g3] at hn
        cases hn; exact hv)
      rw [decide_eq_true this]; rfl
    | none =>
      rw [decide_eq_false fun h => by rw [(i1 n hn).1 h] at hv; cases hv]; rfl
  · rw [i2 hn]
    conv => whnf
    exact ⟨_, rfl, rfl⟩
end Go.Proofs.YtdhfipjfgigamaaGreatDoor.Con
/- The walks of place.read. Printed by a program of the session (genconread.py). Own work. -/
set_option linter.unusedVariables false
set_option maxRecDepth 100000
namespace Go.Proofs.YtdhfipjfgigamaaGreatDoor.Con
open Go Go.RowKit Go.Lib OE

theorem read_t2 (m : MD.T) (f : Int) (s : List UInt8) (ht : textP m.1 f = .c (.ptr 0 2)) : FnP Tryz.prog 23 [.agg [.ptr 0 0], .c (.int .u8 f), .c (.str s)] (obM m) 1 kp0 (.c (.bool (.sym (!decide (s = []))))) (obM (mT m s)) 1 := by
  have h1 := place_text m f
  rw [ht] at h1
  refine fnP noI Tryz.func23 rfl rfl rfl rfl ?_
  conv => whnf
  refine callp0 [0] rfl rfl (h1) rfl rfl rfl rfl rfl ?_
  conv => whnf
  refine ⟨rfl, ?_, ?_, ?_⟩ <;> (repeat' apply And.intro) <;> first | exact trivial | rfl | assumption
theorem read_t3 (m : MD.T) (f : Int) (s : List UInt8) (ht : textP m.1 f = .c (.ptr 0 3)) : FnP Tryz.prog 23 [.agg [.ptr 0 0], .c (.int .u8 f), .c (.str s)] (obM m) 1 kp0 (.c (.bool (.sym (!decide (s = []))))) (obM (mNm m s)) 1 := by
  have h1 := place_text m f
  rw [ht] at h1
  refine fnP noI Tryz.func23 rfl rfl rfl rfl ?_
  conv => whnf
  refine callp0 [0] rfl rfl (h1) rfl rfl rfl rfl rfl ?_
  conv => whnf
  refine ⟨rfl, ?_, ?_, ?_⟩ <;> (repeat' apply And.intro) <;> first | exact trivial | rfl | assumption
theorem read_t13 (m : MD.T) (f : Int) (s : List UInt8) (ht : textP m.1 f = .c (.ptr 0 13)) : FnP Tryz.prog 23 [.agg [.ptr 0 0], .c (.int .u8 f), .c (.str s)] (obM m) 1 kp0 (.c (.bool (.sym (!decide (s = []))))) (obM (sO m (oT (mOp m) s))) 1 := by
  have h1 := place_text m f
  rw [ht] at h1
  refine fnP noI Tryz.func23 rfl rfl rfl rfl ?_
  conv => whnf
  refine callp0 [0] rfl rfl (h1) rfl rfl rfl rfl rfl ?_
  conv => whnf
  refine ⟨rfl, ?_, ?_, ?_⟩ <;> (repeat' apply And.intro) <;> first | exact trivial | rfl | assumption
theorem read_t16 (m : MD.T) (f : Int) (s : List UInt8) (ht : textP m.1 f = .c (.ptr 0 16)) : FnP Tryz.prog 23 [.agg [.ptr 0 0], .c (.int .u8 f), .c (.str s)] (obM m) 1 kp0 (.c (.bool (.sym (!decide (s = []))))) (obM (sO m (oN (mOp m) s))) 1 := by
  have h1 := place_text m f
  rw [ht] at h1
  refine fnP noI Tryz.func23 rfl rfl rfl rfl ?_
  conv => whnf
  refine callp0 [0] rfl rfl (h1) rfl rfl rfl rfl rfl ?_
  conv => whnf
  refine ⟨rfl, ?_, ?_, ?_⟩ <;> (repeat' apply And.intro) <;> first | exact trivial | rfl | assumption
theorem read_t23 (m : MD.T) (f : Int) (s : List UInt8) (ht : textP m.1 f = .c (.ptr 0 23)) : FnP Tryz.prog 23 [.agg [.ptr 0 0], .c (.int .u8 f), .c (.str s)] (obM m) 1 kp0 (.c (.bool (.sym (!decide (s = []))))) (obM (mR m (rT (mRule m) s))) 1 := by
  have h1 := place_text m f
  rw [ht] at h1
  refine fnP noI Tryz.func23 rfl rfl rfl rfl ?_
  conv => whnf
  refine callp0 [0] rfl rfl (h1) rfl rfl rfl rfl rfl ?_
  conv => whnf
  refine ⟨rfl, ?_, ?_, ?_⟩ <;> (repeat' apply And.intro) <;> first | exact trivial | rfl | assumption
theorem read_t24 (m : MD.T) (f : Int) (s : List UInt8) (ht : textP m.1 f = .c (.ptr 0 24)) : FnP Tryz.prog 23 [.agg [.ptr 0 0], .c (.int .u8 f), .c (.str s)] (obM m) 1 kp0 (.c (.bool (.sym (!decide (s = []))))) (obM (mR m (rN (mRule m) s))) 1 := by
  have h1 := place_text m f
  rw [ht] at h1
  refine fnP noI Tryz.func23 rfl rfl rfl rfl ?_
  conv => whnf
  refine callp0 [0] rfl rfl (h1) rfl rfl rfl rfl rfl ?_
  conv => whnf
  refine ⟨rfl, ?_, ?_, ?_⟩ <;> (repeat' apply And.intro) <;> first | exact trivial | rfl | assumption
theorem read_t25 (m : MD.T) (f : Int) (s : List UInt8) (ht : textP m.1 f = .c (.ptr 0 25)) : FnP Tryz.prog 23 [.agg [.ptr 0 0], .c (.int .u8 f), .c (.str s)] (obM m) 1 kp0 (.c (.bool (.sym (!decide (s = []))))) (obM (mR m (rF (mRule m) s))) 1 := by
  have h1 := place_text m f
  rw [ht] at h1
  refine fnP noI Tryz.func23 rfl rfl rfl rfl ?_
  conv => whnf
  refine callp0 [0] rfl rfl (h1) rfl rfl rfl rfl rfl ?_
  conv => whnf
  refine ⟨rfl, ?_, ?_, ?_⟩ <;> (repeat' apply And.intro) <;> first | exact trivial | rfl | assumption
theorem read_t26 (m : MD.T) (f : Int) (s : List UInt8) (ht : textP m.1 f = .c (.ptr 0 26)) : FnP Tryz.prog 23 [.agg [.ptr 0 0], .c (.int .u8 f), .c (.str s)] (obM m) 1 kp0 (.c (.bool (.sym (!decide (s = []))))) (obM (mR m (rG (mRule m) s))) 1 := by
  have h1 := place_text m f
  rw [ht] at h1
  refine fnP noI Tryz.func23 rfl rfl rfl rfl ?_
  conv => whnf
  refine callp0 [0] rfl rfl (h1) rfl rfl rfl rfl rfl ?_
  conv => whnf
  refine ⟨rfl, ?_, ?_, ?_⟩ <;> (repeat' apply And.intro) <;> first | exact trivial | rfl | assumption
theorem read_v4 (m : MD.T) (f : Int) (s : List UInt8) (hs : s.length ≤ 100000) (ht : textP m.1 f = nilP) (hv : valueP m.1 f = .c (.ptr 0 4)) : FnP Tryz.prog 23 [.agg [.ptr 0 0], .c (.int .u8 f), .c (.str s)] (obM m) 1 kp0 (.c (.bool (.sym ((valS s).2)))) (obM (mVl m (valS s).1)) 1 := by
  have h1 := place_text m f
  rw [ht] at h1
  have h2 := place_value m f
  rw [hv] at h2
  refine fnP noI Tryz.func23 rfl rfl rfl rfl ?_
  conv => whnf
  refine callp0 [0] rfl rfl (h1) rfl rfl rfl rfl rfl ?_
  conv => whnf
  refine callp0 [0] rfl rfl (h2) rfl rfl rfl rfl rfl ?_
  conv => whnf
  refine call1 (console_value s hs) rfl ?_
  conv => whnf
  refine ⟨rfl, ?_, ?_, ?_⟩ <;> (repeat' apply And.intro) <;> first | exact trivial | rfl | assumption
theorem read_v7 (m : MD.T) (f : Int) (s : List UInt8) (hs : s.length ≤ 100000) (ht : textP m.1 f = nilP) (hv : valueP m.1 f = .c (.ptr 0 7)) : FnP Tryz.prog 23 [.agg [.ptr 0 0], .c (.int .u8 f), .c (.str s)] (obM m) 1 kp0 (.c (.bool (.sym ((valS s).2)))) (obM (mW m (valS s).1)) 1 := by
  have h1 := place_text m f
  rw [ht] at h1
  have h2 := place_value m f
  rw [hv] at h2
  refine fnP noI Tryz.func23 rfl rfl rfl rfl ?_
  conv => whnf
  refine callp0 [0] rfl rfl (h1) rfl rfl rfl rfl rfl ?_
  conv => whnf
  refine callp0 [0] rfl rfl (h2) rfl rfl rfl rfl rfl ?_
  conv => whnf
  refine call1 (console_value s hs) rfl ?_
  conv => whnf
  refine ⟨rfl, ?_, ?_, ?_⟩ <;> (repeat' apply And.intro) <;> first | exact trivial | rfl | assumption
theorem read_v17 (m : MD.T) (f : Int) (s : List UInt8) (hs : s.length ≤ 100000) (ht : textP m.1 f = nilP) (hv : valueP m.1 f = .c (.ptr 0 17)) : FnP Tryz.prog 23 [.agg [.ptr 0 0], .c (.int .u8 f), .c (.str s)] (obM m) 1 kp0 (.c (.bool (.sym ((valS s).2)))) (obM (sO m (oVl (mOp m) (valS s).1))) 1 := by
  have h1 := place_text m f
  rw [ht] at h1
  have h2 := place_value m f
  rw [hv] at h2
  refine fnP noI Tryz.func23 rfl rfl rfl rfl ?_
  conv => whnf
  refine callp0 [0] rfl rfl (h1) rfl rfl rfl rfl rfl ?_
  conv => whnf
  refine callp0 [0] rfl rfl (h2) rfl rfl rfl rfl rfl ?_
  conv => whnf
  refine call1 (console_value s hs) rfl ?_
  conv => whnf
  refine ⟨rfl, ?_, ?_, ?_⟩ <;> (repeat' apply And.intro) <;> first | exact trivial | rfl | assumption
theorem read_i1 (m : MD.T) (f : Int) (s : List UInt8) (hs : s.length ≤ 100000) (ht : textP m.1 f = nilP) (hv : valueP m.1 f = nilP) (hi : idP m.1 f = .c (.ptr 0 1)) : FnP Tryz.prog 23 [.agg [.ptr 0 0], .c (.int .u8 f), .c (.str s)] (obM m) 1 kp0 (.c (.bool (.sym ((numP s).2)))) (obM (mI m (numP s).1)) 1 := by
  have h1 := place_text m f
  rw [ht] at h1
  have h2 := place_value m f
  rw [hv] at h2
  have h3 := place_id m f
  rw [hi] at h3
  refine fnP noI Tryz.func23 rfl rfl rfl rfl ?_
  conv => whnf
  refine callp0 [0] rfl rfl (h1) rfl rfl rfl rfl rfl ?_
  conv => whnf
  refine callp0 [0] rfl rfl (h2) rfl rfl rfl rfl rfl ?_
  conv => whnf
  refine call1 (console_number s hs) rfl ?_
  conv => whnf
  refine callp0 [0] rfl rfl (h3) rfl rfl rfl rfl rfl ?_
  conv => whnf
  refine ⟨rfl, ?_, ?_, ?_⟩ <;> (repeat' apply And.intro) <;> first | exact trivial | rfl | assumption
theorem read_i12 (m : MD.T) (f : Int) (s : List UInt8) (hs : s.length ≤ 100000) (ht : textP m.1 f = nilP) (hv : valueP m.1 f = nilP) (hi : idP m.1 f = .c (.ptr 0 12)) : FnP Tryz.prog 23 [.agg [.ptr 0 0], .c (.int .u8 f), .c (.str s)] (obM m) 1 kp0 (.c (.bool (.sym ((numP s).2)))) (obM (sO m (oI (mOp m) (numP s).1))) 1 := by
  have h1 := place_text m f
  rw [ht] at h1
  have h2 := place_value m f
  rw [hv] at h2
  have h3 := place_id m f
  rw [hi] at h3
  refine fnP noI Tryz.func23 rfl rfl rfl rfl ?_
  conv => whnf
  refine callp0 [0] rfl rfl (h1) rfl rfl rfl rfl rfl ?_
  conv => whnf
  refine callp0 [0] rfl rfl (h2) rfl rfl rfl rfl rfl ?_
  conv => whnf
  refine call1 (console_number s hs) rfl ?_
  conv => whnf
  refine callp0 [0] rfl rfl (h3) rfl rfl rfl rfl rfl ?_
  conv => whnf
  refine ⟨rfl, ?_, ?_, ?_⟩ <;> (repeat' apply And.intro) <;> first | exact trivial | rfl | assumption
theorem read_i14 (m : MD.T) (f : Int) (s : List UInt8) (hs : s.length ≤ 100000) (ht : textP m.1 f = nilP) (hv : valueP m.1 f = nilP) (hi : idP m.1 f = .c (.ptr 0 14)) : FnP Tryz.prog 23 [.agg [.ptr 0 0], .c (.int .u8 f), .c (.str s)] (obM m) 1 kp0 (.c (.bool (.sym ((numP s).2)))) (obM (sO m (oF (mOp m) (numP s).1))) 1 := by
  have h1 := place_text m f
  rw [ht] at h1
  have h2 := place_value m f
  rw [hv] at h2
  have h3 := place_id m f
  rw [hi] at h3
  refine fnP noI Tryz.func23 rfl rfl rfl rfl ?_
  conv => whnf
  refine callp0 [0] rfl rfl (h1) rfl rfl rfl rfl rfl ?_
  conv => whnf
  refine callp0 [0] rfl rfl (h2) rfl rfl rfl rfl rfl ?_
  conv => whnf
  refine call1 (console_number s hs) rfl ?_
  conv => whnf
  refine callp0 [0] rfl rfl (h3) rfl rfl rfl rfl rfl ?_
  conv => whnf
  refine ⟨rfl, ?_, ?_, ?_⟩ <;> (repeat' apply And.intro) <;> first | exact trivial | rfl | assumption
theorem read_i15 (m : MD.T) (f : Int) (s : List UInt8) (hs : s.length ≤ 100000) (ht : textP m.1 f = nilP) (hv : valueP m.1 f = nilP) (hi : idP m.1 f = .c (.ptr 0 15)) : FnP Tryz.prog 23 [.agg [.ptr 0 0], .c (.int .u8 f), .c (.str s)] (obM m) 1 kp0 (.c (.bool (.sym ((numP s).2)))) (obM (sO m (oE (mOp m) (numP s).1))) 1 := by
  have h1 := place_text m f
  rw [ht] at h1
  have h2 := place_value m f
  rw [hv] at h2
  have h3 := place_id m f
  rw [hi] at h3
  refine fnP noI Tryz.func23 rfl rfl rfl rfl ?_
  conv => whnf
  refine callp0 [0] rfl rfl (h1) rfl rfl rfl rfl rfl ?_
  conv => whnf
  refine callp0 [0] rfl rfl (h2) rfl rfl rfl rfl rfl ?_
  conv => whnf
  refine call1 (console_number s hs) rfl ?_
  conv => whnf
  refine callp0 [0] rfl rfl (h3) rfl rfl rfl rfl rfl ?_
  conv => whnf
  refine ⟨rfl, ?_, ?_, ?_⟩ <;> (repeat' apply And.intro) <;> first | exact trivial | rfl | assumption
theorem read_n10 (m : MD.T) (f : Int) (s : List UInt8) (hs : s.length ≤ 100000) (ht : textP m.1 f = nilP) (hv : valueP m.1 f = nilP) (hi : idP m.1 f = nilP) (hn : nP m.1 = .c (.ptr 0 10)) : FnP Tryz.prog 23 [.agg [.ptr 0 0], .c (.int .u8 f), .c (.str s)] (obM m) 1 kp0 (.c (.bool (.sym ((numP s).2)))) (obM (mM m (numP s).1)) 1 := by
  have h1 := place_text m f
  rw [ht] at h1
  have h2 := place_value m f
  rw [hv] at h2
  have h3 := place_id m f
  rw [hi] at h3
  have h4 := place_n m
  rw [hn] at h4
  refine fnP noI Tryz.func23 rfl rfl rfl rfl ?_
  conv => whnf
  refine callp0 [0] rfl rfl (h1) rfl rfl rfl rfl rfl ?_
  conv => whnf
  refine callp0 [0] rfl rfl (h2) rfl rfl rfl rfl rfl ?_
  conv => whnf
  refine call1 (console_number s hs) rfl ?_
  conv => whnf
  refine callp0 [0] rfl rfl (h3) rfl rfl rfl rfl rfl ?_
  conv => whnf
  refine callp0 [0] rfl rfl (h4) rfl rfl rfl rfl rfl ?_
  conv => whnf
  refine ⟨rfl, ?_, ?_, ?_⟩ <;> (repeat' apply And.intro) <;> first | exact trivial | rfl | assumption
theorem read_n27 (m : MD.T) (f : Int) (s : List UInt8) (hs : s.length ≤ 100000) (ht : textP m.1 f = nilP) (hv : valueP m.1 f = nilP) (hi : idP m.1 f = nilP) (hn : nP m.1 = .c (.ptr 0 27)) : FnP Tryz.prog 23 [.agg [.ptr 0 0], .c (.int .u8 f), .c (.str s)] (obM m) 1 kp0 (.c (.bool (.sym ((numP s).2)))) (obM (mR m (rM (mRule m) (numP s).1))) 1 := by
  have h1 := place_text m f
  rw [ht] at h1
  have h2 := place_value m f
  rw [hv] at h2
  have h3 := place_id m f
  rw [hi] at h3
  have h4 := place_n m
  rw [hn] at h4
  refine fnP noI Tryz.func23 rfl rfl rfl rfl ?_
  conv => whnf
  refine callp0 [0] rfl rfl (h1) rfl rfl rfl rfl rfl ?_
  conv => whnf
  refine callp0 [0] rfl rfl (h2) rfl rfl rfl rfl rfl ?_
  conv => whnf
  refine call1 (console_number s hs) rfl ?_
  conv => whnf
  refine callp0 [0] rfl rfl (h3) rfl rfl rfl rfl rfl ?_
  conv => whnf
  refine callp0 [0] rfl rfl (h4) rfl rfl rfl rfl rfl ?_
  conv => whnf
  refine ⟨rfl, ?_, ?_, ?_⟩ <;> (repeat' apply And.intro) <;> first | exact trivial | rfl | assumption
theorem place_read (m : MD.T) (f : Int) (hf : fW f) (s : List UInt8) (hs : s.length ≤ 100000) : FnP Tryz.prog 23 [.agg [.ptr 0 0], .c (.int .u8 f), .c (.str s)] (obM m) 1 kp0 (.c (.bool (.sym (readM m f s).2))) (obM (readM m f s).1) 1 := by
  rcases hf with rfl | rfl | rfl | rfl | rfl | rfl | rfl | rfl | rfl | rfl | rfl
  · by_cases k6 : m.1 = 6
    · rw [show readM m 116 s = (sO m (oT (mOp m) s), !decide (s = [])) by simp [readM, k6]]; exact read_t13 m _ s (by simp [textP, k6])
    · by_cases k16 : m.1 = 16
      · rw [show readM m 116 s = (mR m (rT (mRule m) s), !decide (s = [])) by simp [readM, k6, k16]]; exact read_t23 m _ s (by simp [textP, k6, k16])
      · rw [show readM m 116 s = (mT m s, !decide (s = [])) by simp [readM, k6, k16]]; exact read_t2 m _ s (by simp [textP, k6, k16])
  · by_cases k6 : m.1 = 6
    · rw [show readM m 101 s = (mM m (numP s).1, (numP s).2) by simp [readM, readV, k6]]; exact read_n10 m _ s hs (by simp [textP, k6]) (by simp [valueP, k6]) (by simp [idP, k6]) (by simp [nP, k6])
    · by_cases k16 : m.1 = 16
      · rw [show readM m 101 s = (mR m (rM (mRule m) (numP s).1), (numP s).2) by simp [readM, readV, k6, k16]]; exact read_n27 m _ s hs (by simp [textP, k6, k16]) (by simp [valueP, k6, k16]) (by simp [idP, k6, k16]) (by simp [nP, k6, k16])
      · rw [show readM m 101 s = (mT m s, !decide (s = [])) by simp [readM, k6, k16]]; exact read_t2 m _ s (by simp [textP, k6, k16])
  · by_cases k6 : m.1 = 6
    · rw [show readM m 110 s = (sO m (oN (mOp m) s), !decide (s = [])) by simp [readM, k6]]; exact read_t16 m _ s (by simp [textP, k6])
    · by_cases k16 : m.1 = 16
      · rw [show readM m 110 s = (mR m (rN (mRule m) s), !decide (s = [])) by simp [readM, k6, k16]]; exact read_t24 m _ s (by simp [textP, k6, k16])
      · rw [show readM m 110 s = (mNm m s, !decide (s = [])) by simp [readM, k6, k16]]; exact read_t3 m _ s (by simp [textP, k6, k16])
  · by_cases k6 : m.1 = 6
    · rw [show readM m 105 s = (sO m (oI (mOp m) (numP s).1), (numP s).2) by simp [readM, readV, k6]]; exact read_i12 m _ s hs (by simp [textP, k6]) (by simp [valueP, k6]) (by simp [idP, k6])
    · by_cases k16 : m.1 = 16
      · rw [show readM m 105 s = (mI m (numP s).1, (numP s).2) by simp [readM, readV, k6, k16]]; exact read_i1 m _ s hs (by simp [textP, k6, k16]) (by simp [valueP, k6, k16]) (by simp [idP, k6, k16])
      · rw [show readM m 105 s = (mI m (numP s).1, (numP s).2) by simp [readM, readV, k6, k16]]; exact read_i1 m _ s hs (by simp [textP, k6, k16]) (by simp [valueP, k6, k16]) (by simp [idP, k6, k16])
  · by_cases k6 : m.1 = 6
    · rw [show readM m 118 s = (sO m (oVl (mOp m) (valS s).1), (valS s).2) by simp [readM, readV, k6]]; exact read_v17 m _ s hs (by simp [textP, k6]) (by simp [valueP, k6])
    · by_cases k16 : m.1 = 16
      · rw [show readM m 118 s = (mVl m (valS s).1, (valS s).2) by simp [readM, readV, k6, k16]]; exact read_v4 m _ s hs (by simp [textP, k6, k16]) (by simp [valueP, k6, k16])
      · rw [show readM m 118 s = (mVl m (valS s).1, (valS s).2) by simp [readM, readV, k6, k16]]; exact read_v4 m _ s hs (by simp [textP, k6, k16]) (by simp [valueP, k6, k16])
  · by_cases k6 : m.1 = 6
    · rw [show readM m 119 s = (mW m (valS s).1, (valS s).2) by simp [readM, readV, k6]]; exact read_v7 m _ s hs (by simp [textP, k6]) (by simp [valueP, k6])
    · by_cases k16 : m.1 = 16
      · rw [show readM m 119 s = (mW m (valS s).1, (valS s).2) by simp [readM, readV, k6, k16]]; exact read_v7 m _ s hs (by simp [textP, k6, k16]) (by simp [valueP, k6, k16])
      · rw [show readM m 119 s = (mW m (valS s).1, (valS s).2) by simp [readM, readV, k6, k16]]; exact read_v7 m _ s hs (by simp [textP, k6, k16]) (by simp [valueP, k6, k16])
  · by_cases k6 : m.1 = 6
    · rw [show readM m 107 s = (mM m (numP s).1, (numP s).2) by simp [readM, readV, k6]]; exact read_n10 m _ s hs (by simp [textP, k6]) (by simp [valueP, k6]) (by simp [idP, k6]) (by simp [nP, k6])
    · by_cases k16 : m.1 = 16
      · rw [show readM m 107 s = (mR m (rM (mRule m) (numP s).1), (numP s).2) by simp [readM, readV, k6, k16]]; exact read_n27 m _ s hs (by simp [textP, k6, k16]) (by simp [valueP, k6, k16]) (by simp [idP, k6, k16]) (by simp [nP, k6, k16])
      · rw [show readM m 107 s = (mM m (numP s).1, (numP s).2) by simp [readM, readV, k6, k16]]; exact read_n10 m _ s hs (by simp [textP, k6, k16]) (by simp [valueP, k6, k16]) (by simp [idP, k6, k16]) (by simp [nP, k6, k16])
  · by_cases k6 : m.1 = 6
    · rw [show readM m 102 s = (mM m (numP s).1, (numP s).2) by simp [readM, readV, k6]]; exact read_n10 m _ s hs (by simp [textP, k6]) (by simp [valueP, k6]) (by simp [idP, k6]) (by simp [nP, k6])
    · by_cases k16 : m.1 = 16
      · rw [show readM m 102 s = (mR m (rF (mRule m) s), !decide (s = [])) by simp [readM, k6, k16]]; exact read_t25 m _ s (by simp [textP, k6, k16])
      · rw [show readM m 102 s = (mM m (numP s).1, (numP s).2) by simp [readM, readV, k6, k16]]; exact read_n10 m _ s hs (by simp [textP, k6, k16]) (by simp [valueP, k6, k16]) (by simp [idP, k6, k16]) (by simp [nP, k6, k16])
  · by_cases k6 : m.1 = 6
    · rw [show readM m 103 s = (mM m (numP s).1, (numP s).2) by simp [readM, readV, k6]]; exact read_n10 m _ s hs (by simp [textP, k6]) (by simp [valueP, k6]) (by simp [idP, k6]) (by simp [nP, k6])
    · by_cases k16 : m.1 = 16
      · rw [show readM m 103 s = (mR m (rG (mRule m) s), !decide (s = [])) by simp [readM, k6, k16]]; exact read_t26 m _ s (by simp [textP, k6, k16])
      · rw [show readM m 103 s = (mM m (numP s).1, (numP s).2) by simp [readM, readV, k6, k16]]; exact read_n10 m _ s hs (by simp [textP, k6, k16]) (by simp [valueP, k6, k16]) (by simp [idP, k6, k16]) (by simp [nP, k6, k16])
  · by_cases k6 : m.1 = 6
    · rw [show readM m 97 s = (sO m (oF (mOp m) (numP s).1), (numP s).2) by simp [readM, readV, k6]]; exact read_i14 m _ s hs (by simp [textP, k6]) (by simp [valueP, k6]) (by simp [idP, k6])
    · by_cases k16 : m.1 = 16
      · rw [show readM m 97 s = (sO m (oF (mOp m) (numP s).1), (numP s).2) by simp [readM, readV, k6, k16]]; exact read_i14 m _ s hs (by simp [textP, k6, k16]) (by simp [valueP, k6, k16]) (by simp [idP, k6, k16])
      · rw [show readM m 97 s = (sO m (oF (mOp m) (numP s).1), (numP s).2) by simp [readM, readV, k6, k16]]; exact read_i14 m _ s hs (by simp [textP, k6, k16]) (by simp [valueP, k6, k16]) (by simp [idP, k6, k16])
  · by_cases k6 : m.1 = 6
    · rw [show readM m 98 s = (sO m (oE (mOp m) (numP s).1), (numP s).2) by simp [readM, readV, k6]]; exact read_i15 m _ s hs (by simp [textP, k6]) (by simp [valueP, k6]) (by simp [idP, k6])
    · by_cases k16 : m.1 = 16
      · rw [show readM m 98 s = (sO m (oE (mOp m) (numP s).1), (numP s).2) by simp [readM, readV, k6, k16]]; exact read_i15 m _ s hs (by simp [textP, k6, k16]) (by simp [valueP, k6, k16]) (by simp [idP, k6, k16])
      · rw [show readM m 98 s = (sO m (oE (mOp m) (numP s).1), (numP s).2) by simp [readM, readV, k6, k16]]; exact read_i15 m _ s hs (by simp [textP, k6, k16]) (by simp [valueP, k6, k16]) (by simp [idP, k6, k16])
end Go.Proofs.YtdhfipjfgigamaaGreatDoor.Con
/- The reference's console, in plain Lean. Own work. -/
set_option linter.unusedVariables false
set_option maxRecDepth 100000
namespace Go.Proofs.YtdhfipjfgigamaaGreatDoor.Con
open Go Go.RowKit Go.Lib OE

abbrev tLeast : List UInt8 := [45, 57, 50, 50, 51, 51, 55, 50, 48, 51, 54, 56, 53, 52, 55, 55, 53, 56, 48, 56]
/-- the reference's value of a word -/
def valR (s : List UInt8) : VD.T × Bool :=
  if s = tNone then ((0, 0, []), true)
  else if s = tFalse then ((1, 0, []), true)
  else if s = tTrue then ((1, 1, []), true)
  else if s = tLeast then ((2, -9223372036854775808, []), true)
  else if s = [] then ((0, 0, []), false)
  else if s.head? = some 34 then (if hexB s.tail = true then ((3, 0, unhex s.tail), true) else ((0, 0, []), false))
  else if s.head? = some 45 then ((2, -(numR s.tail), []), decide (0 < numR s.tail))
  else if numR s < 0 then ((0, 0, []), false)
  else ((2, numR s, []), true)
abbrev opM (o : OD.T) : MD.T := sO (m0 6) o
abbrev ruM (r : RD.T) : MD.T := mR (m0 16) r
def twoS (w a : List UInt8) : MD.T × Bool :=
  if w = [115, 97, 118, 101] then (mNm (m0 4) a, true)
  else if w = [98, 97, 99, 107] then (mNm (m0 5) a, true)
  else if w = [110, 111, 100, 101] then (opM (oT (o0 1) a), true)
  else if w = [100, 114, 111, 112] then (opM (oI (o0 2) (numR a)), decide (0 ≤ numR a))
  else if w = [99, 97, 115, 99, 97, 100, 101] then (opM (oC (oI (o0 2) (numR a)) true), decide (0 ≤ numR a))
  else if w = [99, 117, 116] then (opM (oI (o0 4) (numR a)), decide (0 ≤ numR a))
  else if w = [103, 101, 116] then (mI (m0 7) (numR a), decide (0 ≤ numR a))
  else if w = [97, 114, 99] then (mI (m0 8) (numR a), decide (0 ≤ numR a))
  else if w = [111, 117, 116] then (mI (m0 9) (numR a), decide (0 ≤ numR a))
  else if w = [105, 110] then (mI (m0 10) (numR a), decide (0 ≤ numR a))
  else if w = [115, 99, 97, 110] then (mT (m0 11) a, true)
  else if w = [110, 111, 114, 117, 108, 101] then (mM (m0 17) (numR a), decide (0 ≤ numR a))
  else (MD.df, false)
def rule0 (k : Int) : RD.T := (0, k, RD.df.2.2)
def threeS (w a b : List UInt8) : MD.T × Bool :=
  if w = [111, 117, 116] then (mT (mI (m0 9) (numR a)) b, decide (0 ≤ numR a) && !decide (b = []))
  else if w = [105, 110] then (mT (mI (m0 10) (numR a)) b, decide (0 ≤ numR a) && !decide (b = []))
  else if w = [116, 121, 112, 101] then (mM (mT (m0 14) a) (numR b), decide (0 ≤ numR b))
  else if w = [110, 111, 116, 121, 112, 101] then (mM (mT (m0 15) a) (numR b), decide (0 ≤ numR b))
  else if w = [117, 110, 105, 113, 117, 101] then (ruM (rN (rT (rule0 1) a) b), true)
  else if w = [101, 120, 105, 115, 116, 115] then (ruM (rN (rT (rule0 2) a) b), true)
  else if w = [109, 111, 115, 116] then (ruM (rM (rT (rule0 4) a) (numR b)), decide (0 ≤ numR b))
  else if w = [105, 110, 100, 101, 120] then (mNm (mT (m0 18) a) b, true)
  else if w = [110, 111, 105, 110, 100, 101, 120] then (mNm (mT (m0 19) a) b, true)
  else (MD.df, false)
def fourS (w a b c : List UInt8) : MD.T × Bool :=
  if w = [101, 100, 103, 101] then (opM (oE (oF (oT (o0 3) a) (numR b)) (numR c)), decide (0 ≤ numR b) && decide (0 ≤ numR c))
  else if w = [115, 101, 116] then (opM (oVl (oN (oI (o0 5) (numR a)) b) (valR c).1), decide (0 ≤ numR a) && (valR c).2)
  else if w = [102, 105, 110, 100] then (mVl (mNm (mT (m0 12) a) b) (valR c).1, (valR c).2)
  else if w = [101, 110, 100, 115] then (ruM (rG (rF (rT (rule0 3) a) b) c), true)
  else (MD.df, false)
def ofR (ws : List (List UInt8)) : MD.T × Bool := match ws with
  | [w] => if w = [98, 101, 103, 105, 110] then (m0 1, true) else if w = [99, 111, 109, 109, 105, 116] then (m0 2, true) else if w = [97, 98, 111, 114, 116] then (m0 3, true) else if w = [99, 97, 116, 97, 108, 111, 103] then (m0 20, true) else (MD.df, false)
  | [w, a] => twoS w a
  | [w, a, b] => threeS w a b
  | [w, a, b, c] => fourS w a b c
  | [w, a, b, c, d] => if w = [114, 97, 110, 103, 101] then (mW (mVl (mNm (mT (m0 13) a) b) (valR c).1) (valR d).1, (valR c).2 && (valR d).2) else (MD.df, false)
  | _ => (MD.df, false)
def finR (p : MD.T × Bool) : Option MD.T := if p.2 = true ∧ refgood p.1 = true then some p.1 else none
def sp (a b : List UInt8) : List UInt8 := a ++ 32 :: b
def textO (o : OD.T) : List UInt8 :=
  if (o.1 : Int) = 1 then sp [110, 111, 100, 101] o.2.2.1
  else if (o.1 : Int) = 2 then (if o.2.2.2.2.2.2.2 = true then sp [99, 97, 115, 99, 97, 100, 101] (itoa o.2.1) else sp [100, 114, 111, 112] (itoa o.2.1))
  else if (o.1 : Int) = 3 then sp [101, 100, 103, 101] (sp o.2.2.1 (sp (itoa o.2.2.2.1) (itoa o.2.2.2.2.1)))
  else if (o.1 : Int) = 4 then sp [99, 117, 116] (itoa o.2.1)
  else sp [115, 101, 116] (sp (itoa o.2.1) (sp o.2.2.2.2.2.1 (wordV (oV o))))
def textRu (r : RD.T) : List UInt8 :=
  if (r.2.1 : Int) = 1 then sp [117, 110, 105, 113, 117, 101] (sp r.2.2.1 r.2.2.2.1)
  else if (r.2.1 : Int) = 2 then sp [101, 120, 105, 115, 116, 115] (sp r.2.2.1 r.2.2.2.1)
  else if (r.2.1 : Int) = 3 then sp [101, 110, 100, 115] (sp r.2.2.1 (sp r.2.2.2.2.1 r.2.2.2.2.2.1))
  else sp [109, 111, 115, 116] (sp r.2.2.1 (itoa r.2.2.2.2.2.2.1))
/-- the reference's line of a command -/
def textR (m : MD.T) : List UInt8 :=
  if (m.1 : Int) = 1 then [98, 101, 103, 105, 110]
  else if (m.1 : Int) = 2 then [99, 111, 109, 109, 105, 116]
  else if (m.1 : Int) = 3 then [97, 98, 111, 114, 116]
  else if (m.1 : Int) = 20 then [99, 97, 116, 97, 108, 111, 103]
  else if (m.1 : Int) = 4 then sp [115, 97, 118, 101] (mName m)
  else if (m.1 : Int) = 5 then sp [98, 97, 99, 107] (mName m)
  else if (m.1 : Int) = 7 then sp [103, 101, 116] (itoa m.2.1)
  else if (m.1 : Int) = 8 then sp [97, 114, 99] (itoa m.2.1)
  else if (m.1 : Int) = 9 then (if mType m = [] then sp [111, 117, 116] (itoa m.2.1) else sp [111, 117, 116] (sp (itoa m.2.1) (mType m)))
  else if (m.1 : Int) = 10 then (if mType m = [] then sp [105, 110] (itoa m.2.1) else sp [105, 110] (sp (itoa m.2.1) (mType m)))
  else if (m.1 : Int) = 11 then sp [115, 99, 97, 110] (mType m)
  else if (m.1 : Int) = 12 then sp [102, 105, 110, 100] (sp (mType m) (sp (mName m) (wordV (mV m))))
  else if (m.1 : Int) = 13 then sp [114, 97, 110, 103, 101] (sp (mType m) (sp (mName m) (sp (wordV (mV m)) (wordV (mTo m)))))
  else if (m.1 : Int) = 14 then sp [116, 121, 112, 101] (sp (mType m) (itoa (mN m)))
  else if (m.1 : Int) = 15 then sp [110, 111, 116, 121, 112, 101] (sp (mType m) (itoa (mN m)))
  else if (m.1 : Int) = 17 then sp [110, 111, 114, 117, 108, 101] (itoa (mN m))
  else if (m.1 : Int) = 18 then sp [105, 110, 100, 101, 120] (sp (mType m) (mName m))
  else if (m.1 : Int) = 19 then sp [110, 111, 105, 110, 100, 101, 120] (sp (mType m) (mName m))
  else if (m.1 : Int) = 16 then textRu (mRule m)
  else textO (mOp m)

/-! the two agree on values -/
theorem numR_some {s : List UInt8} : 0 ≤ numR s ↔ numOk s = true := by
  unfold numR
  split <;> simp_all
theorem intV_of {s : List UInt8} (h : s.head? ≠ some 45) : intV s = if 0 ≤ numR s then some (numR s) else none := by
  unfold intV numR
  rw [if_neg h]
  by_cases g : numOk s = true
  · rw [if_pos g, if_pos g, if_pos (by omega)]
  · rw [if_neg g, if_neg g, if_neg (by omega)]
theorem pn_of {s : List UInt8} {n : Int} (h : intV s = some n) : pn s = n := by
  obtain ⟨h1, h2⟩ := intV_parse s
  unfold pn
  cases hp : parseIntB 64 s with
  | ok k =>
    obtain ⟨g1, g2, g3⟩ := intV_some h
    rw [← g1, parse_itoa g2 g3] at hp
    cases hp; rfl
  | _ =>
    have := h2 (by intro k hk; rw [hp] at hk; cases hk)
    rw [h] at this; cases this
theorem val_eq (s : List UInt8) : (valS s).2 = (valR s).2 ∧ ((valS s).2 = true → (valS s).1 = (valR s).1) := by
  unfold valS valR
  by_cases h1 : s = tNone
  · rw [if_pos h1, if_pos h1]; exact ⟨rfl, fun _ => rfl⟩
  rw [if_neg h1, if_neg h1]
  by_cases h2 : s = tFalse
  · rw [if_pos h2, if_pos h2]; exact ⟨rfl, fun _ => rfl⟩
  rw [if_neg h2, if_neg h2]
  by_cases h3 : s = tTrue
  · rw [if_pos h3, if_pos h3]; exact ⟨rfl, fun _ => rfl⟩
  rw [if_neg h3, if_neg h3]
  by_cases h4 : s = tLeast
  · have hi : intV s = some (-9223372036854775808) := by subst h4; decide
    rw [if_pos h4, if_neg (by subst h4; decide), hi, pn_of hi]; exact ⟨rfl, fun _ => rfl⟩
  rw [if_neg h4]
  by_cases h5 : s = []
  · have hi : intV s = none := by subst h5; decide
    rw [if_pos h5, if_neg (by subst h5; decide), hi]; exact ⟨rfl, fun h => by cases h⟩
  rw [if_neg h5]
  by_cases h6 : s.head? = some 34
  · rw [if_pos h6, if_pos h6]; exact ⟨rfl, fun _ => rfl⟩
  rw [if_neg h6, if_neg h6]
  by_cases h7 : s.head? = some 45
  · rw [if_pos h7]
    have hi : intV s = if 0 < numR s.tail then some (-(numR s.tail)) else none := by
      unfold intV
      rw [if_pos h7]
      cases s with
      | nil => cases h7
      | cons c t =>
        have hc : c = 45 := by simpa using h7
        subst hc
        rw [List.tail_cons]
        unfold numR numOk
        by_cases hp : numPre t = true
        · by_cases hl : valD t < 9223372036854775808
          · rw [hp, decide_eq_true hl]
            by_cases hz : valD t = 0
            · rw [if_neg (by simp [hz])]; simp [hz]
            · rw [if_pos ⟨rfl, hz, by omega⟩]; simp; omega
          · rw [hp, decide_eq_false hl]
            by_cases he : valD t = 9223372036854775808
            · exfalso
              apply h4
              have := dec_canon hp
              rw [he] at this
              rw [← this]
              have : decDigits 9223372036854775808 = [57, 50, 50, 51, 51, 55, 50, 48, 51, 54, 56, 53, 52, 55, 55, 53, 56, 48, 56] := by decide +kernel
              rw [this]
            · rw [if_neg (by omega)]; simp
        · rw [if_neg (fun h => hp h.1)]
          simp [hp]
    rw [hi]
    by_cases hn : 0 < numR s.tail
    · rw [if_pos hn, decide_eq_true hn]
      rw [if_pos hn] at hi
      exact ⟨rfl, fun _ => by rw [pn_of hi]⟩
    · rw [if_neg hn, decide_eq_false hn]; exact ⟨rfl, fun h => by cases h⟩
  rw [if_neg h7, intV_of h7]
  by_cases h8 : numR s < 0
  · rw [if_pos h8, if_neg (by omega)]; exact ⟨rfl, fun h => by cases h⟩
  · rw [if_neg h8, if_pos (by omega)]
    refine ⟨rfl, fun _ => ?_⟩
    rw [pn_of (n := numR s) (by rw [intV_of h7, if_pos (by omega)])]
end Go.Proofs.YtdhfipjfgigamaaGreatDoor.Con
