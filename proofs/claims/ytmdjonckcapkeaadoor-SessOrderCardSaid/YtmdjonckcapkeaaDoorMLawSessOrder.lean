/- The walk of the law SessOrder. Own work. -/
import Derived.Test.YtmdjonckcapkeaaDoorPart7
/- The walk of the laws' wakes (wire). Own work. -/
set_option linter.unusedVariables false
set_option maxRecDepth 100000
namespace Go.Proofs.YtmdjonckcapkeaaDoor
open Go Go.RowKit OE

theorem keep_Op (v w : OD.T) : FnD Tryd.prog 24 [.agg (oc v), .agg (oc w)] (· = .c (.bool (.sym (OD.eqb v w)))) := by
  refine fn0 Tryd.func24 rfl rfl rfl ?_
  conv => whnf
  refine callg0 (fun _ => keep_Value (oV v) (oV w)) rfl ?_
  conv => whnf
  simp [D.eqb, oV, Bool.and_assoc, Bool.beq_eq_decide_eq]
  rfl
theorem keep_Cmd (v w : MD.T) : FnD Tryd.prog 15 [.agg (mc v), .agg (mc w)] (· = .c (.bool (.sym (MD.eqb v w)))) := by
  refine fn0 Tryd.func15 rfl rfl rfl ?_
  conv => whnf
  refine callg0 (fun _ => keep_Value (mV v) (mV w)) rfl ?_
  conv => whnf
  refine callg0 (fun _ => keep_Value (mTo v) (mTo w)) rfl ?_
  conv => whnf
  refine callg0 (fun _ => keep_Op (mOp v) (mOp w)) rfl ?_
  conv => whnf
  refine callg0 (fun _ => keep_Rule (mRule v) (mRule w)) rfl ?_
  conv => whnf
  simp [D.eqb, mV, mTo, mOp, mRule, Bool.and_assoc]
  rfl
def wW : MD.T := (6, 0, [], [], (0, 0, []), (0, 0, []), 0, (5, 300, [], 0, 0, [97], (1, 1, []), false), RD.df)
def wB : MD.T := (1, MD.df.2)
theorem putN_300 : Num.putN 300 = [172, 2] := by rw [Num.putN_ge (by decide), Num.putN_lt (by decide)]; rfl
theorem putN_1 : Num.putN 1 = [1] := by rw [Num.putN_lt (by decide)]; rfl
theorem wW_bytes : bytM wW = ([6, 5, 172, 2, 1, 97, 1, 1], true) := by
  have h : bytM wW = (byl [6] ++ (byl [5] ++ (Num.putN 300 ++ ((Num.putN 1 ++ [97]) ++ ([1, 1] ++ []))) ++ []), true) := rfl
  rw [h, putN_300, putN_1]
  rfl
theorem wW_read : readS [6, 5, 172, 2, 1, 97, 1, 1] = (wW, true) := by rfl
theorem wW_good : goodM wW = true := by unfold goodM; rw [wW_bytes, wW_read]; rfl
theorem wB_bytes : bytM wB = ([1], true) := rfl
theorem wB_good : goodM wB = true := rfl
theorem wW_sm : SmC wW := ⟨by decide, by decide, wf0, wf0, by decide, by decide, ⟨by decide, by decide, Nat.zero_le _⟩⟩
end Go.Proofs.YtmdjonckcapkeaaDoor
/- The walk of the law WireBack. Own work. -/
set_option linter.unusedVariables false
set_option maxRecDepth 100000
namespace Go.Proofs.YtmdjonckcapkeaaDoor
open Go Go.RowKit OE

def largeOp (o : OD.T) : Bool := decide ((1000 : Int) < o.2.2.1.length) || decide ((1000 : Int) < o.2.2.2.2.2.1.length) || decide ((5000 : Int) < (oV o).2.2.length)
def largeCmd (m : MD.T) : Bool := decide ((1000 : Int) < (mType m).length) || decide ((1000 : Int) < (mName m).length) || decide ((5000 : Int) < (mV m).2.2.length) || decide ((5000 : Int) < (mTo m).2.2.length) || largeOp (mOp m) || largeRule (mRule m)
theorem keep_LargeOp (o : OD.T) : FnD Tryd.prog 27 [.agg (oc o)] (· = .c (.bool (.sym (largeOp o)))) := by
  refine fn0 Tryd.func27 rfl rfl rfl ?_
  conv => whnf
  refine callg0 (fun _ => keep_LargeValue (oV o)) rfl ?_
  conv => whnf
  rfl
theorem keep_LargeCmd (m : MD.T) : FnD Tryd.prog 18 [.agg (mc m)] (· = .c (.bool (.sym (largeCmd m)))) := by
  refine fn0 Tryd.func18 rfl rfl rfl ?_
  conv => whnf
  refine callg0 (fun _ => keep_LargeValue (mV m)) rfl ?_
  conv => whnf
  refine callg0 (fun _ => keep_LargeValue (mTo m)) rfl ?_
  conv => whnf
  refine callg0 (fun _ => keep_LargeOp (mOp m)) rfl ?_
  conv => whnf
  refine callg0 (fun _ => keep_LargeRule (mRule m)) rfl ?_
  conv => whnf
  rfl
theorem small_cmd {m : MD.T} (hm : Wf MD m) (h : largeCmd m = false) : SmC m := by
  simp only [largeCmd, largeOp, Bool.or_eq_false_iff, decide_eq_false_iff_not] at h
  obtain ⟨⟨⟨⟨⟨h1, h2⟩, h3⟩, h4⟩, ⟨⟨h5, h6⟩, h7⟩⟩, h8⟩ := h
  exact ⟨by omega, by omega, hm.2.2.2.2.1, hm.2.2.2.2.2.1, by omega, by omega, hm.2.2.2.2.2.2.2.1.2.2.2.2.2.2.1⟩
theorem eqM_same (m : MD.T) : MD.eqb m m = true := (D.eqb_iff MD m m).2 rfl
/-- what was encoded is decoded as it was -/
theorem back_enc {m : MD.T} (h : goodM m = true) : decOk (bytM m).1 = true ∧ decM (bytM m).1 = m := by
  unfold goodM at h
  simp only [Bool.and_eq_true] at h
  obtain ⟨h1, h2, h3⟩ := h
  have e : (readS (bytM m).1).1 = m := (D.eqb_iff MD _ _).1 h3
  have ho : decOk (bytM m).1 = true := by
    unfold decOk
    rw [e, h1, h2]
    simp
  exact ⟨ho, by unfold decM; rw [if_pos ho, e]⟩
/-- what was decoded is encoded as it stood -/
theorem back_dec {s : List UInt8} (h : decOk s = true) : goodM (decM s) = true ∧ encM (decM s) = s := by
  have hd : decM s = (readS s).1 := by unfold decM; rw [if_pos h]
  unfold decOk at h
  simp only [Bool.and_eq_true, decide_eq_true_eq] at h
  obtain ⟨h1, h2, h3⟩ := h
  have hg : goodM (decM s) = true := by
    rw [hd]; unfold goodM
    rw [h2, h3, h1, eqM_same]; rfl
  exact ⟨hg, by unfold encM; rw [if_pos hg, hd, h3]⟩
end Go.Proofs.YtmdjonckcapkeaaDoor
/- The walk of the law WireStreams. Own work. -/
set_option linter.unusedVariables false
set_option maxRecDepth 100000
namespace Go.Proofs.YtmdjonckcapkeaaDoor
open Go Go.RowKit OE

theorem keep_Mod (k n : Int) (h0 : 0 < n) (h1 : n ≤ 1000000) : FnD Tryd.prog 10 [.c (.int .i64 k), .c (.int .i64 n)] (· = .c (.int .i64 (k % n))) := by
  have e1 : -n < k.tmod n ∧ k.tmod n < n := ⟨Int.lt_tmod_of_pos k h0, Int.tmod_lt_of_pos k h0⟩
  have e2 : IntKind.wrap .i64 (k.tmod n + n) = k.tmod n + n := wr64 _ (by omega) (by omega)
  have e3 : (k.tmod n + n).tmod n = k % n := by
    rw [Int.tmod_eq_emod_of_nonneg (by omega)]
    have : k.tmod n = k - n * k.tdiv n := by have := Int.tmod_add_mul_tdiv k n; omega
    rw [this, Int.add_emod_right]
    rw [show k - n * k.tdiv n = k + n * (-k.tdiv n) by rw [Int.mul_neg]; omega, Int.add_mul_emod_self_left]
  refine fn0 Tryd.func10 rfl rfl rfl ?_
  conv => whnf
  refine fk (decide_eq_false (by omega)) ?_
  conv => whnf
  refine ⟨by omega, ?_⟩
  conv => whnf
  refine ⟨by omega, ?_⟩
  conv => whnf
  rw [e2, e3]

/-! the bytes of a command are no more than a message holds -/
theorem flat_lenM {P : Int → List UInt8 × Bool} {B : Nat} : ∀ l : List UInt8, (∀ f ∈ l, (P f.toNat).1.length ≤ B) → (l.flatMap fun f => (P f.toNat).1).length ≤ l.length * B
  | [], _ => by simp
  | f :: l, h => by
    have ih := flat_lenM l fun f hf => h f (List.mem_cons_of_mem _ hf)
    have h1 := h f List.mem_cons_self
    simp only [List.flatMap_cons, List.length_append, List.length_cons, Nat.add_mul, Nat.one_mul]
    omega
theorem allS_lenM {P : Int → List UInt8 × Bool} {B : Nat} (k : Int) (l : List UInt8) (h : ∀ f ∈ l, (P f.toNat).1.length ≤ B) : (allS P k l).1.length ≤ 1 + l.length * B := by
  unfold allS
  split
  · have := flat_lenM l h
    rw [List.length_append]
    show 1 + _ ≤ _
    omega
  · exact Nat.zero_le _
theorem putM_lenF {m : MD.T} (h : SmC m) (f : Int) (hf : fM f) (ho : f ≠ 111) : (putM m f).1.length ≤ 1040 := by
  generalize hr : putM m f = r
  unfold putM at hr
  repeat' split at hr
  all_goals subst hr
  all_goals first | exact Nat.le_trans (txS_len h.ty) (by decide) | exact Nat.le_trans (txS_len h.nm) (by decide) | exact Nat.le_trans (nuS_len _ _ _) (by decide) | exact vaS_len h.v | exact vaS_len h.to | exact Nat.le_trans (encS_144 _) (by decide) | skip
  exfalso
  rcases hf with h | h | h | h | h | h | h | h | h | h | h <;> first | exact ho h | (rename_i h1 h2 h3 h4 h5 h6 h7 h8; subst h; first | exact absurd rfl (by assumption) | (simp at *))
theorem cmd_noop : ∀ n : Fin 21, n.1 ≠ 6 → ∀ f ∈ cmdL.getD n.1 [], (f.toNat : Int) ≠ 111 := by decide
theorem cmd_noop' {k : Int} (h1 : 1 ≤ k ∧ k < 21) (h6 : ¬ k = 6) : ∀ f ∈ gt (d := .str) cmdL k, (f.toNat : Int) ≠ 111 :=
  cmd_noop ⟨k.toNat, by omega⟩ (by dsimp only; omega)
theorem bytM_len8 {m : MD.T} (h : SmC m) : (bytM m).1.length ≤ 8192 := by
  unfold bytM
  split
  · exact Nat.zero_le _
  rename_i hk
  have hk : 1 ≤ (m.1 : Int) ∧ (m.1 : Int) < 21 := by
    have : knownM m.1 = true := by cases hh : knownM m.1 with | true => rfl | false => exact (hk hh).elim
    simpa [knownM] using this
  generalize m.1 = k at hk
  by_cases h6 : k = 6
  · subst h6
    refine Nat.le_trans (allS_len (putM_len h) _ _) ?_
    show 1 + [111].length * 4000 ≤ 8192
    decide
  · refine Nat.le_trans (allS_lenM (B := 1040) _ _ fun f hf => ?_) ?_
    · refine putM_lenF h _ ((cmd_ok k).2 f hf) ?_
      exact cmd_noop' hk h6 f hf
    · have := Nat.mul_le_mul_right 1040 (cmd_four k)
      omega

/-! the message with which messages begin; what is cut off -/
theorem nx_put {b : List UInt8} (hb : b.length ≤ 8192) (r : List UInt8) : nextM (Num.putT b ++ r) = (b, ((Num.putT b).length : Int), 0) := by
  have hg := Num.getN_put b.length [] (b ++ r) (by omega)
  rw [nx_some (n := b.length) (k := (Num.putN b.length).length) (by unfold Num.putT; simpa using hg) hb]
  unfold finM Num.putT
  rw [if_neg (by simp only [List.length_append]; omega)]
  simp only [List.append_assoc, List.length_append]
  rw [List.drop_left, List.take_left]
theorem nx_cut {b : List UInt8} (hb : b.length ≤ 8192) {j : Nat} (hj : j < (Num.putT b).length) : nextM ((Num.putT b).take j) = ([], 0, 0) := by
  have hP := Num.putN_len 1 b.length (by show b.length < 16384; omega)
  have hl : (Num.putT b).length = (Num.putN b.length).length + b.length := by unfold Num.putT; rw [List.length_append]
  rcases Nat.lt_or_ge j (Num.putN b.length).length with h | h
  · rcases Nat.lt_or_ge j 1 with h0 | h0
    · have : j = 0 := by omega
      subst this
      exact nx_nil
    · have : j = 1 := by omega
      subst this
      by_cases hn : b.length < 128
      · rw [Num.putN_lt hn] at h; exact absurd h (by simp)
      · unfold Num.putT
        rw [Num.putN_ge (by omega)]
        exact nx_short (by simp; omega)
  · have e : (Num.putT b).take j = Num.putN b.length ++ b.take (j - (Num.putN b.length).length) := by
      unfold Num.putT
      rw [List.take_append, List.take_of_length_le h]
    have hg := Num.getN_put b.length [] (b.take (j - (Num.putN b.length).length)) (by omega)
    rw [e, nx_some (n := b.length) (k := (Num.putN b.length).length) (by simpa using hg) hb]
    unfold finM
    rw [if_pos (by rw [List.length_append, List.length_take]; omega)]
theorem catT_len : ∀ {B : List (List UInt8)}, (∀ b ∈ B, b.length ≤ 8192) → (Num.catT B).length ≤ B.length * 8202
  | [], _ => by simp [Num.catT]
  | b :: B, h => by
    have ih := catT_len (B := B) fun x hx => h x (List.mem_cons_of_mem _ hx)
    have h1 := h b List.mem_cons_self
    have h2 := Num.putN_ten (n := b.length) (by omega)
    have e : Num.catT (b :: B) = Num.putT b ++ Num.catT B := rfl
    rw [e, List.length_append, List.length_cons, Num.putT, List.length_append]
    omega
theorem catT_snoc (B : List (List UInt8)) (b : List UInt8) : Num.catT (B ++ [b]) = Num.catT B ++ Num.putT b := by
  unfold Num.catT; simp
def wsSt (l : List MD.T) (cut : Int) (i : Nat) (B : List (List UInt8)) : List (List UInt8) → St
  | [] => ⟨[(0, .c (.dat MD l)), (1, .c (.int .i64 cut)), (5, .c (.str (Num.catT B))), (6, .c (.val (.slice none 0 0))), (7, .c (.int .i64 i))], [], 0⟩
  | x :: xs => ⟨[(0, .c (.dat MD l)), (1, .c (.int .i64 cut)), (5, .c (.str (Num.catT B))), (6, .c (.row 0)), (7, .c (.int .i64 i))], [(0, .row 9 .str (x :: xs))], 1⟩
def wtSt (B : List (List UInt8)) (cut : Int) (k : Nat) : List (List UInt8) → St
  | [] => ⟨[(1, .c (.int .i64 cut)), (5, .c (.str (Num.catT B))), (6, .c (.val (.slice none 0 0))), (12, .c (.int .i64 (Num.catT (B.take k)).length)), (13, .c (.int .i64 k))], [], 0⟩
  | x :: xs => ⟨[(1, .c (.int .i64 cut)), (5, .c (.str (Num.catT B))), (6, .c (.row 0)), (12, .c (.int .i64 (Num.catT (B.take k)).length)), (13, .c (.int .i64 k))], [(0, .row 9 .str (x :: xs))], 1⟩
theorem cat_drop (p b q : List UInt8) : (p ++ b ++ q).drop p.length = b ++ q := by rw [List.append_assoc, List.drop_left]
theorem cat_cut (p b q : List UInt8) {j : Nat} (h : j ≤ b.length) : ((p ++ b ++ q).take (p.length + j)).drop p.length = b.take j := by
  rw [List.drop_take, cat_drop, show p.length + j - p.length = j by omega, List.take_append_of_le_length h]
end Go.Proofs.YtmdjonckcapkeaaDoor
set_option linter.unusedVariables false
set_option maxRecDepth 100000
namespace Go.Proofs.YtmdjonckcapkeaaDoor
open Go Go.RowKit OE

theorem eqm_same (m : MD.T) : MD.eqb m m = true := (D.eqb_iff MD m m).2 rfl
theorem ans_some {a : Ss} {r : Ans.AD.T} (h : 0 < a.q.length) (g : Ans.goodA r = true) : (ansS a r).2 = 0 ∧ (ansS a r).1.inp = a.inp ∧ (ansS a r).1.q = a.q.tail ∧ (ansS a r).1.cl = a.cl ∧ (ansS a r).1.out = a.out ++ Num.putT (Ans.encA r) := by
  obtain ⟨e1, e2⟩ := ans_ab a r
  have hn : ¬ a.ab.L = [] := fun e => by
    have : a.q = [] := e
    rw [this] at h
    exact absurd h (by decide)
  unfold ansR at e1 e2
  rw [if_neg hn, if_pos g] at e1 e2
  exact ⟨e2, congrArg Rs.inp e1, congrArg Rs.L e1, congrArg Rs.cl e1, congrArg Rs.out e1⟩
theorem lenN (n i : Int) : (Num.putT (Ans.encA (rN n i))).length ≤ 100 := by
  have h : Ans.encA (rN n i) = Num.putN (Ans.u64 n) ++ Num.putN (Ans.u64 i) ++ Num.putN 0 ++ Num.putN 0 ++ [] ++ Num.putN 0 ++ [] ++ Num.putN 0 ++ [] ++ (Num.putN 0 ++ []) := by rfl
  have h1 := Num.putN_ten (Ans.wrap_u64 n).2
  have h2 := Num.putN_ten (Ans.wrap_u64 i).2
  have h0 := Num.putN_ten (n := 0) (by decide)
  have hl : (Ans.encA (rN n i)).length ≤ 80 := by
    rw [h]
    simp only [List.length_append, List.length_nil]
    omega
  have := Num.putN_ten (n := (Ans.encA (rN n i)).length) (by omega)
  unfold Num.putT
  rw [List.length_append]
  omega
theorem feed_msg {a : Ss} {m : MD.T} (hm : SmC m) (g : goodM m = true) (h1 : a.inp = []) (h2 : a.cl = false) (h3 : a.q.length < 64) :
    (feedS a (Num.putT (bytM m).1)).inp = [] ∧ (feedS a (Num.putT (bytM m).1)).q = a.q ++ [m] ∧ (feedS a (Num.putT (bytM m).1)).cl = false ∧ (feedS a (Num.putT (bytM m).1)).out = a.out := by
  have e := feed_ab a (Num.putT (bytM m).1)
  have ea : a.ab = ⟨[], a.q, a.out, false⟩ := by unfold Ss.ab; rw [h1, h2]
  obtain ⟨d1, d2⟩ := back_enc g
  have hx := nx_put (bytM_len8 hm) []
  rw [List.append_nil] at hx
  generalize (bytM m).1 = b at e hx d1 d2
  have hp : 0 < (Num.putT b).length := by
    unfold Num.putT
    rw [List.length_append]
    have : Num.putN b.length ≠ [] := by
      intro h
      rw [Num.putN] at h
      split at h <;> cases h
    have := List.length_pos_iff.2 this
    omega
  have e1 : nx1 (Num.putT b) = b := by unfold nx1; rw [hx]
  have e2 : nx2 (Num.putT b) = ((Num.putT b).length : Int) := by unfold nx2; rw [hx]
  have e3 : nx3 (Num.putT b) = 0 := by unfold nx3; rw [hx]
  have key : feedR ⟨[], a.q, a.out, false⟩ (Num.putT b) = ⟨[], a.q ++ [m], a.out, false⟩ := by
    show run ⟨Num.putT b, a.q, a.out, false⟩ = _
    rw [run_eq, if_neg, if_neg (by show ¬ nx2 (Num.putT b) = 0; rw [e2]; omega)]
    · have et : takeR ⟨Num.putT b, a.q, a.out, false⟩ = ⟨[], a.q ++ [m], a.out, false⟩ := by
        unfold takeR
        dsimp only
        rw [e1, e2, d2, Int.toNat_natCast, List.drop_length]
      rw [et, run_eq, if_neg, if_pos]
      · rfl
      · unfold badR
        rw [show nx3 ([] : List UInt8) = 0 from rfl, show nx2 ([] : List UInt8) = 0 from rfl]
        simp
    · unfold badR
      dsimp only
      rw [e2, e3, decide_eq_false (show ¬ a.q.length = 64 by omega)]
      simp
  rw [ea, key] at e
  exact ⟨congrArg Rs.inp e, congrArg Rs.L e, congrArg Rs.cl e, congrArg Rs.out e⟩
theorem msg_pos {m : MD.T} (g : goodM m = true) : msgM m = Num.putT (bytM m).1 := by
  exact if_pos g
theorem keep_same (m : MD.T) : FnD Tryd.prog 15 [.agg (mc m), .agg (mc m)] (· = .c (.bool .tt)) :=
  (keep_Cmd m m).res fun r hr w ok v hv => by
    subst hr
    rw [eqm_same] at hv
    exact hv
theorem row_SessOrder (l : List MD.T) (hl : Wf (.list MD) l) :
    FnD Tryd.prog 6 [.c (.dat MD l)] (· = .c (.bool (.sym true))) := by
  refine fn0 Tryd.func6 rfl rfl rfl ?_
  conv => whnf
  refine callp0 [] rfl rfl (sess_New) rfl rfl rfl rfl rfl ?_
  conv => whnf
  intro _
  conv => whnf
  refine ⟨fun z => ?_, fun z => ?_⟩
  · conv => whnf
    refine call1 (sess_wakes) rfl ?_
    conv => whnf
  have h60 : l.length ≤ 60 := by have z : decide ((60 : Int) < l.length) = false := z; rw [decide_eq_false_iff_not] at z; omega
  conv => whnf
  refine loop0 (α := Nat × List MD.T × Ss) (fun p => p.1 ≤ l.length ∧ p.2.1.length ≤ p.1 ∧ p.2.2.inp = [] ∧ p.2.2.q = p.2.1 ∧ p.2.2.cl = false ∧ p.2.2.out = []) (fun p => ⟨[(0, .c (.dat MD l)), (3, .c (.ptr 0 0)), (4, .c (.row 2)), (5, .c (.int .i64 p.1))], [(0, .cells sT (scs p.2.2)), (1, .chan 64 MD p.2.2.xs p.2.2.s p.2.2.r), (2, .row 36 MD p.2.1)], 3⟩) (fun p => l.length - p.1) ⟨(0, [], S0), ⟨Nat.zero_le _, Nat.le_refl _, rfl, rfl, rfl, rfl⟩, ?_⟩ ?_
  · (conv => whnf); refine ⟨rfl, ?_, ?_, ?_⟩ <;> (repeat' apply And.intro) <;> first | exact trivial | rfl | exact wr_succ _ (by omega) | assumption | exact decide_eq_false (by assumption) | exact decide_eq_true (by assumption)
  rintro ⟨i, good, a⟩ ⟨hi, hg, h1, h2, h3, h4⟩
  dsimp only at hi hg h1 h2 h3 h4 ⊢
  conv => whnf
  intro _
  conv => whnf
  refine ⟨fun z2 => ?_, fun z2 => ?_⟩
  · have z2 : i < l.length := by rw [decide_eq_true_eq] at z2; omega
    conv => whnf
    try (intro _; conv => whnf)
    refine ⟨by omega, ?_⟩
    rw [gt_nat (d := MD) l i z2]
    conv => whnf
    refine call1 (keep_LargeCmd l[i]) rfl ?_
    conv => whnf
    refine ⟨fun b => ?_, fun b => ?_⟩
    · conv => whnf
      refine call1 (sess_wakes) rfl ?_
      conv => whnf
    have hs := small_cmd (hl.2 _ (List.getElem_mem z2)) b
    conv => whnf
    try (intro _; conv => whnf)
    refine ⟨by omega, ?_⟩
    rw [gt_nat (d := MD) l i z2]
    conv => whnf
    refine call1 (wire_Message l[i] hs) rfl ?_
    conv => whnf
    by_cases g : goodM l[i] = true
    · rw [show errM l[i] = 0 from if_pos g, show msgM l[i] = Num.putT (bytM l[i]).1 from msg_pos g]
      obtain ⟨g1, g2, g3, g4⟩ := feed_msg hs g h1 h3 (by rw [h2]; omega)
      have hb8 := bytM_len8 hs
      have hpt := Ans.putT_len (bytM l[i]).1 (by omega)
      refine tk rfl ?_
      conv => whnf
      refine callp0 [0, 1] rfl rfl (sess_Feed a (Num.putT (bytM l[i]).1) (by rw [h1]; show 0 + _ ≤ _; omega) (by rw [h2]; omega)) rfl rfl rfl rfl rfl ?_
      conv => whnf
      try (intro _; conv => whnf)
      refine ⟨by omega, ?_⟩
      rw [gt_nat (d := MD) l i z2]
      conv => whnf
      refine ⟨by show (good.length + 1) * 320 ≤ 140737488355328; omega, ?_⟩
      conv => whnf
      refine ⟨(i + 1, good ++ [l[i]], feedS a (Num.putT (bytM l[i]).1)), ⟨⟨by dsimp only; omega, by dsimp only; rw [List.length_append]; show good.length + 1 ≤ _; omega, g1, by dsimp only; rw [g2, h2], g3, by dsimp only; rw [g4, h4]⟩, by dsimp only; omega⟩, ?_⟩
      (conv => whnf); refine ⟨rfl, ?_, ?_, ?_⟩ <;> (repeat' apply And.intro) <;> first | exact trivial | rfl | exact wr_succ _ (by omega) | assumption | exact decide_eq_false (by assumption) | exact decide_eq_true (by assumption)
    · rw [show errM l[i] = 11 from if_neg g]
      refine fk rfl ?_
      conv => whnf
      refine ⟨(i + 1, good, a), ⟨⟨by dsimp only; omega, by dsimp only; omega, h1, h2, h3, h4⟩, by dsimp only; omega⟩, ?_⟩
      (conv => whnf); refine ⟨rfl, ?_, ?_, ?_⟩ <;> (repeat' apply And.intro) <;> first | exact trivial | rfl | exact wr_succ _ (by omega) | assumption | exact decide_eq_false (by assumption) | exact decide_eq_true (by assumption)
  have hg60 : good.length ≤ 60 := by omega
  clear z2 hi hg
  conv => whnf
  refine fzl 2 rfl ?_
  conv => whnf
  refine loop0 (α := Nat × List UInt8 × Ss) (fun p => p.1 ≤ good.length ∧ p.2.2.q = good.drop p.1 ∧ p.2.2.cl = false ∧ p.2.2.out = p.2.1 ∧ p.2.1.length ≤ 100 * p.1) (fun p => ⟨[(3, .c (.ptr 0 0)), (4, .c (.dat MD good)), (8, .c (.str p.2.1)), (9, .c (.int .i64 p.1))], hpS p.2.2, 2⟩) (fun p => good.length - p.1) ⟨(0, [], a), ⟨Nat.zero_le _, h2, h3, h4, Nat.zero_le _⟩, ?_⟩ ?_
  · (conv => whnf); refine ⟨rfl, ?_, ?_, ?_⟩ <;> (repeat' apply And.intro) <;> first | exact trivial | rfl | exact wr_succ _ (by omega) | assumption | exact decide_eq_false (by assumption) | exact decide_eq_true (by assumption)
  clear h1 h2 h3 h4
  rintro ⟨j, want, a⟩ ⟨hj, h2, h3, h4, h5⟩
  dsimp only at hj h2 h3 h4 h5 ⊢
  conv => whnf
  intro _
  conv => whnf
  refine ⟨fun z3 => ?_, fun z3 => ?_⟩
  · have z3 : j < good.length := by rw [decide_eq_true_eq] at z3; omega
    conv => whnf
    refine callp0 [0, 1] rfl rfl (sess_Head a) rfl rfl rfl rfl rfl ?_
    conv => whnf
    have hdq : a.q.headD MD.df = good[j] := by rw [h2, List.drop_eq_getElem_cons z3]; rfl
    have eT := head_thereL a
    have hne : ¬ a.ab.L = [] := by
      rw [show a.ab.L = a.q from rfl, h2, List.drop_eq_getElem_cons z3]
      exact List.cons_ne_nil _ _
    have hA := head_ab a
    rw [head_hd a, hdq]
    rw [decide_eq_false hne] at eT
    generalize headS a = a' at eT hA
    have x1 : a'.q = a.q := congrArg Rs.L hA
    have x2 : a'.out = a.out := congrArg Rs.out hA
    have x3 : a'.cl = a.cl := congrArg Rs.cl hA
    have gd : Ans.goodA (rN j j) = true := rN_good j j (by omega) (by omega) (by omega) (by omega)
    have hw := rN_wf j j (lit_ok j (by omega) (by omega)) (lit_ok j (by omega) (by omega))
    have hlen := lenN (j : Int) (j : Int)
    obtain ⟨g1, g2, g3, g4, g5⟩ := ans_some (a := a') (r := rN j j) (by rw [x1, h2, List.length_drop]; omega) gd
    refine call1 ((Ans.ans_Message (rN j j) hw (Nat.zero_le _)).args fun w ok => ⟨nilRep, trivial⟩) rfl ?_
    conv => whnf
    rw [show Ans.errA (rN j j) = 0 from if_pos gd, show Ans.msgA (rN j j) = Num.putT (Ans.encA (rN j j)) from if_pos gd]
    have eT : a'.there = true := eT
    refine ⟨weaken (st := ⟨[(3, .c (.ptr 0 0)), (4, .c (.dat MD good)), (8, .c (.str want)), (9, .c (.int .i64 j)), (10, .c (.ptr 2 0)), (11, .c (.bool .tt)), (12, .c (.ptr 3 0)), (13, .c (.str (Num.putT (Ans.encA (rN j j))))), (14, .c (.int .i64 0))],
      [(0, .cells sT (scs a')), (1, .chan 64 MD a'.xs a'.s a'.r), (2, .cells 36 (mc good[j])), (3, .cells 51 (anC j j))], 4⟩) ?_ (go0 ?_)⟩
    · (conv => whnf); refine ⟨rfl, ?_, ?_, ?_⟩ <;> (repeat' apply And.intro) <;> first | exact trivial | rfl | exact eT.symm | assumption
    conv => whnf
    refine any0 ?_
    conv => whnf
    try (intro _; conv => whnf)
    refine ⟨by omega, ?_⟩
    rw [gt_nat (d := MD) good j z3]
    conv => whnf
    refine callr0 (keep_same good[j]) rfl ?_
    conv => whnf
    refine callrp0 [0, 1] rfl rfl rfl (sess_AnswerN a' j j hw (by rw [x2, h4]; omega)) rfl rfl rfl rfl rfl rfl [] rfl rfl ?_
    conv => whnf
    rw [g1]
    refine ⟨.inl (by kernel_rfl), after0 ?_⟩
    conv => whnf
    refine ⟨fun h => absurd h (by decide), fun _ => ?_⟩
    conv => whnf
    refine ⟨by omega, ?_⟩
    conv => whnf
    refine ⟨(j + 1, want ++ Num.putT (Ans.encA (rN j j)), (ansS a' (rN j j)).1), ⟨⟨by dsimp only; omega, by dsimp only; rw [g3, x1, h2, List.tail_drop], by rw [g4, x3]; exact h3, by dsimp only; rw [g5, x2, h4], by dsimp only; rw [List.length_append]; omega⟩, by dsimp only; omega⟩, ?_⟩
    (conv => whnf); refine ⟨rfl, ?_, ?_, ?_⟩ <;> (repeat' apply And.intro) <;> first | exact trivial | rfl | exact wr_succ _ (by omega) | assumption | exact decide_eq_false (by assumption) | exact decide_eq_true (by assumption)
  have z3 : j = good.length := by rw [decide_eq_false_iff_not] at z3; omega
  have hnil : a.q = [] := by rw [h2, z3, List.drop_length]
  have hx : ({ a with out := [] } : Ss).xs.length ≤ 64 := by
    have h := q_len a
    rw [hnil] at h
    have h : 0 = a.xs.length + (if a.there = true then 1 else 0) := h
    show a.xs.length ≤ 64
    omega
  conv => whnf
  refine callp0 [0, 1] rfl rfl (sess_Take a) rfl rfl rfl rfl rfl ?_
  conv => whnf
  rw [h4]
  refine ⟨fun e1 => ?_, fun e1 => ?_⟩
  · conv => whnf
    refine callp0 [0, 1] rfl rfl (sess_Waiting { a with out := [] } hx) rfl rfl rfl rfl rfl ?_
    conv => whnf
    rw [show ({ a with out := [] } : Ss).q = a.q from rfl, hnil]
    refine ⟨fun e2 => ?_, fun e2 => ?_⟩
    · conv => whnf
      refine callp0 [0, 1] rfl rfl (sess_Closed { a with out := [] }) rfl rfl rfl rfl rfl ?_
      conv => whnf
      refine callg0 (fun _ => sess_wakes) rfl ?_
      conv => whnf
      rw [show ({ a with out := [] } : Ss).cl = false from h3]
      rfl
    · exact absurd e2 (by decide)
  · simp at e1
end Go.Proofs.YtmdjonckcapkeaaDoor
