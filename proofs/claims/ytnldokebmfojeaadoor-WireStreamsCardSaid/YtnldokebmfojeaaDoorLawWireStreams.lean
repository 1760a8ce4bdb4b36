/- The walk of the law WireStreams. Own work. -/
import Derived.Test.YtnldokebmfojeaaDoorLawWireBack
import Derived.Test.YtnldokebmfojeaaDoorWireRefNext
set_option linter.unusedVariables false
set_option maxRecDepth 100000
namespace Go.Proofs.YtnldokebmfojeaaDoor
open Go Go.RowKit OE

theorem keep_Mod (k n : Int) (h0 : 0 < n) (h1 : n ≤ 1000000) : FnD Tryd.prog 21 [.c (.int .i64 k), .c (.int .i64 n)] (· = .c (.int .i64 (k % n))) := by
  have e1 : -n < k.tmod n ∧ k.tmod n < n := ⟨Int.lt_tmod_of_pos k h0, Int.tmod_lt_of_pos k h0⟩
  have e2 : IntKind.wrap .i64 (k.tmod n + n) = k.tmod n + n := wr64 _ (by omega) (by omega)
  have e3 : (k.tmod n + n).tmod n = k % n := by
    rw [Int.tmod_eq_emod_of_nonneg (by omega)]
    have : k.tmod n = k - n * k.tdiv n := by have := Int.tmod_add_mul_tdiv k n; omega
    rw [this, Int.add_emod_right]
    rw [show k - n * k.tdiv n = k + n * (-k.tdiv n) by rw [Int.mul_neg]; omega, Int.add_mul_emod_self_left]
  refine fn0 Tryd.func21 rfl rfl rfl ?_
  conv => whnf
  refine fk (decide_eq_false (by omega)) ?_
  conv => whnf
  refine ⟨by omega, ?_⟩
  conv => whnf
  refine ⟨by omega, ?_⟩
  conv => whnf
  rw [e2, e3]

/-! the bytes of a command are no more than a message holds -/
theorem flat_lenM {P : Int → List UInt8 × Bool} {B : Nat} : ∀ l : List UInt8, (∀ f ∈ l, (P f.toNat).1.length ≤ B) → (l.flatMap fun f => (P f.toNat).1).length ≤ l.length * B
  | [], _ => by simp
  | f :: l, h => by
    have ih := flat_lenM l fun f hf => h f (List.mem_cons_of_mem _ hf)
    have h1 := h f List.mem_cons_self
    simp only [List.flatMap_cons, List.length_append, List.length_cons, Nat.add_mul, Nat.one_mul]
    omega
theorem allS_lenM {P : Int → List UInt8 × Bool} {B : Nat} (k : Int) (l : List UInt8) (h : ∀ f ∈ l, (P f.toNat).1.length ≤ B) : (allS P k l).1.length ≤ 1 + l.length * B := by
  unfold allS
  split
  · have := flat_lenM l h
    rw [List.length_append]
    show 1 + _ ≤ _
    omega
  · exact Nat.zero_le _
theorem putM_lenF {m : MD.T} (h : SmC m) (f : Int) (hf : fM f) (ho : f ≠ 111) : (putM m f).1.length ≤ 1040 := by
  generalize hr : putM m f = r
  unfold putM at hr
  repeat' split at hr
  all_goals subst hr
  all_goals first | exact Nat.le_trans (txS_len h.ty) (by decide) | exact Nat.le_trans (txS_len h.nm) (by decide) | exact Nat.le_trans (nuS_len _ _ _) (by decide) | exact vaS_len h.v | exact vaS_len h.to | exact Nat.le_trans (encS_144 _) (by decide) | skip
  exfalso
  rcases hf with h | h | h | h | h | h | h | h | h | h | h <;> first | exact ho h | (rename_i h1 h2 h3 h4 h5 h6 h7 h8; subst h; first | exact absurd rfl (by assumption) | (simp at *))
theorem cmd_noop : ∀ n : Fin 21, n.1 ≠ 6 → ∀ f ∈ cmdL.getD n.1 [], (f.toNat : Int) ≠ 111 := by decide
theorem cmd_noop' {k : Int} (h1 : 1 ≤ k ∧ k < 21) (h6 : ¬ k = 6) : ∀ f ∈ gt (d := .str) cmdL k, (f.toNat : Int) ≠ 111 :=
  cmd_noop ⟨k.toNat, by omega⟩ (by dsimp only; omega)
theorem bytM_len8 {m : MD.T} (h : SmC m) : (bytM m).1.length ≤ 8192 := by
  unfold bytM
  split
  · exact Nat.zero_le _
  rename_i hk
  have hk : 1 ≤ (m.1 : Int) ∧ (m.1 : Int) < 21 := by
    have : knownM m.1 = true := by cases hh : knownM m.1 with | true => rfl | false => exact (hk hh).elim
    simpa [knownM] using this
  generalize m.1 = k at hk
  by_cases h6 : k = 6
  · subst h6
    refine Nat.le_trans (allS_len (putM_len h) _ _) ?_
    show 1 + [111].length * 4000 ≤ 8192
    decide
  · refine Nat.le_trans (allS_lenM (B := 1040) _ _ fun f hf => ?_) ?_
    · refine putM_lenF h _ ((cmd_ok k).2 f hf) ?_
      exact cmd_noop' hk h6 f hf
    · have := Nat.mul_le_mul_right 1040 (cmd_four k)
      omega

/-! the message with which messages begin; what is cut off -/
theorem nx_put {b : List UInt8} (hb : b.length ≤ 8192) (r : List UInt8) : nextM (Num.putT b ++ r) = (b, ((Num.putT b).length : Int), 0) := by
  have hg := Num.getN_put b.length [] (b ++ r) (by omega)
  rw [nx_some (n := b.length) (k := (Num.putN b.length).length) (by unfold Num.putT; simpa using hg) hb]
  unfold finM Num.putT
  rw [if_neg (by simp only [List.length_append]; omega)]
  simp only [List.append_assoc, List.length_append]
  rw [List.drop_left, List.take_left]
theorem nx_cut {b : List UInt8} (hb : b.length ≤ 8192) {j : Nat} (hj : j < (Num.putT b).length) : nextM ((Num.putT b).take j) = ([], 0, 0) := by
  have hP := Num.putN_len 1 b.length (by show b.length < 16384; omega)
  have hl : (Num.putT b).length = (Num.putN b.length).length + b.length := by unfold Num.putT; rw [List.length_append]
  rcases Nat.lt_or_ge j (Num.putN b.length).length with h | h
  · rcases Nat.lt_or_ge j 1 with h0 | h0
    · have : j = 0 := by omega
      subst this
      exact nx_nil
    · have : j = 1 := by omega
      subst this
      by_cases hn : b.length < 128
      · rw [Num.putN_lt hn] at h; exact absurd h (by simp)
      · unfold Num.putT
        rw [Num.putN_ge (by omega)]
        exact nx_short (by simp; omega)
  · have e : (Num.putT b).take j = Num.putN b.length ++ b.take (j - (Num.putN b.length).length) := by
      unfold Num.putT
      rw [List.take_append, List.take_of_length_le h]
    have hg := Num.getN_put b.length [] (b.take (j - (Num.putN b.length).length)) (by omega)
    rw [e, nx_some (n := b.length) (k := (Num.putN b.length).length) (by simpa using hg) hb]
    unfold finM
    rw [if_pos (by rw [List.length_append, List.length_take]; omega)]
theorem catT_len : ∀ {B : List (List UInt8)}, (∀ b ∈ B, b.length ≤ 8192) → (Num.catT B).length ≤ B.length * 8202
  | [], _ => by simp [Num.catT]
  | b :: B, h => by
    have ih := catT_len (B := B) fun x hx => h x (List.mem_cons_of_mem _ hx)
    have h1 := h b List.mem_cons_self
    have h2 := Num.putN_ten (n := b.length) (by omega)
    have e : Num.catT (b :: B) = Num.putT b ++ Num.catT B := rfl
    rw [e, List.length_append, List.length_cons, Num.putT, List.length_append]
    omega
theorem catT_snoc (B : List (List UInt8)) (b : List UInt8) : Num.catT (B ++ [b]) = Num.catT B ++ Num.putT b := by
  unfold Num.catT; simp
def wsSt (l : List MD.T) (cut : Int) (i : Nat) (B : List (List UInt8)) : List (List UInt8) → St
  | [] => ⟨[(0, .c (.dat MD l)), (1, .c (.int .i64 cut)), (5, .c (.str (Num.catT B))), (6, .c (.val (.slice none 0 0))), (7, .c (.int .i64 i))], [], 0⟩
  | x :: xs => ⟨[(0, .c (.dat MD l)), (1, .c (.int .i64 cut)), (5, .c (.str (Num.catT B))), (6, .c (.row 0)), (7, .c (.int .i64 i))], [(0, .row 9 .str (x :: xs))], 1⟩
def wtSt (B : List (List UInt8)) (cut : Int) (k : Nat) : List (List UInt8) → St
  | [] => ⟨[(1, .c (.int .i64 cut)), (5, .c (.str (Num.catT B))), (6, .c (.val (.slice none 0 0))), (12, .c (.int .i64 (Num.catT (B.take k)).length)), (13, .c (.int .i64 k))], [], 0⟩
  | x :: xs => ⟨[(1, .c (.int .i64 cut)), (5, .c (.str (Num.catT B))), (6, .c (.row 0)), (12, .c (.int .i64 (Num.catT (B.take k)).length)), (13, .c (.int .i64 k))], [(0, .row 9 .str (x :: xs))], 1⟩
theorem cat_drop (p b q : List UInt8) : (p ++ b ++ q).drop p.length = b ++ q := by rw [List.append_assoc, List.drop_left]
theorem cat_cut (p b q : List UInt8) {j : Nat} (h : j ≤ b.length) : ((p ++ b ++ q).take (p.length + j)).drop p.length = b.take j := by
  rw [List.drop_take, cat_drop, show p.length + j - p.length = j by omega, List.take_append_of_le_length h]
theorem row_WireStreams (l : List MD.T) (hl : Wf (.list MD) l) (cut : Int) (hc : (Lit.int .i64 cut).wf = true) :
    FnD Tryd.prog 7 [.c (.dat MD l), .c (.int .i64 cut)] (· = .c (.bool (.sym true))) := by
  refine fn0 Tryd.func7 rfl rfl rfl ?_
  conv => whnf
  intro _
  conv => whnf
  refine ⟨fun a => ?_, fun a => ?_⟩
  · conv => whnf
    refine call1 (wire_wakes) rfl ?_
    conv => whnf
  have h50 : l.length ≤ 50 := by rw [decide_eq_false_iff_not] at a; omega
  conv => whnf
  refine loop0 (α := Nat × List (List UInt8)) (fun p => p.1 ≤ l.length ∧ p.2.length ≤ p.1 ∧ ∀ b ∈ p.2, b.length ≤ 8192) (fun p => wsSt l cut p.1 p.2 p.2) (fun p => 50 - p.1) ⟨(0, []), ⟨by dsimp only; omega, by simp, fun b h => (by cases h)⟩, ?_⟩ ?_
  · (conv => whnf); refine ⟨rfl, ?_, ?_, ?_⟩ <;> (repeat' apply And.intro) <;> first | exact trivial | rfl | exact wr_succ _ (by omega) | assumption | exact decide_eq_false (by assumption) | exact decide_eq_true (by assumption)
  rintro ⟨i, B⟩ ⟨hi, hB, hb⟩
  dsimp only at hi hB hb ⊢
  have hcl := catT_len hb
  cases B with
  | nil =>
    conv => whnf
    intro _
    refine ⟨fun h2 => ?_, fun h2 => ?_⟩
    · have h2 : i < l.length := by simp at h2; omega
      conv => whnf
      try (intro _; conv => whnf)
      refine ⟨by omega, ?_⟩
      rw [gt_nat (d := MD) l i h2]
      conv => whnf
      refine call1 (keep_LargeCmd l[i]) rfl ?_
      conv => whnf
      refine ⟨fun h3 => ?_, fun h3 => ?_⟩
      · conv => whnf
        refine call1 (wire_wakes) rfl ?_
        conv => whnf
      have hs := small_cmd (hl.2 _ (List.getElem_mem h2)) h3
      conv => whnf
      try (intro _; conv => whnf)
      refine ⟨by omega, ?_⟩
      rw [gt_nat (d := MD) l i h2]
      conv => whnf
      refine call1 (wire_Message l[i] hs) rfl ?_
      conv => whnf
      refine ⟨fun h4 => ?_, fun h4 => ?_⟩
      · have h4 : goodM l[i] = true := Decidable.byContradiction fun hg => by rw [show errM l[i] = 11 from if_neg hg] at h4; cases h4
        have hbl := bytM_len8 hs
        have hpl := Num.putN_ten (n := (bytM l[i]).1.length) (by omega)
        have hpp : (Num.putT (bytM l[i]).1).length = (Num.putN (bytM l[i]).1.length).length + (bytM l[i]).1.length := by unfold Num.putT; rw [List.length_append]
        conv => whnf
        try (intro _; conv => whnf)
        refine ⟨by omega, ?_⟩
        rw [gt_nat (d := MD) l i h2]
        conv => whnf
        refine call1 (wire_Encode l[i] hs) rfl ?_
        conv => whnf
        rw [show encM l[i] = (bytM l[i]).1 from if_pos h4, show msgM l[i] = Num.putT (bytM l[i]).1 from if_pos h4]
        refine ⟨by omega, ?_⟩
        conv => whnf
        refine ⟨by show (0 + 1) * 16 ≤ 140737488355328; omega, ?_⟩
        conv => whnf
        have e1 := catT_snoc [] (bytM l[i]).1
        have e2 := e1.symm
        refine ⟨(i + 1, [] ++ [(bytM l[i]).1]), ⟨⟨by dsimp only; omega, by dsimp only; rw [List.length_append]; exact Nat.succ_le_succ hB, ?_⟩, by dsimp only; omega⟩, ?_⟩
        · intro b h
          rcases List.mem_append.1 h with h | h
          · exact hb b h
          · rw [List.mem_singleton.1 h]; exact hbl
        (conv => whnf); refine ⟨rfl, ?_, ?_, ?_⟩ <;> (repeat' apply And.intro) <;> first | exact trivial | rfl | exact wr_succ _ (by omega) | assumption | exact decide_eq_false (by assumption) | exact decide_eq_true (by assumption)
      · conv => whnf
        refine ⟨(i + 1, _), ⟨⟨by dsimp only; omega, Nat.le_trans hB (Nat.le_succ i), hb⟩, by dsimp only; omega⟩, ?_⟩
        (conv => whnf); refine ⟨rfl, ?_, ?_, ?_⟩ <;> (repeat' apply And.intro) <;> first | exact trivial | rfl | exact wr_succ _ (by omega) | assumption | exact decide_eq_false (by assumption) | exact decide_eq_true (by assumption)
    · conv => whnf
      refine loop0 (α := Nat) (fun k => k ≤ ([]).length) (fun k => wtSt [] cut k []) (fun k => 50 - k) ⟨0, by omega, ?_⟩ ?_
      · (conv => whnf); refine ⟨rfl, ?_, ?_, ?_⟩ <;> (repeat' apply And.intro) <;> first | exact trivial | rfl | exact wr_succ _ (by omega) | assumption | exact decide_eq_false (by assumption) | exact decide_eq_true (by assumption)
      intro k hk
      conv => whnf
      refine fk (decide_eq_false (by omega)) ?_
      conv => whnf
      have h6 : k = 0 := Nat.le_zero.1 hk
      subst h6
      refine callg0 (fun _ => wire_wakes) rfl ?_
      conv => whnf
      rfl
  | cons x xs =>
    have hx : (x :: xs).length ≤ 50 := by omega
    conv => whnf
    intro _
    refine ⟨fun h2 => ?_, fun h2 => ?_⟩
    · have h2 : i < l.length := by simp at h2; omega
      conv => whnf
      try (intro _; conv => whnf)
      refine ⟨by omega, ?_⟩
      rw [gt_nat (d := MD) l i h2]
      conv => whnf
      refine call1 (keep_LargeCmd l[i]) rfl ?_
      conv => whnf
      refine ⟨fun h3 => ?_, fun h3 => ?_⟩
      · conv => whnf
        refine call1 (wire_wakes) rfl ?_
        conv => whnf
      have hs := small_cmd (hl.2 _ (List.getElem_mem h2)) h3
      conv => whnf
      try (intro _; conv => whnf)
      refine ⟨by omega, ?_⟩
      rw [gt_nat (d := MD) l i h2]
      conv => whnf
      refine call1 (wire_Message l[i] hs) rfl ?_
      conv => whnf
      refine ⟨fun h4 => ?_, fun h4 => ?_⟩
      · have h4 : goodM l[i] = true := Decidable.byContradiction fun hg => by rw [show errM l[i] = 11 from if_neg hg] at h4; cases h4
        have hbl := bytM_len8 hs
        have hpl := Num.putN_ten (n := (bytM l[i]).1.length) (by omega)
        have hpp : (Num.putT (bytM l[i]).1).length = (Num.putN (bytM l[i]).1.length).length + (bytM l[i]).1.length := by unfold Num.putT; rw [List.length_append]
        conv => whnf
        try (intro _; conv => whnf)
        refine ⟨by omega, ?_⟩
        rw [gt_nat (d := MD) l i h2]
        conv => whnf
        refine call1 (wire_Encode l[i] hs) rfl ?_
        conv => whnf
        rw [show encM l[i] = (bytM l[i]).1 from if_pos h4, show msgM l[i] = Num.putT (bytM l[i]).1 from if_pos h4]
        refine ⟨by omega, ?_⟩
        conv => whnf
        refine ⟨by show ((x :: xs).length + 1) * 16 ≤ 140737488355328; omega, ?_⟩
        conv => whnf
        have e1 := catT_snoc (x :: xs) (bytM l[i]).1
        have e2 := e1.symm
        refine ⟨(i + 1, (x :: xs) ++ [(bytM l[i]).1]), ⟨⟨by dsimp only; omega, by dsimp only; rw [List.length_append]; exact Nat.succ_le_succ hB, ?_⟩, by dsimp only; omega⟩, ?_⟩
        · intro b h
          rcases List.mem_append.1 h with h | h
          · exact hb b h
          · rw [List.mem_singleton.1 h]; exact hbl
        (conv => whnf); refine ⟨rfl, ?_, ?_, ?_⟩ <;> (repeat' apply And.intro) <;> first | exact trivial | rfl | exact wr_succ _ (by omega) | assumption | exact decide_eq_false (by assumption) | exact decide_eq_true (by assumption)
      · conv => whnf
        refine ⟨(i + 1, _), ⟨⟨by dsimp only; omega, Nat.le_trans hB (Nat.le_succ i), hb⟩, by dsimp only; omega⟩, ?_⟩
        (conv => whnf); refine ⟨rfl, ?_, ?_, ?_⟩ <;> (repeat' apply And.intro) <;> first | exact trivial | rfl | exact wr_succ _ (by omega) | assumption | exact decide_eq_false (by assumption) | exact decide_eq_true (by assumption)
    · conv => whnf
      refine loop0 (α := Nat) (fun k => k ≤ ((x :: xs)).length) (fun k => wtSt (x :: xs) cut k (x :: xs)) (fun k => 50 - k) ⟨0, by omega, ?_⟩ ?_
      · (conv => whnf); refine ⟨rfl, ?_, ?_, ?_⟩ <;> (repeat' apply And.intro) <;> first | exact trivial | rfl | exact wr_succ _ (by omega) | assumption | exact decide_eq_false (by assumption) | exact decide_eq_true (by assumption)
      intro k hk
      conv => whnf
      intro _
      refine ⟨fun h6 => ?_, fun h6 => ?_⟩
      · have h6 : k < (x :: xs).length := by simp at h6; simp; omega
        have hsp := Num.catT_split (x :: xs) k h6
        have hkb := hb _ (List.getElem_mem h6)
        have hpl := Num.putN_ten (n := (x :: xs)[k].length) (by omega)
        have hpp : (Num.putT (x :: xs)[k]).length = (Num.putN (x :: xs)[k].length).length + (x :: xs)[k].length := by unfold Num.putT; rw [List.length_append]
        have hpq := Num.putN_pos (x :: xs)[k].length
        have hsc := Num.catT_succ (x :: xs) k h6
        have hsl := congrArg List.length hsp
        rw [List.length_append, List.length_append] at hsl
        have e1 : IntKind.wrap .i64 (((Num.catT ((x :: xs).take k)).length : Int) + ((Num.putT (x :: xs)[k]).length : Int)) = ((Num.catT ((x :: xs).take (k + 1))).length : Int) := by
          rw [wr64 _ (by omega) (by omega), hsc, List.length_append]; omega
        have e2 := e1.symm
        generalize hcp : Num.catT ((x :: xs).take k) = pp at hsp hsc hsl e1 e2
        generalize hcq : Num.catT ((x :: xs).drop (k + 1)) = qq at hsp hsl
        rw [hsp]
        have hm0 : 0 ≤ cut % ((Num.putT (x :: xs)[k]).length : Int) := Int.emod_nonneg _ (by omega)
        have hm1 : cut % ((Num.putT (x :: xs)[k]).length : Int) < ((Num.putT (x :: xs)[k]).length : Int) := Int.emod_lt_of_pos _ (by omega)
        conv => whnf
        refine ⟨by simp only [List.length_append]; omega, ?_⟩
        rw [Int.toNat_natCast, List.take_length, cat_drop]
        conv => whnf
        refine call1 (wire_Next (Num.putT (x :: xs)[k] ++ qq) (by rw [List.length_append]; omega)) rfl ?_
        conv => whnf
        rw [nx_put hkb]
        conv => whnf
        intro _
        conv => whnf
        refine ⟨fun _ => by omega, ?_⟩
        conv => whnf
        refine ⟨fun _ => by omega, ?_⟩
        rw [gt_nat (d := .str) (@List.cons (List UInt8) x xs) k h6]
        conv => whnf
        have hne : Num.putT (x :: xs)[k] ≠ [] := fun h => by rw [h] at hpp; simp at hpp; omega
        refine fk (by simp [hne]) ?_
        conv => whnf
        refine call1 (keep_Mod cut ((Num.putT (x :: xs)[k]).length : Int) (by omega) (by omega)) rfl ?_
        conv => whnf
        rw [show IntKind.wrap .i64 ((pp.length : Int) + cut % ((Num.putT (x :: xs)[k]).length : Int)) = ((pp.length + (cut % ((Num.putT (x :: xs)[k]).length : Int)).toNat : Nat) : Int) by rw [wr64 _ (by omega) (by omega)]; omega]
        conv => whnf
        refine ⟨by simp only [List.length_append]; omega, ?_⟩
        rw [Int.toNat_natCast, Int.toNat_natCast, cat_cut pp (Num.putT (x :: xs)[k]) qq (by omega)]
        conv => whnf
        refine call1 (wire_Next ((Num.putT (x :: xs)[k]).take (cut % ((Num.putT (x :: xs)[k]).length : Int)).toNat) (by rw [List.length_take]; omega)) rfl ?_
        conv => whnf
        rw [nx_cut hkb (by omega)]
        refine fk rfl ?_
        conv => whnf
        refine ⟨k + 1, ⟨by omega, by omega⟩, ?_⟩
        (conv => whnf); refine ⟨rfl, ?_, ?_, ?_⟩ <;> (repeat' apply And.intro) <;> first | exact trivial | rfl | exact wr_succ _ (by omega) | assumption | exact decide_eq_false (by assumption) | exact decide_eq_true (by assumption)
      · have h6 : k = (x :: xs).length := by simp at h6; simp at hk ⊢; omega
        subst h6
        rw [List.take_length]
        conv => whnf
        refine callg0 (fun _ => wire_wakes) rfl ?_
        conv => whnf
        simp
end Go.Proofs.YtnldokebmfojeaaDoor
