/- The walk of the law SessPlays. Own work. -/
import Derived.Test.YtmdjonckcapkeaaGreatDoorPart8
set_option linter.unusedVariables false
set_option maxRecDepth 100000
namespace Go.Proofs.YtmdjonckcapkeaaGreatDoor
open Go Go.RowKit OE

/-- a call: its kind, bytes, a reply -/
abbrev TD : D := .pair (.int .i64) (.pair .str Ans.AD)
def unfair (x : TD.T) : Bool := decide ((20000 : Int) < x.2.1.length) || Ans.largeA x.2.2
theorem eqm_same (m : MD.T) : MD.eqb m m = true := (D.eqb_iff MD m m).2 rfl
theorem law_fair (l : List TD.T) : FnD Tryz.prog 5 [.c (.dat TD l)] (· = .c (.bool (.sym (!l.any unfair && decide ((l.length : Int) ≤ 100))))) := by
  refine fn0 Tryz.func5 rfl rfl rfl ?_
  conv => whnf
  refine loop0 (α := Nat) (fun i => i ≤ l.length ∧ (l.drop i).any unfair = l.any unfair) (fun i => ⟨[(0, .c (.dat TD l)), (3, .c (.int .i64 i))], [], 0⟩) (fun i => l.length - i) ⟨0, ⟨by omega, rfl⟩, ?_⟩ ?_
  · (conv => whnf); refine ⟨rfl, ?_, ?_, ?_⟩ <;> (repeat' apply And.intro) <;> first | exact trivial | rfl | exact wr_succ _ (by omega) | assumption | exact decide_eq_false (by assumption) | exact decide_eq_true (by assumption)
  rintro i ⟨hI1, hI2⟩
  conv => whnf
  intro _
  conv => whnf
  refine ⟨fun h2 => ?_, fun h2 => ?_⟩
  · have h2 : i < l.length := by rw [decide_eq_true_eq] at h2; omega
    rw [any_step h2] at hI2
    conv => whnf
    try (intro _; conv => whnf)
    refine ⟨by omega, ?_⟩
    rw [gt_nat (d := TD) l i h2]
    conv => whnf
    try (intro _; conv => whnf)
    refine ⟨fun _ => by omega, ?_⟩
    rw [gt_nat (d := TD) l i h2]
    conv => whnf
    refine callg0 (fun _ => Ans.law_Large l[i].2.2) rfl ?_
    conv => whnf
    refine ⟨fun h3 => ?_, fun h3 => ?_⟩
    · have : unfair l[i] = true := h3
      rw [← hI2, this]
      conv => whnf
      rfl
    · have : unfair l[i] = false := h3
      conv => whnf
      refine ⟨i + 1, ⟨⟨by omega, by rw [← hI2, this, Bool.false_or]⟩, by omega⟩, ?_⟩
      (conv => whnf); refine ⟨rfl, ?_, ?_, ?_⟩ <;> (repeat' apply And.intro) <;> first | exact trivial | rfl | exact wr_succ _ (by omega) | assumption | exact decide_eq_false (by assumption) | exact decide_eq_true (by assumption)
  rw [any_end (by rw [decide_eq_false_iff_not] at h2; omega)] at hI2
  rw [← hI2]
  conv => whnf
  intro _
  conv => whnf
  rfl
/-! bounds -/
theorem fR_bd : ∀ (n : Nat) (p : Rs), p.L.length ≤ 64 → (fR n p).L.length ≤ 64 ∧ (fR n p).inp.length ≤ p.inp.length ∧ (fR n p).out = p.out
  | 0, p, h => ⟨h, Nat.le_refl _, rfl⟩
  | n + 1, p, h => by
    unfold fR
    split
    · exact ⟨h, Nat.zero_le _, rfl⟩
    split
    · exact ⟨h, Nat.le_refl _, rfl⟩
    · rename_i hB h0
      have hbd := nx_bd p.inp
      have hx2 : ¬ p.L.length = 64 := by
        intro e
        apply hB
        unfold badR
        rw [decide_eq_true e, decide_eq_true (show 0 < nx2 p.inp by omega)]
        simp
      have hi : (takeR p).inp.length = p.inp.length - (nx2 p.inp).toNat := by show (p.inp.drop _).length = _; rw [List.length_drop]
      have hlq : (takeR p).L.length = p.L.length + 1 := by show (p.L ++ [_]).length = _; rw [List.length_append]; rfl
      obtain ⟨h1, h2, h3⟩ := fR_bd n (takeR p) (by omega)
      exact ⟨h1, by omega, h3⟩
theorem feedR_bd (p : Rs) (d : List UInt8) (h : p.L.length ≤ 64) : (feedR p d).L.length ≤ 64 ∧ (feedR p d).inp.length ≤ p.inp.length + d.length ∧ (feedR p d).out = p.out := by
  unfold feedR
  split
  · exact ⟨h, by omega, rfl⟩
  · obtain ⟨h1, h2, h3⟩ := fR_bd (({ p with inp := p.inp ++ d } : Rs).inp.length + 1) { p with inp := p.inp ++ d } h
    refine ⟨h1, Nat.le_trans h2 ?_, h3⟩
    show (p.inp ++ d).length ≤ _
    rw [List.length_append]
    omega
theorem ansR_bd (p : Rs) (r : Ans.AD.T) (hw : Wf Ans.AD r) : (ansR p r).1.L.length ≤ p.L.length ∧ (ansR p r).1.inp = p.inp ∧ (ansR p r).1.out.length ≤ p.out.length + 100000010 := by
  unfold ansR
  split
  · exact ⟨Nat.le_refl _, rfl, by dsimp only; omega⟩
  split
  · rename_i g
    have hl2 := Ans.putT_len (Ans.encA r) (by have := Ans.encA_len hw g; omega)
    have hl3 := Ans.encA_len hw g
    refine ⟨?_, rfl, ?_⟩
    · show p.L.tail.length ≤ _
      rw [List.length_tail]
      omega
    · show (p.out ++ _).length ≤ _
      rw [List.length_append]
      omega
  · exact ⟨Nat.le_refl _, rfl, by dsimp only; omega⟩
theorem xs_le {a : Ss} (h : a.q.length ≤ 64) : a.xs.length ≤ 64 := by
  rw [q_len] at h
  omega
abbrev kI (l : List TD.T) (p : Nat × Ss) : Prop := p.1 ≤ l.length ∧ p.2.ab.L.length ≤ 64 ∧ p.2.ab.inp.length ≤ 20000 * p.1 ∧ p.2.ab.out.length ≤ 100000020 * p.1
abbrev kσ (l : List TD.T) (p : Nat × Ss) : St := ⟨[(0, .c (.dat TD l)), (3, .c (.ptr 0 0)), (4, .c (.ptr 2 0)), (5, .c (.int .i64 p.1))], [(0, .cells sT (scs p.2)), (1, .chan 64 MD p.2.xs p.2.s p.2.r), (2, .cells rT (rcs p.2.ab))], 3⟩
theorem row_SessPlays (l : List TD.T) (hl : Wf (.list TD) l) :
    FnD Tryz.prog 3 [.c (.dat TD l)] (· = .c (.bool (.sym true))) := by
  refine fn0 Tryz.func3 rfl rfl rfl ?_
  conv => whnf
  refine callp0 [] rfl rfl (sess_New) rfl rfl rfl rfl rfl ?_
  conv => whnf
  refine call1 (law_fair l) rfl ?_
  conv => whnf
  refine ⟨fun f => ?_, fun f => ?_⟩
  · conv => whnf
    refine call1 (sess_wakes) rfl ?_
    conv => whnf
  have f : (!(!l.any unfair && decide ((l.length : Int) ≤ 100))) = false := f
  have f2 : l.any unfair = false ∧ (l.length : Int) ≤ 100 := by simpa using f
  obtain ⟨f1, f3⟩ := f2
  have f1 : ∀ x ∈ l, unfair x = false := by simpa [List.any_eq_false] using f1
  conv => whnf
  refine loop0 (α := Nat × Ss) (kI l) (kσ l) (fun p => l.length - p.1) ⟨(0, S0), ⟨Nat.zero_le _, Nat.zero_le _, Nat.le_refl _, Nat.le_refl _⟩, ?_⟩ ?_
  · (conv => whnf); refine ⟨rfl, ?_, ?_, ?_⟩ <;> (repeat' apply And.intro) <;> first | exact trivial | rfl | exact wr_succ _ (by omega) | assumption | exact decide_eq_false (by assumption) | exact decide_eq_true (by assumption)
  rintro ⟨i, a⟩ ⟨hi, hq, hin, ho⟩
  dsimp only at hi hq hin ho ⊢
  conv => whnf
  intro _
  conv => whnf
  refine ⟨fun z => ?_, fun z => ?_⟩
  · have z : i < l.length := by rw [decide_eq_true_eq] at z; omega
    conv => whnf
    try (intro _; conv => whnf)
    refine ⟨by omega, ?_⟩
    rw [gt_nat (d := TD) l i z]
    conv => whnf
    have hx := f1 l[i] (List.getElem_mem z)
    have hwx := hl.2 l[i] (List.getElem_mem z)
    generalize l[i] = x at hx hwx ⊢
    obtain ⟨k, d, r⟩ := x
    have hx : (decide ((20000 : Int) < d.length) || Ans.largeA r) = false := hx
    rw [Bool.or_eq_false_iff, decide_eq_false_iff_not] at hx
    obtain ⟨hd, hr⟩ := hx
    have hwr : Wf Ans.AD r := hwx.2.2
    refine ⟨fun k0 => ?_, fun k0 => ?_⟩
    · conv => whnf
      refine callp0 [0, 1] rfl rfl (sess_Feed a d (by have hin : a.inp.length ≤ 20000 * i := hin; omega) hq) rfl rfl rfl rfl rfl ?_
      conv => whnf
      refine callp0 [2] rfl rfl (ref26_Feed a.ab d (by have hin : a.inp.length ≤ 20000 * i := hin; show a.inp.length + d.length ≤ _; omega) hq) rfl rfl rfl rfl rfl ?_
      conv => whnf
      have e := feed_ab a d
      obtain ⟨bq, bi, bo⟩ := feedR_bd a.ab d hq
      rw [← e] at bq bi bo ⊢
      have bo : (feedS a d).ab.out.length ≤ a.ab.out.length + 100000010 := by rw [bo]; omega
      have bi : (feedS a d).ab.inp.length ≤ a.ab.inp.length + 20000 := by omega
      generalize feedS a d = b at *
      refine callp0 [0, 1] rfl rfl (sess_Head b) rfl rfl rfl rfl rfl ?_
      conv => whnf
      have eT := head_thereL b
      have eA := head_ab b
      rw [head_hd b, show b.q = b.ab.L from rfl, ← eA]
      rw [← eA] at eT bq bi bo
      clear e
      generalize headS b = b' at eT eA bq bi bo ⊢
      clear eA
      refine callp0 [2] rfl rfl (ref26_Head b'.ab) rfl rfl rfl rfl rfl ?_
      conv => whnf
      refine call1 (keep_Cmd (b'.ab.L.headD MD.df) (b'.ab.L.headD MD.df)) rfl ?_
      conv => whnf
      refine ⟨fun c1 => ?_, fun c1 => ?_⟩
      · have c1 : (!MD.eqb (b'.ab.L.headD MD.df) (b'.ab.L.headD MD.df) || !(b'.there == !decide (b'.ab.L = []))) = true := c1
        rw [eqm_same, eT] at c1
        simp at c1
      clear c1
      conv => whnf
      refine callp0 [0, 1] rfl rfl (sess_Waiting b' (xs_le bq)) rfl rfl rfl rfl rfl ?_
      conv => whnf
      refine callp0 [2] rfl rfl (ref26_Waiting b'.ab) rfl rfl rfl rfl rfl ?_
      conv => whnf
      refine ⟨fun c2 => ?_, fun c2 => ?_⟩
      · have c2 : (!decide ((b'.ab.L.length : Int) = b'.ab.L.length)) = true := c2
        simp at c2
      clear c2
      conv => whnf
      refine callp0 [0, 1] rfl rfl (sess_Closed b') rfl rfl rfl rfl rfl ?_
      conv => whnf
      refine callp0 [2] rfl rfl (ref26_Closed b'.ab) rfl rfl rfl rfl rfl ?_
      conv => whnf
      refine ⟨fun c3 => ?_, fun c3 => ?_⟩
      · have c3 : (!(b'.cl == b'.cl)) = true := c3
        simp at c3
      clear c3
      conv => whnf
      refine callp0 [0, 1] rfl rfl (sess_Held b') rfl rfl rfl rfl rfl ?_
      conv => whnf
      refine callp0 [2] rfl rfl (ref26_Held b'.ab) rfl rfl rfl rfl rfl ?_
      conv => whnf
      refine ⟨fun c4 => ?_, fun c4 => ?_⟩
      · have c4 : (!decide ((b'.ab.inp.length : Int) = b'.ab.inp.length)) = true := c4
        simp at c4
      clear c4
      conv => whnf
      refine ⟨(i + 1, b'), ⟨⟨by dsimp only; omega, bq, by dsimp only; omega, by dsimp only; omega⟩, by dsimp only; omega⟩, ?_⟩
      (conv => whnf); refine ⟨rfl, ?_, ?_, ?_⟩ <;> (repeat' apply And.intro) <;> first | exact trivial | rfl | exact wr_succ _ (by omega) | assumption | exact decide_eq_false (by assumption) | exact decide_eq_true (by assumption)
    conv => whnf
    refine ⟨fun k1 => ?_, fun k1 => ?_⟩
    · conv => whnf
      refine any0 ?_
      conv => whnf
      refine callrp0 [0, 1] rfl rfl rfl (sess_Answer a r hwr (Ans.smallA hr).c3 (by have ho : a.out.length ≤ 100000020 * i := ho; omega)) rfl rfl rfl rfl rfl rfl [] rfl rfl ?_
      conv => whnf
      refine callrp0 [2] rfl rfl rfl (ref26_Answer a.ab r hwr (by omega)) rfl rfl rfl rfl rfl rfl [] rfl rfl ?_
      conv => whnf
      have e := (ans_ab a r).1
      rw [← (ans_ab a r).1, ← (ans_ab a r).2]
      obtain ⟨bq, bi, bo⟩ := ansR_bd a.ab r hwr
      rw [← e] at bq bi bo
      have bq : (ansS a r).1.ab.L.length ≤ 64 := by omega
      have bi : (ansS a r).1.ab.inp.length ≤ a.ab.inp.length + 20000 := by rw [bi]; omega
      generalize (ansS a r).1 = b at *
      refine ⟨.inl (by kernel_rfl), after0 ?_⟩
      conv => whnf
      refine ⟨fun c0 => ?_, fun c0 => ?_⟩
      · have c0 : (!decide ((ansS a r).2 = (ansS a r).2)) = true := c0
        simp at c0
      clear c0
      conv => whnf
      refine callp0 [0, 1] rfl rfl (sess_Head b) rfl rfl rfl rfl rfl ?_
      conv => whnf
      have eT := head_thereL b
      have eA := head_ab b
      rw [head_hd b, show b.q = b.ab.L from rfl, ← eA]
      rw [← eA] at eT bq bi bo
      clear e
      generalize headS b = b' at eT eA bq bi bo ⊢
      clear eA
      refine callp0 [2] rfl rfl (ref26_Head b'.ab) rfl rfl rfl rfl rfl ?_
      conv => whnf
      refine call1 (keep_Cmd (b'.ab.L.headD MD.df) (b'.ab.L.headD MD.df)) rfl ?_
      conv => whnf
      refine ⟨fun c1 => ?_, fun c1 => ?_⟩
      · have c1 : (!MD.eqb (b'.ab.L.headD MD.df) (b'.ab.L.headD MD.df) || !(b'.there == !decide (b'.ab.L = []))) = true := c1
        rw [eqm_same, eT] at c1
        simp at c1
      clear c1
      conv => whnf
      refine callp0 [0, 1] rfl rfl (sess_Waiting b' (xs_le bq)) rfl rfl rfl rfl rfl ?_
      conv => whnf
      refine callp0 [2] rfl rfl (ref26_Waiting b'.ab) rfl rfl rfl rfl rfl ?_
      conv => whnf
      refine ⟨fun c2 => ?_, fun c2 => ?_⟩
      · have c2 : (!decide ((b'.ab.L.length : Int) = b'.ab.L.length)) = true := c2
        simp at c2
      clear c2
      conv => whnf
      refine callp0 [0, 1] rfl rfl (sess_Closed b') rfl rfl rfl rfl rfl ?_
      conv => whnf
      refine callp0 [2] rfl rfl (ref26_Closed b'.ab) rfl rfl rfl rfl rfl ?_
      conv => whnf
      refine ⟨fun c3 => ?_, fun c3 => ?_⟩
      · have c3 : (!(b'.cl == b'.cl)) = true := c3
        simp at c3
      clear c3
      conv => whnf
      refine callp0 [0, 1] rfl rfl (sess_Held b') rfl rfl rfl rfl rfl ?_
      conv => whnf
      refine callp0 [2] rfl rfl (ref26_Held b'.ab) rfl rfl rfl rfl rfl ?_
      conv => whnf
      refine ⟨fun c4 => ?_, fun c4 => ?_⟩
      · have c4 : (!decide ((b'.ab.inp.length : Int) = b'.ab.inp.length)) = true := c4
        simp at c4
      clear c4
      conv => whnf
      refine ⟨(i + 1, b'), ⟨⟨by dsimp only; omega, bq, by dsimp only; omega, by dsimp only; omega⟩, by dsimp only; omega⟩, ?_⟩
      (conv => whnf); refine ⟨rfl, ?_, ?_, ?_⟩ <;> (repeat' apply And.intro) <;> first | exact trivial | rfl | exact wr_succ _ (by omega) | assumption | exact decide_eq_false (by assumption) | exact decide_eq_true (by assumption)
    conv => whnf
    refine ⟨fun k2 => ?_, fun k2 => ?_⟩
    · conv => whnf
      refine callp0 [0, 1] rfl rfl (sess_Take a) rfl rfl rfl rfl rfl ?_
      conv => whnf
      refine callp0 [2] rfl rfl (ref26_Take a.ab) rfl rfl rfl rfl rfl ?_
      conv => whnf
      refine ⟨fun c0 => ?_, fun c0 => ?_⟩
      · have c0 : (!decide (a.out = a.out)) = true := c0
        simp at c0
      clear c0
      have e : ({ a with out := [] } : Ss).ab = { a.ab with out := [] } := rfl
      rw [← e]
      have bq : ({ a with out := [] } : Ss).ab.L.length ≤ 64 := hq
      have bi : ({ a with out := [] } : Ss).ab.inp.length ≤ a.ab.inp.length + 20000 := Nat.le_add_right _ _
      have bo : ({ a with out := [] } : Ss).ab.out.length ≤ a.ab.out.length + 100000010 := Nat.zero_le _
      generalize ({ a with out := [] } : Ss) = b at *
      conv => whnf
      refine callp0 [0, 1] rfl rfl (sess_Head b) rfl rfl rfl rfl rfl ?_
      conv => whnf
      have eT := head_thereL b
      have eA := head_ab b
      rw [head_hd b, show b.q = b.ab.L from rfl, ← eA]
      rw [← eA] at eT bq bi bo
      clear e
      generalize headS b = b' at eT eA bq bi bo ⊢
      clear eA
      refine callp0 [2] rfl rfl (ref26_Head b'.ab) rfl rfl rfl rfl rfl ?_
      conv => whnf
      refine call1 (keep_Cmd (b'.ab.L.headD MD.df) (b'.ab.L.headD MD.df)) rfl ?_
      conv => whnf
      refine ⟨fun c1 => ?_, fun c1 => ?_⟩
      · have c1 : (!MD.eqb (b'.ab.L.headD MD.df) (b'.ab.L.headD MD.df) || !(b'.there == !decide (b'.ab.L = []))) = true := c1
        rw [eqm_same, eT] at c1
        simp at c1
      clear c1
      conv => whnf
      refine callp0 [0, 1] rfl rfl (sess_Waiting b' (xs_le bq)) rfl rfl rfl rfl rfl ?_
      conv => whnf
      refine callp0 [2] rfl rfl (ref26_Waiting b'.ab) rfl rfl rfl rfl rfl ?_
      conv => whnf
      refine ⟨fun c2 => ?_, fun c2 => ?_⟩
      · have c2 : (!decide ((b'.ab.L.length : Int) = b'.ab.L.length)) = true := c2
        simp at c2
      clear c2
      conv => whnf
      refine callp0 [0, 1] rfl rfl (sess_Closed b') rfl rfl rfl rfl rfl ?_
      conv => whnf
      refine callp0 [2] rfl rfl (ref26_Closed b'.ab) rfl rfl rfl rfl rfl ?_
      conv => whnf
      refine ⟨fun c3 => ?_, fun c3 => ?_⟩
      · have c3 : (!(b'.cl == b'.cl)) = true := c3
        simp at c3
      clear c3
      conv => whnf
      refine callp0 [0, 1] rfl rfl (sess_Held b') rfl rfl rfl rfl rfl ?_
      conv => whnf
      refine callp0 [2] rfl rfl (ref26_Held b'.ab) rfl rfl rfl rfl rfl ?_
      conv => whnf
      refine ⟨fun c4 => ?_, fun c4 => ?_⟩
      · have c4 : (!decide ((b'.ab.inp.length : Int) = b'.ab.inp.length)) = true := c4
        simp at c4
      clear c4
      conv => whnf
      refine ⟨(i + 1, b'), ⟨⟨by dsimp only; omega, bq, by dsimp only; omega, by dsimp only; omega⟩, by dsimp only; omega⟩, ?_⟩
      (conv => whnf); refine ⟨rfl, ?_, ?_, ?_⟩ <;> (repeat' apply And.intro) <;> first | exact trivial | rfl | exact wr_succ _ (by omega) | assumption | exact decide_eq_false (by assumption) | exact decide_eq_true (by assumption)
    conv => whnf
    have e : a.ab = a.ab := rfl
    obtain ⟨b, hb⟩ : ∃ b, b = a := ⟨_, rfl⟩
    rw [← hb] at hq ⊢
    have bq := hq
    have bi : b.ab.inp.length ≤ a.ab.inp.length + 20000 := by rw [hb]; omega
    have bo : b.ab.out.length ≤ a.ab.out.length + 100000010 := by rw [hb]; omega
    refine callp0 [0, 1] rfl rfl (sess_Head b) rfl rfl rfl rfl rfl ?_
    conv => whnf
    have eT := head_thereL b
    have eA := head_ab b
    rw [head_hd b, show b.q = b.ab.L from rfl, ← eA]
    rw [← eA] at eT bq bi bo
    clear e
    generalize headS b = b' at eT eA bq bi bo ⊢
    clear eA
    refine callp0 [2] rfl rfl (ref26_Head b'.ab) rfl rfl rfl rfl rfl ?_
    conv => whnf
    refine call1 (keep_Cmd (b'.ab.L.headD MD.df) (b'.ab.L.headD MD.df)) rfl ?_
    conv => whnf
    refine ⟨fun c1 => ?_, fun c1 => ?_⟩
    · have c1 : (!MD.eqb (b'.ab.L.headD MD.df) (b'.ab.L.headD MD.df) || !(b'.there == !decide (b'.ab.L = []))) = true := c1
      rw [eqm_same, eT] at c1
      simp at c1
    clear c1
    conv => whnf
    refine callp0 [0, 1] rfl rfl (sess_Waiting b' (xs_le bq)) rfl rfl rfl rfl rfl ?_
    conv => whnf
    refine callp0 [2] rfl rfl (ref26_Waiting b'.ab) rfl rfl rfl rfl rfl ?_
    conv => whnf
    refine ⟨fun c2 => ?_, fun c2 => ?_⟩
    · have c2 : (!decide ((b'.ab.L.length : Int) = b'.ab.L.length)) = true := c2
      simp at c2
    clear c2
    conv => whnf
    refine callp0 [0, 1] rfl rfl (sess_Closed b') rfl rfl rfl rfl rfl ?_
    conv => whnf
    refine callp0 [2] rfl rfl (ref26_Closed b'.ab) rfl rfl rfl rfl rfl ?_
    conv => whnf
    refine ⟨fun c3 => ?_, fun c3 => ?_⟩
    · have c3 : (!(b'.cl == b'.cl)) = true := c3
      simp at c3
    clear c3
    conv => whnf
    refine callp0 [0, 1] rfl rfl (sess_Held b') rfl rfl rfl rfl rfl ?_
    conv => whnf
    refine callp0 [2] rfl rfl (ref26_Held b'.ab) rfl rfl rfl rfl rfl ?_
    conv => whnf
    refine ⟨fun c4 => ?_, fun c4 => ?_⟩
    · have c4 : (!decide ((b'.ab.inp.length : Int) = b'.ab.inp.length)) = true := c4
      simp at c4
    clear c4
    conv => whnf
    refine ⟨(i + 1, b'), ⟨⟨by dsimp only; omega, bq, by dsimp only; omega, by dsimp only; omega⟩, by dsimp only; omega⟩, ?_⟩
    (conv => whnf); refine ⟨rfl, ?_, ?_, ?_⟩ <;> (repeat' apply And.intro) <;> first | exact trivial | rfl | exact wr_succ _ (by omega) | assumption | exact decide_eq_false (by assumption) | exact decide_eq_true (by assumption)
  conv => whnf
  refine callp0 [0, 1] rfl rfl (sess_Take a) rfl rfl rfl rfl rfl ?_
  conv => whnf
  refine callp0 [2] rfl rfl (ref26_Take a.ab) rfl rfl rfl rfl rfl ?_
  conv => whnf
  refine callg0 (fun _ => sess_wakes) rfl ?_
  conv => whnf
  rw [show decide (a.out = a.ab.out) = true from decide_eq_true rfl]
  rfl
end Go.Proofs.YtmdjonckcapkeaaGreatDoor
