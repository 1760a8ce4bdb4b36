/- Several texts of the proof, one behind the other; put together by a program of the session (mrg.py). Own work. -/
import Derived.Test.YtmdjonckcapkeaaGreatDoorPart6
/- The walks of answer.id, empty, Good and of the reference's. Own work. -/
set_option linter.unusedVariables false
set_option maxRecDepth 100000
namespace Go.Proofs.YtmdjonckcapkeaaGreatDoor.Ans
open Go Go.RowKit OE

def okId (n : Int) : Bool := decide (0 ≤ n) && decide (n ≤ 4611686018427387903)
def idsS (l : List Int) : Bool := l.all okId
theorem ids_take {l : List Int} {i : Nat} (h : i < l.length) : (l.take (i + 1)).all okId = ((l.take i).all okId && okId l[i]) := by
  rw [List.take_add_one, List.all_append, List.getElem?_eq_getElem h]
  simp
theorem ans_id (l : List Int) : FnD Tryz.prog 84 [.c (.dat LD l)] (· = .c (.bool (.sym (idsS l)))) := by
  refine fn0 Tryz.func84 rfl rfl rfl ?_
  conv => whnf
  intro hlen
  conv => whnf
  refine loop0 (α := Nat) (fun i => i ≤ l.length ∧ (l.take i).all okId = true) (fun i => ⟨[(5, .c (.dat LD l)), (6, .c (.int .i64 l.length)), (7, .c (.int .i64 i))], [], 0⟩) (fun i => l.length - i) ⟨0, ⟨by omega, by simp⟩, ?_⟩ ?_
  · (conv => whnf); refine ⟨rfl, ?_, ?_, ?_⟩ <;> (repeat' apply And.intro) <;> first | exact trivial | rfl | exact wr_succ _ (by omega) | assumption | exact decide_eq_false (by assumption) | exact decide_eq_true (by assumption)
  rintro i ⟨hi, hI⟩
  conv => whnf
  refine ⟨fun h2 => ?_, fun h2 => ?_⟩
  · have h2 : i < l.length := by rw [decide_eq_true_eq] at h2; omega
    conv => whnf
    try (intro _; conv => whnf)
    refine ⟨by omega, ?_⟩
    rw [gt_nat (d := LD) l i h2]
    conv => whnf
    refine ⟨fun h3 => ?_, fun h3 => ?_⟩
    · have h3 : okId l[i] = false := by
        rw [Bool.or_eq_true, decide_eq_true_eq, decide_eq_true_eq] at h3
        unfold okId
        rcases h3 with h | h
        · rw [decide_eq_false (Int.not_le.2 h)]; rfl
        · rw [decide_eq_false (Int.not_le.2 h), Bool.and_false]
      have : idsS l = false := by
        unfold idsS
        rw [List.all_eq_false]
        exact ⟨l[i], List.getElem_mem h2, by rw [h3]; decide⟩
      rw [this]
      conv => whnf
    have h3 : okId l[i] = true := by
      rw [Bool.or_eq_false_iff, decide_eq_false_iff_not, decide_eq_false_iff_not] at h3
      unfold okId
      rw [decide_eq_true (Int.not_lt.1 h3.1), decide_eq_true (Int.not_lt.1 h3.2)]; rfl
    conv => whnf
    refine ⟨i + 1, ⟨⟨by omega, by rw [ids_take h2, hI, h3]; rfl⟩, by omega⟩, ?_⟩
    (conv => whnf); refine ⟨rfl, ?_, ?_, ?_⟩ <;> (repeat' apply And.intro) <;> first | exact trivial | rfl | exact wr_succ _ (by omega) | assumption | exact decide_eq_false (by assumption) | exact decide_eq_true (by assumption)
  · have h2 : l.length ≤ i := by rw [decide_eq_false_iff_not] at h2; omega
    rw [show idsS l = true by rw [List.take_of_length_le h2] at hI; exact hI]
    conv => whnf
/-- a reply: code, Id, rule, nodes, edges, Ids, catalog -/
abbrev AD : D := .pair (.int .i64) (.pair (.int .i64) (.pair (.int .i64) (.pair (.list ND) (.pair (.list ED) (.pair (.list LD) CD)))))
abbrev ac (r : AD.T) : List C := [.int .i64 r.1, .int .i64 r.2.1, .int .i64 r.2.2.1, .dat ND r.2.2.2.1, .dat ED r.2.2.2.2.1, .dat LD r.2.2.2.2.2.1, .dat .str r.2.2.2.2.2.2.1, .dat .str r.2.2.2.2.2.2.2.1, .dat RD r.2.2.2.2.2.2.2.2.1, .dat ID r.2.2.2.2.2.2.2.2.2.1, .int .i64 r.2.2.2.2.2.2.2.2.2.2]
def aC (r : AD.T) : CD.T := r.2.2.2.2.2.2
def emptyC (c : CD.T) : Bool := decide (c.2.2.2.2 = 0) && decide (c.1.length + c.2.1.length + c.2.2.1.length + c.2.2.2.1.length = 0)
theorem sum4 (a b c d : Nat) (h1 : a ≤ 140737488351232) (h2 : b ≤ 140737488351232) (h3 : c ≤ 140737488351232) (h4 : d ≤ 140737488351232) :
    IntKind.wrap .i64 (IntKind.wrap .i64 (IntKind.wrap .i64 ((a : Int) + b) + c) + d) = ((a + b + c + d : Nat) : Int) := by
  rw [wr64 ((a : Int) + b) (by omega) (by omega), wr64 ((a : Int) + b + c) (by omega) (by omega), wr64 _ (by omega) (by omega)]
  omega
theorem ans_empty (c : CD.T) (hw : Wf CD c) : FnD Tryz.prog 87 [.agg (cc c)] (· = .c (.bool (.sym (emptyC c)))) := by
  have w1 := hw.1.1
  have w2 := hw.2.1.1
  have w3 := hw.2.2.1.1
  have w4 := hw.2.2.2.1.1
  refine fn0 Tryz.func87 rfl rfl rfl ?_
  conv => whnf
  intro _
  conv => whnf
  intro _
  conv => whnf
  intro _
  conv => whnf
  intro _
  conv => whnf
  rw [sum4 _ _ _ _ w1 w2 w3 w4]
  unfold emptyC
  have e : ∀ n : Nat, decide ((n : Int) = 0) = decide (n = 0) := fun n => by
    rw [Bool.eq_iff_iff, decide_eq_true_eq, decide_eq_true_eq]; omega
  rw [e]
def goodN (n : ND.T) : Bool := okId n.1 && nameS n.2.1 && propsS n.2.2
def goodE (e : ED.T) : Bool := okId e.1 && okId e.2.2.1 && okId e.2.2.2.1 && nameS e.2.1 && propsS e.2.2.2.2
def bndA (r : AD.T) : Bool := decide ((r.1 : Int) < 0) || decide (1000 < (r.1 : Int)) || decide ((r.2.2.1 : Int) < 0) || decide (1000000 < (r.2.2.1 : Int)) || decide ((1024 : Int) < r.2.2.2.1.length) || decide ((1024 : Int) < r.2.2.2.2.1.length) || decide ((1024 : Int) < r.2.2.2.2.2.1.length)
def headA (r : AD.T) : Bool := !bndA r && (okId r.2.1 && idsS r.2.2.2.2.2.1)
def goodA (r : AD.T) : Bool := headA r && (r.2.2.2.1.all goodN && (r.2.2.2.2.1.all goodE && (emptyC (aC r) || goodC (aC r))))
theorem all_step {α : Type} {f : α → Bool} {l : List α} {i : Nat} (h : i < l.length) : (l.take (i + 1)).all f = ((l.take i).all f && f l[i]) := by
  rw [List.take_add_one, List.all_append, List.getElem?_eq_getElem h]
  simp
theorem all_no {α : Type} {f : α → Bool} {l : List α} {i : Nat} (h : i < l.length) (hf : f l[i] = false) : l.all f = false := by
  rw [List.all_eq_false]
  exact ⟨l[i], List.getElem_mem h, by rw [hf]; decide⟩
theorem ids_one (n : Int) : idsS [n] = okId n := by unfold idsS; simp
theorem ids_three (a b c : Int) : idsS [a, b, c] = (okId a && okId b && okId c) := by unfold idsS; simp [Bool.and_assoc]
theorem ans_Good (r : AD.T) (hw : Wf AD r) (hl : (aC r).2.2.1.length ≤ 1000) : FnD Tryz.prog 65 [.agg (ac r)] (· = .c (.bool (.sym (goodA r)))) := by
  refine fn0 Tryz.func65 rfl rfl rfl ?_
  conv => whnf
  intro _
  conv => whnf
  intro _
  conv => whnf
  intro _
  conv => whnf
  refine ⟨fun g => ?_, fun g => ?_⟩
  · have g : bndA r = true := g
    rw [show goodA r = false by unfold goodA headA; rw [g]; rfl]
    conv => whnf
  have g : bndA r = false := g
  conv => whnf
  refine lend0 (ans_id [r.2.1]) rfl rfl ?_
  conv => whnf
  refine callg0 (fun _ => ans_id r.2.2.2.2.2.1) rfl ?_
  conv => whnf
  rw [ids_one]
  refine ⟨fun k => ?_, fun k => ?_⟩
  · have : headA r = false := by
      unfold headA
      rw [g]
      revert k
      cases okId r.2.1 <;> cases idsS r.2.2.2.2.2.1 <;> simp
    rw [show goodA r = false by unfold goodA; rw [this]; rfl]
    conv => whnf
  have hh : headA r = true := by
    unfold headA
    rw [g]
    revert k
    cases okId r.2.1 <;> cases idsS r.2.2.2.2.2.1 <;> simp
  rw [show goodA r = (r.2.2.2.1.all goodN && (r.2.2.2.2.1.all goodE && (emptyC (aC r) || goodC (aC r)))) by unfold goodA; rw [hh]; rfl]
  conv => whnf
  intro _
  conv => whnf
  refine loop0 (α := Nat) (fun i => i ≤ r.2.2.2.1.length ∧ (r.2.2.2.1.take i).all goodN = true) (fun i => ⟨[(1, .c (.ptr 0 0)), (57, .c (.dat ND r.2.2.2.1)), (58, .c (.int .i64 r.2.2.2.1.length)), (59, .c (.int .i64 i))], [(0, .cells 40 (ac r))], 1⟩) (fun i => r.2.2.2.1.length - i) ⟨0, ⟨by omega, by simp⟩, ?_⟩ ?_
  · (conv => whnf); refine ⟨rfl, ?_, ?_, ?_⟩ <;> (repeat' apply And.intro) <;> first | exact trivial | rfl | exact wr_succ _ (by omega) | assumption | exact decide_eq_false (by assumption) | exact decide_eq_true (by assumption)
  rintro i ⟨hi, hI⟩
  conv => whnf
  refine ⟨fun h2 => ?_, fun h2 => ?_⟩
  · have h2 : i < r.2.2.2.1.length := by rw [decide_eq_true_eq] at h2; omega
    conv => whnf
    try (intro _; conv => whnf)
    refine ⟨by omega, ?_⟩
    rw [gt_nat (d := ND) r.2.2.2.1 i h2]
    conv => whnf
    refine lend0 (ans_id [r.2.2.2.1[i].1]) rfl rfl ?_
    conv => whnf
    refine callg0 (fun _ => val_Name r.2.2.2.1[i].2.1) rfl ?_
    conv => whnf
    refine callg0 (fun _ => val_Props r.2.2.2.1[i].2.2 (fun p hp => ((hw.2.2.2.1.2 _ (List.getElem_mem h2)).2.2.2 p hp).2.1)) rfl ?_
    conv => whnf
    rw [ids_one]
    refine ⟨fun h3 => ?_, fun h3 => ?_⟩
    · have : goodN r.2.2.2.1[i] = false := by
        unfold goodN
        revert h3
        cases okId r.2.2.2.1[i].1 <;> cases nameS r.2.2.2.1[i].2.1 <;> cases propsS r.2.2.2.1[i].2.2 <;> simp
      rw [all_no h2 this]
      conv => whnf
      rfl
    have h3 : goodN r.2.2.2.1[i] = true := by
      unfold goodN
      revert h3
      cases okId r.2.2.2.1[i].1 <;> cases nameS r.2.2.2.1[i].2.1 <;> cases propsS r.2.2.2.1[i].2.2 <;> simp
    conv => whnf
    refine ⟨i + 1, ⟨⟨by omega, by rw [all_step h2, hI, h3]; rfl⟩, by omega⟩, ?_⟩
    (conv => whnf); refine ⟨rfl, ?_, ?_, ?_⟩ <;> (repeat' apply And.intro) <;> first | exact trivial | rfl | exact wr_succ _ (by omega) | assumption | exact decide_eq_false (by assumption) | exact decide_eq_true (by assumption)
  have h2 : r.2.2.2.1.length ≤ i := by rw [decide_eq_false_iff_not] at h2; omega
  rw [show r.2.2.2.1.all goodN = true by rw [List.take_of_length_le h2] at hI; exact hI]
  clear hI h2 hi
  conv => whnf
  intro _
  conv => whnf
  refine loop0 (α := Nat) (fun i => i ≤ r.2.2.2.2.1.length ∧ (r.2.2.2.2.1.take i).all goodE = true) (fun i => ⟨[(1, .c (.ptr 0 0)), (82, .c (.dat ED r.2.2.2.2.1)), (83, .c (.int .i64 r.2.2.2.2.1.length)), (84, .c (.int .i64 i))], [(0, .cells 40 (ac r))], 1⟩) (fun i => r.2.2.2.2.1.length - i) ⟨0, ⟨by omega, by simp⟩, ?_⟩ ?_
  · (conv => whnf); refine ⟨rfl, ?_, ?_, ?_⟩ <;> (repeat' apply And.intro) <;> first | exact trivial | rfl | exact wr_succ _ (by omega) | assumption | exact decide_eq_false (by assumption) | exact decide_eq_true (by assumption)
  rintro i ⟨hi, hI⟩
  conv => whnf
  refine ⟨fun h2 => ?_, fun h2 => ?_⟩
  · have h2 : i < r.2.2.2.2.1.length := by rw [decide_eq_true_eq] at h2; omega
    conv => whnf
    try (intro _; conv => whnf)
    refine ⟨by omega, ?_⟩
    rw [gt_nat (d := ED) r.2.2.2.2.1 i h2]
    conv => whnf
    refine lend0 (ans_id [r.2.2.2.2.1[i].1, r.2.2.2.2.1[i].2.2.1, r.2.2.2.2.1[i].2.2.2.1]) rfl rfl ?_
    conv => whnf
    refine callg0 (fun _ => val_Name r.2.2.2.2.1[i].2.1) rfl ?_
    conv => whnf
    refine callg0 (fun _ => val_Props r.2.2.2.2.1[i].2.2.2.2 (fun p hp => ((hw.2.2.2.2.1.2 _ (List.getElem_mem h2)).2.2.2.2.2 p hp).2.1)) rfl ?_
    conv => whnf
    rw [ids_three]
    refine ⟨fun h3 => ?_, fun h3 => ?_⟩
    · have : goodE r.2.2.2.2.1[i] = false := by
        unfold goodE
        revert h3
        cases (okId r.2.2.2.2.1[i].1 && okId r.2.2.2.2.1[i].2.2.1 && okId r.2.2.2.2.1[i].2.2.2.1) <;> cases nameS r.2.2.2.2.1[i].2.1 <;> cases propsS r.2.2.2.2.1[i].2.2.2.2 <;> simp
      rw [all_no h2 this]
      conv => whnf
      rfl
    have h3 : goodE r.2.2.2.2.1[i] = true := by
      unfold goodE
      revert h3
      cases (okId r.2.2.2.2.1[i].1 && okId r.2.2.2.2.1[i].2.2.1 && okId r.2.2.2.2.1[i].2.2.2.1) <;> cases nameS r.2.2.2.2.1[i].2.1 <;> cases propsS r.2.2.2.2.1[i].2.2.2.2 <;> simp
    conv => whnf
    refine ⟨i + 1, ⟨⟨by omega, by rw [all_step h2, hI, h3]; rfl⟩, by omega⟩, ?_⟩
    (conv => whnf); refine ⟨rfl, ?_, ?_, ?_⟩ <;> (repeat' apply And.intro) <;> first | exact trivial | rfl | exact wr_succ _ (by omega) | assumption | exact decide_eq_false (by assumption) | exact decide_eq_true (by assumption)
  have h2 : r.2.2.2.2.1.length ≤ i := by rw [decide_eq_false_iff_not] at h2; omega
  rw [show r.2.2.2.2.1.all goodE = true by rw [List.take_of_length_le h2] at hI; exact hI]
  clear hI h2 hi
  conv => whnf
  refine call1 (ans_empty (aC r) hw.2.2.2.2.2.2) rfl ?_
  conv => whnf
  refine callg0 (fun _ => cat_Good (aC r) hw.2.2.2.2.2.2.2.2.1.2 hl) rfl ?_
  conv => whnf
  rfl
end Go.Proofs.YtmdjonckcapkeaaGreatDoor.Ans
/- The bytes of a catalog; the walks of cat.Encode and of the reference's. Own work. -/
set_option linter.unusedVariables false
set_option maxRecDepth 100000
namespace Go.Proofs.YtmdjonckcapkeaaGreatDoor
open Go Go.RowKit OE

def flB {α : Type} (f : α → List UInt8) (l : List α) : List UInt8 := (l.map f).flatten
theorem flB_step {α : Type} (f : α → List UInt8) {l : List α} {i : Nat} (h : i < l.length) : flB f (l.take (i + 1)) = flB f (l.take i) ++ f l[i] := by
  unfold flB; rw [take_step h, List.map_append, List.flatten_append]; simp only [List.map_cons, List.map_nil, List.flatten_cons, List.flatten_nil, List.append_nil]
theorem flB_len {α : Type} (f : α → List UInt8) (B : Nat) : ∀ {l : List α}, (∀ x ∈ l, (f x).length ≤ B) → (flB f l).length ≤ B * l.length
  | [], _ => by simp [flB]
  | x :: l, h => by
    have h1 := h x (by simp)
    have h2 := flB_len f B (l := l) (fun y hy => h y (by simp [hy]))
    unfold flB at h2 ⊢
    rw [List.map_cons, List.flatten_cons, List.length_append, List.length_cons, Nat.mul_add]
    omega
abbrev txtB (l : List SD.T) : List UInt8 := flB (α := List UInt8) Num.putT l
def ixB (i : ID.T) : List UInt8 := Num.putT i.1 ++ Num.putT i.2
/-- a good catalog's bytes -/
def catB' (c : CD.T) : List UInt8 := Num.putN c.1.length ++ txtB c.1 ++ (Num.putN c.2.1.length ++ txtB c.2.1) ++ Num.putN c.2.2.1.length ++ flB encS c.2.2.1 ++ Num.putN c.2.2.2.1.length ++ flB ixB c.2.2.2.1 ++ Num.putN (Int.toNat c.2.2.2.2)
def encCS (c : CD.T) : List UInt8 := if goodC c = true then catB' c else []
def errCS (c : CD.T) : Int := if goodC c = true then 0 else 11

theorem encS_len (r : RD.T) : (encS r).length ≤ 144 := by
  unfold encS
  split
  · rename_i h
    obtain ⟨i0, i1, k0, k1, n0, n1, s0, s1, t0, t1, t2, t3⟩ := okR h
    have p1 := putN_b r.1 i1
    have p2 := putN_b r.2.1 (Int.le_trans k1 (by decide))
    have p3 := putN_b r.2.2.2.2.2.2.2 (Int.le_trans s1 (by decide))
    have p4 := putN_b r.2.2.2.2.2.2.1 (Int.le_trans n1 (by decide))
    have q1 := putT_b t0
    have q2 := putT_b t1
    have q3 := putT_b t2
    have q4 := putT_b t3
    unfold bytS
    simp only [List.length_append]
    omega
  · simp
theorem goodL_mem {c : CD.T} : ∀ {l d : List RD.T} {x : Int}, goodL c d x l = true → ∀ r ∈ l, x < r.1 ∧ goodR c r = true
  | [], _, _, _, r, hr => by cases hr
  | a :: l, d, x, h, r, hr => by
    simp only [goodL, Bool.and_eq_true, decide_eq_true_eq] at h
    rcases List.mem_cons.1 hr with rfl | hr
    · exact ⟨h.1, h.2.1⟩
    · have := goodL_mem h.2.2.2 r hr
      exact ⟨Int.lt_trans h.1 this.1, this.2⟩
theorem idxL_mem {c : CD.T} : ∀ {l : List ID.T} {p : Option ID.T}, idxL c p l = true → ∀ x ∈ l, hasT c.1 x.1 = true ∧ nameS x.2 = true
  | [], _, _, x, hx => by cases hx
  | a :: l, p, h, x, hx => by
    simp only [idxL, Bool.and_eq_true, Bool.not_eq_true', Bool.or_eq_false_iff, Bool.not_eq_false'] at h
    rcases List.mem_cons.1 hx with rfl | hx
    · exact h.1.1
    · exact idxL_mem h.2 x hx
theorem tyS_mem {l : List SD.T} (h : tyS l = true) : l.length ≤ 16 ∧ ∀ s ∈ l, nameS s = true := by
  simp only [tyS, Bool.and_eq_true, Bool.not_eq_true', decide_eq_false_iff_not, List.all_eq_true] at h
  exact ⟨by omega, h.2.2⟩
structure GoodC (c : CD.T) : Prop where
  n1 : c.1.length ≤ 16
  n2 : c.2.1.length ≤ 16
  n3 : c.2.2.1.length ≤ 16
  n4 : c.2.2.2.1.length ≤ 16
  t1 : ∀ s ∈ c.1, nameS s = true
  t2 : ∀ s ∈ c.2.1, nameS s = true
  x0 : (1 : Int) ≤ c.2.2.2.2
  x1 : (show Int from c.2.2.2.2) ≤ 1000000
  r : ∀ r ∈ c.2.2.1, (0 : Int) < r.1 ∧ goodR c r = true
  i : ∀ x ∈ c.2.2.2.1, hasT c.1 x.1 = true ∧ nameS x.2 = true
theorem goodC_out {c : CD.T} (h : goodC c = true) : GoodC c := by
  simp only [goodC, rulesS, typesS, idxS, Bool.and_eq_true, decide_eq_true_eq] at h
  obtain ⟨⟨h1, h2⟩, h3, h4, h5, h6, h7, h8, h9⟩ := h
  have a1 := tyS_mem h1
  have a2 := tyS_mem h2
  exact ⟨a1.1, a2.1, h9, h5, a1.2, a2.2, h3, h4, goodL_mem h7, idxL_mem h6⟩
theorem hasT_mem {l : List SD.T} {v : List UInt8} (h : hasT l v = true) : v ∈ l := by
  simp only [hasT, List.any_eq_true, decide_eq_true_eq] at h
  obtain ⟨x, h1, h2⟩ := h
  rw [h2]; exact h1
theorem GoodC.il {c : CD.T} (h : GoodC c) {x : ID.T} (hx : x ∈ c.2.2.2.1) : x.1.length ≤ 16 ∧ x.2.length ≤ 16 :=
  ⟨nameS_len (h.t1 _ (hasT_mem (h.i x hx).1)), nameS_len (h.i x hx).2⟩
theorem txtB_len {l : List SD.T} (h : ∀ s ∈ l, nameS s = true) : (txtB l).length ≤ 26 * l.length := flB_len _ 26 fun s hs => putT_b (nameS_len (h s hs))

theorem gt0 {d : D} (a b : d.T) : gt [a, b] (0 : Int) = a := rfl
theorem gt1 {d : D} (a b : d.T) : gt [a, b] (IntKind.wrap .i64 (0 + 1)) = b := rfl
theorem txtB_step {l : List SD.T} {i : Nat} (h : i < l.length) : txtB (l.take (i + 1)) = txtB (l.take i) ++ Num.putT l[i] := flB_step (α := List UInt8) Num.putT h
theorem cat_Encode (c : CD.T) (hw : Wf CD c) (g3 : c.2.2.1.length ≤ 1000) : FnD Tryz.prog 69 [.agg (cc c)] (· = .tup [(false, [.str (encCS c)]), (false, [.int .i64 (errCS c)])]) := by
  refine fn0 Tryz.func69 rfl rfl rfl ?_
  conv => whnf
  refine call1 (cat_Good c hw.2.2.1.2 g3) rfl ?_
  conv => whnf
  refine ⟨fun h1 => ?_, fun h1 => ?_⟩
  · have h1 := not_t h1
    conv => whnf
    simp [encCS, errCS, h1]
  have h1 := not_f h1
  rw [encCS, errCS, if_pos h1, if_pos h1]
  have hg := goodC_out h1
  conv => whnf
  intro _
  conv => whnf
  refine unroll0 3 ?_
  conv => whnf
  refine tk rfl ?_
  conv => whnf
  intro _
  conv => whnf
  refine ⟨show (0 : Int) ≤ 0 ∧ (0 : Int) < 2 from by decide, ?_⟩
  conv => whnf
  refine ⟨show (0 : Int) ≤ 0 ∧ (0 : Int) < 2 from by decide, ?_⟩
  conv => whnf
  intro _
  conv => whnf
  rw [gt0]
  refine call1 (num_PutI ((c.1).length : Int) (Int.natCast_nonneg _) (by have := hg.n1; omega)) rfl ?_
  conv => whnf
  have pn0 := putN_b ((c.1).length : Int) (by have := hg.n1; omega)
  refine ⟨by exact Nat.le_trans (Nat.add_le_add (Nat.le_refl 0) pn0) (by decide), ?_⟩
  conv => whnf
  intro _
  conv => whnf
  refine loop0 (α := Nat × List UInt8) (fun p => p.1 ≤ (c.1).length ∧ p.2 = [] ++ Num.putN (c.1).length ++ txtB ((c.1).take p.1))
    (fun p => ⟨[(1, .c (.ptr 0 0)), (4, .c (.str p.2)), (22, .c (.row 1)), (23, .c (.int .i64 2)), (24, .c (.int .i64 0)), (34, .c (.dat SD c.1)), (35, .c (.int .i64 (c.1).length)), (36, .c (.int .i64 p.1))], [(0, .cells 38 (cc c)), (1, .row 34 (.list SD) [c.1, c.2.1])], 2⟩) (fun p => (c.1).length - p.1) ⟨(0, [] ++ Num.putN ((c.1).length : Int).toNat), ⟨Nat.zero_le _, (List.append_nil _).symm⟩, ?_⟩ ?_
  · (conv => whnf); refine ⟨rfl, ?_, ?_, ?_⟩ <;> (repeat' apply And.intro) <;> first | exact trivial | rfl | exact wr_succ _ (by omega) | assumption | exact decide_eq_false (by assumption) | exact decide_eq_true (by assumption)
  rintro ⟨i, s0⟩ ⟨hI1, hJ0⟩
  dsimp only at hI1 hJ0 ⊢
  have hsl0 : (s0).length ≤ 450 := by
    have h5 := txtB_len (l := (c.1).take i) fun s hs => hg.t1 s (List.mem_of_mem_take hs)
    have h6 := hg.n1
    rw [List.length_take] at h5
    rw [Int.toNat_natCast] at pn0
    rw [hJ0]; simp only [List.length_append, List.length_nil]; omega
  conv => whnf
  refine ⟨fun h2 => ?_, fun h2 => ?_⟩
  · have h2 : i < (c.1).length := by simp at h2; omega
    have h3 := nameS_len (hg.t1 _ (List.getElem_mem h2))
    have h4 := putT_b h3
    conv => whnf
    try (intro _; conv => whnf)
    refine ⟨by omega, ?_⟩
    rw [gt_nat (d := SD) (c.1) i h2]
    conv => whnf
    refine call1 (num_PutText _ (by omega)) rfl ?_
    conv => whnf
    refine ⟨by omega, ?_⟩
    conv => whnf
    refine ⟨(i + 1, s0 ++ Num.putT (c.1)[i]), ⟨⟨h2, ?_⟩, by dsimp only; omega⟩, ?_⟩
    · dsimp only
      rw [txtB_step h2, hJ0]; simp only [List.append_assoc]
    · (conv => whnf); refine ⟨rfl, ?_, ?_, ?_⟩ <;> (repeat' apply And.intro) <;> first | exact trivial | rfl | exact wr_succ _ (by omega) | assumption | exact decide_eq_false (by assumption) | exact decide_eq_true (by assumption)
  rw [List.take_of_length_le (by simp at h2; omega)] at hJ0
  clear h2
  conv => whnf
  refine tk rfl ?_
  conv => whnf
  intro _
  conv => whnf
  refine ⟨show (0 : Int) ≤ 1 ∧ (1 : Int) < 2 from by decide, ?_⟩
  conv => whnf
  refine ⟨show (0 : Int) ≤ 1 ∧ (1 : Int) < 2 from by decide, ?_⟩
  conv => whnf
  intro _
  conv => whnf
  rw [gt1]
  refine call1 (num_PutI ((c.2.1).length : Int) (Int.natCast_nonneg _) (by have := hg.n2; omega)) rfl ?_
  conv => whnf
  have pn1 := putN_b ((c.2.1).length : Int) (by have := hg.n2; omega)
  refine ⟨by omega, ?_⟩
  conv => whnf
  intro _
  conv => whnf
  refine loop0 (α := Nat × List UInt8) (fun p => p.1 ≤ (c.2.1).length ∧ p.2 = s0 ++ Num.putN (c.2.1).length ++ txtB ((c.2.1).take p.1))
    (fun p => ⟨[(1, .c (.ptr 0 0)), (4, .c (.str p.2)), (22, .c (.row 1)), (23, .c (.int .i64 2)), (24, .c (.int .i64 1)), (34, .c (.dat SD c.2.1)), (35, .c (.int .i64 (c.2.1).length)), (36, .c (.int .i64 p.1))], [(0, .cells 38 (cc c)), (1, .row 34 (.list SD) [c.1, c.2.1])], 2⟩) (fun p => (c.2.1).length - p.1) ⟨(0, s0 ++ Num.putN ((c.2.1).length : Int).toNat), ⟨Nat.zero_le _, (List.append_nil _).symm⟩, ?_⟩ ?_
  · (conv => whnf); refine ⟨rfl, ?_, ?_, ?_⟩ <;> (repeat' apply And.intro) <;> first | exact trivial | rfl | exact wr_succ _ (by omega) | assumption | exact decide_eq_false (by assumption) | exact decide_eq_true (by assumption)
  rintro ⟨i, s1⟩ ⟨hI1, hJ1⟩
  dsimp only at hI1 hJ1 ⊢
  have hsl1 : (s1).length ≤ 900 := by
    have h5 := txtB_len (l := (c.2.1).take i) fun s hs => hg.t2 s (List.mem_of_mem_take hs)
    have h6 := hg.n2
    rw [List.length_take] at h5
    rw [Int.toNat_natCast] at pn1
    rw [hJ1]; simp only [List.length_append]; omega
  conv => whnf
  refine ⟨fun h2 => ?_, fun h2 => ?_⟩
  · have h2 : i < (c.2.1).length := by simp at h2; omega
    have h3 := nameS_len (hg.t2 _ (List.getElem_mem h2))
    have h4 := putT_b h3
    conv => whnf
    try (intro _; conv => whnf)
    refine ⟨by omega, ?_⟩
    rw [gt_nat (d := SD) (c.2.1) i h2]
    conv => whnf
    refine call1 (num_PutText _ (by omega)) rfl ?_
    conv => whnf
    refine ⟨by omega, ?_⟩
    conv => whnf
    refine ⟨(i + 1, s1 ++ Num.putT (c.2.1)[i]), ⟨⟨h2, ?_⟩, by dsimp only; omega⟩, ?_⟩
    · dsimp only
      rw [txtB_step h2, hJ1]; simp only [List.append_assoc]
    · (conv => whnf); refine ⟨rfl, ?_, ?_, ?_⟩ <;> (repeat' apply And.intro) <;> first | exact trivial | rfl | exact wr_succ _ (by omega) | assumption | exact decide_eq_false (by assumption) | exact decide_eq_true (by assumption)
  rw [List.take_of_length_le (by simp at h2; omega)] at hJ1
  clear h2
  conv => whnf
  refine fk rfl ?_
  conv => whnf
  intro _
  conv => whnf
  refine call1 (num_PutI ((c.2.2.1).length : Int) (Int.natCast_nonneg _) (by have := hg.n3; omega)) rfl ?_
  conv => whnf
  have pn2 := putN_b ((c.2.2.1).length : Int) (by have := hg.n3; omega)
  refine ⟨by omega, ?_⟩
  conv => whnf
  intro _
  conv => whnf
  refine loop0 (α := Nat × List UInt8) (fun p => p.1 ≤ (c.2.2.1).length ∧ p.2 = s1 ++ Num.putN (c.2.2.1).length ++ flB encS ((c.2.2.1).take p.1))
    (fun p => ⟨[(1, .c (.ptr 0 0)), (4, .c (.str p.2)), (54, .c (.dat RD c.2.2.1)), (55, .c (.int .i64 (c.2.2.1).length)), (56, .c (.int .i64 p.1))], [(0, .cells 38 (cc c))], 1⟩) (fun p => (c.2.2.1).length - p.1) ⟨(0, s1 ++ Num.putN ((c.2.2.1).length : Int).toNat), ⟨Nat.zero_le _, (List.append_nil _).symm⟩, ?_⟩ ?_
  · (conv => whnf); refine ⟨rfl, ?_, ?_, ?_⟩ <;> (repeat' apply And.intro) <;> first | exact trivial | rfl | exact wr_succ _ (by omega) | assumption | exact decide_eq_false (by assumption) | exact decide_eq_true (by assumption)
  rintro ⟨i2, s2⟩ ⟨hL1, hL2⟩
  dsimp only at hL1 hL2 ⊢
  have hs2 : (s2).length ≤ 4000 := by
    have h5 := flB_len encS 144 (l := (c.2.2.1).take i2) fun s hs => encS_len s
    have h6 := hg.n3
    rw [List.length_take] at h5
    rw [Int.toNat_natCast] at pn2
    rw [hL2]; simp only [List.length_append]; omega
  conv => whnf
  refine ⟨fun h2 => ?_, fun h2 => ?_⟩
  · have h2 : i2 < (c.2.2.1).length := by simp at h2; omega
    have h4 := encS_len c.2.2.1[i2]
    conv => whnf
    try (intro _; conv => whnf)
    refine ⟨by omega, ?_⟩
    rw [gt_nat (d := RD) c.2.2.1 i2 h2]
    conv => whnf
    refine call1 (rule_Encode c.2.2.1[i2]) rfl ?_
    conv => whnf
    refine ⟨by omega, ?_⟩
    conv => whnf
    refine ⟨(i2 + 1, s2 ++ encS (c.2.2.1)[i2]), ⟨⟨h2, ?_⟩, by dsimp only; omega⟩, ?_⟩
    · dsimp only
      rw [flB_step _ h2, hL2]; simp only [List.append_assoc]
    · (conv => whnf); refine ⟨rfl, ?_, ?_, ?_⟩ <;> (repeat' apply And.intro) <;> first | exact trivial | rfl | exact wr_succ _ (by omega) | assumption | exact decide_eq_false (by assumption) | exact decide_eq_true (by assumption)
  rw [List.take_of_length_le (by simp at h2; omega)] at hL2
  clear h2
  conv => whnf
  intro _
  conv => whnf
  refine call1 (num_PutI ((c.2.2.2.1).length : Int) (Int.natCast_nonneg _) (by have := hg.n4; omega)) rfl ?_
  conv => whnf
  have pn3 := putN_b ((c.2.2.2.1).length : Int) (by have := hg.n4; omega)
  refine ⟨by omega, ?_⟩
  conv => whnf
  intro _
  conv => whnf
  refine loop0 (α := Nat × List UInt8) (fun p => p.1 ≤ (c.2.2.2.1).length ∧ p.2 = s2 ++ Num.putN (c.2.2.2.1).length ++ flB ixB ((c.2.2.2.1).take p.1))
    (fun p => ⟨[(1, .c (.ptr 0 0)), (4, .c (.str p.2)), (77, .c (.dat ID c.2.2.2.1)), (78, .c (.int .i64 (c.2.2.2.1).length)), (79, .c (.int .i64 p.1))], [(0, .cells 38 (cc c))], 1⟩) (fun p => (c.2.2.2.1).length - p.1) ⟨(0, s2 ++ Num.putN ((c.2.2.2.1).length : Int).toNat), ⟨Nat.zero_le _, (List.append_nil _).symm⟩, ?_⟩ ?_
  · (conv => whnf); refine ⟨rfl, ?_, ?_, ?_⟩ <;> (repeat' apply And.intro) <;> first | exact trivial | rfl | exact wr_succ _ (by omega) | assumption | exact decide_eq_false (by assumption) | exact decide_eq_true (by assumption)
  rintro ⟨i3, s3⟩ ⟨hM1, hM2⟩
  dsimp only at hM1 hM2 ⊢
  have hs3 : (s3).length ≤ 6000 := by
    have h5 := flB_len ixB 52 (l := (c.2.2.2.1).take i3) fun x hx => by
      have := hg.il (List.mem_of_mem_take hx)
      have q1 := putT_b this.1
      have q2 := putT_b this.2
      unfold ixB; rw [List.length_append]; omega
    have h6 := hg.n4
    rw [List.length_take] at h5
    rw [Int.toNat_natCast] at pn3
    rw [hM2]; simp only [List.length_append]; omega
  conv => whnf
  refine ⟨fun h2 => ?_, fun h2 => ?_⟩
  · have h2 : i3 < (c.2.2.2.1).length := by simp at h2; omega
    have h4 := hg.il (List.getElem_mem h2)
    have q1 := putT_b h4.1
    have q2 := putT_b h4.2
    conv => whnf
    try (intro _; conv => whnf)
    refine ⟨by omega, ?_⟩
    rw [gt_nat (d := ID) c.2.2.2.1 i3 h2]
    conv => whnf
    refine any0 ?_
    conv => whnf
    refine callr0 (num_PutText c.2.2.2.1[i3].1 (by omega)) rfl ?_
    conv => whnf
    refine callr0 (num_PutText c.2.2.2.1[i3].2 (by omega)) rfl ?_
    conv => whnf
    refine ⟨by omega, ?_⟩
    conv => whnf
    refine ⟨by rw [List.length_append]; omega, ?_⟩
    conv => whnf
    refine ⟨.inl (by kernel_rfl), after0 ?_⟩
    conv => whnf
    refine ⟨(i3 + 1, s3 ++ ixB c.2.2.2.1[i3]), ⟨⟨h2, ?_⟩, by dsimp only; omega⟩, ?_⟩
    · dsimp only
      rw [flB_step _ h2, hM2]; simp only [List.append_assoc]
    · (conv => whnf); refine ⟨rfl, ?_, ?_, ?_⟩ <;> (repeat' apply And.intro) <;> first | exact trivial | rfl | exact wr_succ _ (by omega) | assumption | exact decide_eq_false (by assumption) | exact decide_eq_true (by assumption)
  rw [List.take_of_length_le (by simp at h2; omega)] at hM2
  clear h2
  conv => whnf
  refine call1 (num_PutI (show Int from c.2.2.2.2) (Int.le_trans (by decide) hg.x0) hg.x1) rfl ?_
  conv => whnf
  have pn4 := putN_b (show Int from c.2.2.2.2) hg.x1
  refine ⟨by omega, ?_⟩
  conv => whnf
  rw [hM2, hL2, hJ1, hJ0]
  unfold catB'
  simp only [List.append_assoc, List.nil_append]
end Go.Proofs.YtmdjonckcapkeaaGreatDoor
/- The walk of the reference's Decode of rules. Own work; written by gendec2.py. -/
set_option linter.unusedVariables false
set_option maxRecDepth 100000
set_option maxHeartbeats 2000000
namespace Go.Proofs.YtmdjonckcapkeaaGreatDoor
open Go Go.RowKit OE

def decA (o : Option (RD.T × Nat)) : SV := .agg (rc (o.getD (R0, 0)).1 ++ [.int .i64 ((o.getD (R0, 0)).2 : Nat), .bool (.sym o.isSome)])

theorem refrule_Decode (s : List UInt8) (k : Int) (hs : s.length ≤ 100000000) : FnD Tryz.prog 43 [.c (.str s), .c (.int .i64 k)] (· = decA (decS s k)) := by
  refine fn0 Tryz.func43 rfl rfl rfl ?_
  conv => whnf
  refine unroll0 5 ?_
  conv => whnf
  refine tk rfl ?_
  conv => whnf
  refine call1 (refnum_Get s (k) (by omega)) rfl ?_
  conv => whnf
  refine ⟨fun c1 => ?_, fun c1 => ?_⟩
  · conv => whnf
    have hd : decS s k = none := by simp only [decS, decP, gn_no c1]
    rw [hd]
    rfl
  obtain ⟨a1, i1, g1, h1, w1, u1, l1, m1⟩ := gn_yes c1 hs
  clear c1
  rw [g1]
  dsimp only [Option.getD_some, Option.isSome_some]
  conv => whnf
  rw [w1, u1]
  refine tk rfl ?_
  conv => whnf
  refine call1 (refnum_Get s (k + i1) (by omega)) rfl ?_
  conv => whnf
  refine ⟨fun c2 => ?_, fun c2 => ?_⟩
  · conv => whnf
    have hd : decS s k = none := by simp only [decS, decP, h1, gn_no c2]
    rw [hd]
    rfl
  obtain ⟨a2, i2, g2, h2, w2, u2, l2, m2⟩ := gn_yes c2 hs
  clear c2
  rw [g2]
  dsimp only [Option.getD_some, Option.isSome_some]
  conv => whnf
  rw [w2, u2]
  refine tk rfl ?_
  conv => whnf
  refine call1 (refnum_Get s (k + i1 + i2) (by omega)) rfl ?_
  conv => whnf
  refine ⟨fun c3 => ?_, fun c3 => ?_⟩
  · conv => whnf
    have hd : decS s k = none := by simp only [decS, decP, h1, h2, gn_no c3]
    rw [hd]
    rfl
  obtain ⟨a3, i3, g3, h3, w3, u3, l3, m3⟩ := gn_yes c3 hs
  clear c3
  rw [g3]
  dsimp only [Option.getD_some, Option.isSome_some]
  conv => whnf
  rw [w3, u3]
  refine tk rfl ?_
  conv => whnf
  refine call1 (refnum_Get s (k + i1 + i2 + i3) (by omega)) rfl ?_
  conv => whnf
  refine ⟨fun c4 => ?_, fun c4 => ?_⟩
  · conv => whnf
    have hd : decS s k = none := by simp only [decS, decP, h1, h2, h3, gn_no c4]
    rw [hd]
    rfl
  obtain ⟨a4, i4, g4, h4, w4, u4, l4, m4⟩ := gn_yes c4 hs
  clear c4
  rw [g4]
  dsimp only [Option.getD_some, Option.isSome_some]
  conv => whnf
  rw [w4, u4]
  refine fk rfl ?_
  conv => whnf
  refine unroll0 5 ?_
  conv => whnf
  refine tk rfl ?_
  conv => whnf
  refine call1 (refnum_GetText s (k + i1 + i2 + i3 + i4) 16 (by omega) (by decide)) rfl ?_
  conv => whnf
  refine ⟨fun c5 => ?_, fun c5 => ?_⟩
  · conv => whnf
    have hd : decS s k = none := by simp only [decS, decP, h1, h2, h3, h4, gt_no c5]
    rw [hd]
    rfl
  obtain ⟨a5, i5, g5, u5, l5, m5⟩ := gt_yes c5 hs
  clear c5
  rw [g5]
  dsimp only [Option.getD_some, Option.isSome_some]
  conv => whnf
  rw [u5]
  refine tk rfl ?_
  conv => whnf
  refine call1 (refnum_GetText s (k + i1 + i2 + i3 + i4 + i5) 16 (by omega) (by decide)) rfl ?_
  conv => whnf
  refine ⟨fun c6 => ?_, fun c6 => ?_⟩
  · conv => whnf
    have hd : decS s k = none := by simp only [decS, decP, h1, h2, h3, h4, g5, gt_no c6]
    rw [hd]
    rfl
  obtain ⟨a6, i6, g6, u6, l6, m6⟩ := gt_yes c6 hs
  clear c6
  rw [g6]
  dsimp only [Option.getD_some, Option.isSome_some]
  conv => whnf
  rw [u6]
  refine tk rfl ?_
  conv => whnf
  refine call1 (refnum_GetText s (k + i1 + i2 + i3 + i4 + i5 + i6) 16 (by omega) (by decide)) rfl ?_
  conv => whnf
  refine ⟨fun c7 => ?_, fun c7 => ?_⟩
  · conv => whnf
    have hd : decS s k = none := by simp only [decS, decP, h1, h2, h3, h4, g5, g6, gt_no c7]
    rw [hd]
    rfl
  obtain ⟨a7, i7, g7, u7, l7, m7⟩ := gt_yes c7 hs
  clear c7
  rw [g7]
  dsimp only [Option.getD_some, Option.isSome_some]
  conv => whnf
  rw [u7]
  refine tk rfl ?_
  conv => whnf
  refine call1 (refnum_GetText s (k + i1 + i2 + i3 + i4 + i5 + i6 + i7) 16 (by omega) (by decide)) rfl ?_
  conv => whnf
  refine ⟨fun c8 => ?_, fun c8 => ?_⟩
  · conv => whnf
    have hd : decS s k = none := by simp only [decS, decP, h1, h2, h3, h4, g5, g6, g7, gt_no c8]
    rw [hd]
    rfl
  obtain ⟨a8, i8, g8, u8, l8, m8⟩ := gt_yes c8 hs
  clear c8
  rw [g8]
  dsimp only [Option.getD_some, Option.isSome_some]
  conv => whnf
  rw [u8]
  refine fk rfl ?_
  conv => whnf
  have hp : decP s k = some ((((a1 : Nat) : Int), ((a2 : Nat) : Int), a5, a6, a7, a8, ((a4 : Nat) : Int), ((a3 : Nat) : Int)), i1 + i2 + i3 + i4 + i5 + i6 + i7 + i8) := by
    simp only [decP, h1, h2, h3, h4, g5, g6, g7, g8]
  refine call1 (refrule_Encode ((((a1 : Nat) : Int), ((a2 : Nat) : Int), a5, a6, a7, a8, ((a4 : Nat) : Int), ((a3 : Nat) : Int)) : RD.T)) rfl ?_
  conv => whnf
  refine ⟨fun c9 => ?_, fun c9 => ?_⟩
  · conv => whnf
    have hn : okS ((((a1 : Nat) : Int), ((a2 : Nat) : Int), a5, a6, a7, a8, ((a4 : Nat) : Int), ((a3 : Nat) : Int)) : RD.T) = false := by
      cases h : okS ((((a1 : Nat) : Int), ((a2 : Nat) : Int), a5, a6, a7, a8, ((a4 : Nat) : Int), ((a3 : Nat) : Int)) : RD.T) with
      | false => rfl
      | true => simp [errS, h] at c9
    have hd : decS s k = none := by simp only [decS, hp, hn]; rfl
    rw [hd]
    rfl
  have hn : okS ((((a1 : Nat) : Int), ((a2 : Nat) : Int), a5, a6, a7, a8, ((a4 : Nat) : Int), ((a3 : Nat) : Int)) : RD.T) = true := by
    cases h : okS ((((a1 : Nat) : Int), ((a2 : Nat) : Int), a5, a6, a7, a8, ((a4 : Nat) : Int), ((a3 : Nat) : Int)) : RD.T) with
    | true => rfl
    | false => simp [errS, h] at c9
  have hd : decS s k = some (((((a1 : Nat) : Int), ((a2 : Nat) : Int), a5, a6, a7, a8, ((a4 : Nat) : Int), ((a3 : Nat) : Int)) : RD.T), i1 + i2 + i3 + i4 + i5 + i6 + i7 + i8) := by simp only [decS, hp, hn, if_true]
  have hz : IntKind.wrap .i64 (k + i1 + i2 + i3 + i4 + i5 + i6 + i7 + i8 - k) = ((i1 + i2 + i3 + i4 + i5 + i6 + i7 + i8 : Nat) : Int) := by
    rw [wr64 _ (by omega) (by omega)]; omega
  conv => whnf
  rw [hd, hz]
  rfl
end Go.Proofs.YtmdjonckcapkeaaGreatDoor
/- The walks of the readers' methods, cat's and the reference's. Own work. -/
set_option linter.unusedVariables false
set_option maxRecDepth 100000
namespace Go.Proofs.YtmdjonckcapkeaaGreatDoor
open Go Go.RowKit OE

end Go.Proofs.YtmdjonckcapkeaaGreatDoor
/- The empty catalog; a result that is a catalog, or one whose lists are nil. Own work. -/
set_option linter.unusedVariables false
set_option maxRecDepth 100000
namespace Go.Proofs.YtmdjonckcapkeaaGreatDoor
open Go Go.RowKit OE

def C0 : CD.T := CD.df
/-- the catalog's cells where all its lists are nil -/
abbrev cn : List C := [.val (.slice none 0 0), .val (.slice none 0 0), .val (.slice none 0 0), .val (.slice none 0 0), .int .i64 0]
def catT (c : CD.T) (rest : List (Bool × List C)) (r : SV) : Prop := r = .tup ((true, cc c) :: rest) ∨ (c = C0 ∧ r = .tup ((true, cn) :: rest))
theorem nilC {w : World} {ok : Nat → Prop} {d : D} {v : Value} (h : RC (DX w ok) (.val (.slice none 0 0)) v) : RC (DX w ok) (.dat d []) v := nilA v h
theorem FnD.cat {P : Program} {f : Nat} {args : List SV} {c : CD.T} {rest : List (Bool × List C)} (h : FnD P f args (catT c rest)) : FnD P f args (· = .tup ((true, cc c) :: rest)) :=
  h.res fun r hr w ok v hv => by
    rcases hr with rfl | ⟨rfl, rfl⟩
    · exact hv
    · obtain ⟨vs, e, hl⟩ := hv
      refine ⟨vs, e, ?_⟩
      generalize vs.toList = m at hl
      cases m with
      | nil => exact hl.elim
      | cons x m =>
        refine ⟨?_, hl.2⟩
        have h1 := hl.1
        unfold RP at h1 ⊢
        simp only [if_true] at h1 ⊢
        obtain ⟨us, e2, hl2⟩ := h1
        refine ⟨us, e2, ?_⟩
        generalize us.toList = n at hl2
        match n, hl2 with
        | [a, b, c, d, e], ⟨h1, h2, h3, h4, h5, _⟩ => exact ⟨nilC h1, nilC h2, nilC h3, nilC h4, h5, trivial⟩
end Go.Proofs.YtmdjonckcapkeaaGreatDoor
/- The catalog of bytes; the walk of cat.Decode. Own work. -/
set_option linter.unusedVariables false
set_option maxRecDepth 100000
namespace Go.Proofs.YtmdjonckcapkeaaGreatDoor
open Go Go.RowKit OE

/-! what is still to be read, as a continuation -/
def numK (s : List UInt8) (most a : Nat) (K : Nat → Nat → Option CD.T) : Option CD.T := match Num.getN s a with | none => none | some p => if p.1 ≤ most then K p.1 (a + p.2) else none
def namK (s : List UInt8) : Nat → Nat → List SD.T → (List SD.T → Nat → Option CD.T) → Option CD.T
  | 0, a, l, K => K l a
  | n + 1, a, l, K => match Num.getT s a 16 with | none => none | some p => namK s n (a + p.2) (l ++ [p.1]) K
def rulK (s : List UInt8) : Nat → Nat → List RD.T → (List RD.T → Nat → Option CD.T) → Option CD.T
  | 0, a, l, K => K l a
  | n + 1, a, l, K => match decS s a with | none => none | some p => rulK s n (a + p.2) (l ++ [p.1]) K
def ixK (s : List UInt8) : Nat → Nat → List ID.T → (List ID.T → Nat → Option CD.T) → Option CD.T
  | 0, a, l, K => K l a
  | n + 1, a, l, K => match Num.getT s a 16 with
    | none => none
    | some p => match Num.getT s (a + p.2 : Nat) 16 with
      | none => none
      | some q => ixK s n (a + p.2 + q.2) (l ++ [(p.1, q.1)]) K
def finK (s : List UInt8) (l1 l2 : List SD.T) (rs : List RD.T) (is : List ID.T) (nx a : Nat) : Option CD.T :=
  if a = s.length ∧ goodC (l1, l2, rs, is, ((nx : Nat) : Int)) = true then some (l1, l2, rs, is, ((nx : Nat) : Int)) else none
def k9 (s l1 l2 rs is) (a : Nat) := numK s 1000000 a fun nx a => finK s l1 l2 rs is nx a
def k8 (s l1 l2 rs) (n a : Nat) (l : List ID.T) := ixK s n a l fun is a => k9 s l1 l2 rs is a
def k7 (s l1 l2 rs) (a : Nat) := numK s 16 a fun n a => k8 s l1 l2 rs n a []
def k6 (s l1 l2) (n a : Nat) (l : List RD.T) := rulK s n a l fun rs a => k7 s l1 l2 rs a
def k5 (s l1 l2) (a : Nat) := numK s 16 a fun n a => k6 s l1 l2 n a []
def k4 (s l1) (n a : Nat) (l : List SD.T) := namK s n a l fun l2 a => k5 s l1 l2 a
def k3 (s l1) (a : Nat) := numK s 16 a fun n a => k4 s l1 n a []
def k2 (s) (n a : Nat) (l : List SD.T) := namK s n a l fun l1 a => k3 s l1 a
def decO (s : List UInt8) : Option CD.T := numK s 16 0 fun n a => k2 s n a []
def decCS (s : List UInt8) : CD.T := (decO s).getD C0
def decCE (s : List UInt8) : Int := if (decO s).isSome then 0 else 11

/-- what is known while it is read -/
structure Inv (D X : Option CD.T) (len a : Nat) (bad : Bool) : Prop where
  le : a ≤ len
  ok : bad = false → X = D
  no : bad = true → D = none
theorem decS_bd {s : List UInt8} {a : Nat} {r : RD.T} {n : Nat} (h : decS s a = some (r, n)) : a + n ≤ s.length := by
  unfold decS at h
  split at h
  · cases h
  rename_i p hp
  split at h
  · cases h
    unfold decP at hp
    split at hp
    · cases hp
    split at hp
    · cases hp
    split at hp
    · cases hp
    split at hp
    · cases hp
    split at hp
    · cases hp
    split at hp
    · cases hp
    split at hp
    · cases hp
    split at hp
    · cases hp
    rename_i h8
    cases hp
    have := gt_bd h8
    omega
  · cases h
theorem lit_ok (n : Int) (h0 : 0 ≤ n) (h1 : n ≤ 1000000) : (Lit.int .i64 n).wf = true := by
  have h2 : -9223372036854775808 ≤ n := by omega
  have h3 : n ≤ 9223372036854775807 := by omega
  simpa [Lit.wf, IntKind.min, IntKind.max, IntKind.bits, IntKind.signed] using ⟨h2, h3⟩
end Go.Proofs.YtmdjonckcapkeaaGreatDoor
/- A catalog's bytes: what was encoded is decoded as it was, what was decoded is encoded as it stood; no program in sight. Own work. -/
set_option linter.unusedVariables false
set_option maxRecDepth 100000
namespace Go.Proofs.YtmdjonckcapkeaaGreatDoor
open Go Go.RowKit OE

/-! there: what was encoded is decoded -/
theorem good_okS {c : CD.T} (h : GoodC c) : ∀ r ∈ c.2.2.1, okS r = true := fun r hr => by
  obtain ⟨h1, h2⟩ := h.r r hr
  simp only [goodR, Bool.and_eq_true, decide_eq_true_eq] at h2
  obtain ⟨g1, g2, g3, g4, g5⟩ := h2
  have hx := h.x1
  simp only [okS, Bool.and_eq_true, decide_eq_true_eq]
  exact ⟨⟨⟨⟨g2, Int.le_of_lt h1⟩, Int.le_trans (Int.le_of_lt g1) hx⟩, Int.le_trans (by decide) g4⟩, g5⟩
/-! back: what was decoded is encoded -/
theorem getN_sh {s : List UInt8} {a : Nat} (ha : a ≤ s.length) {x y : Int} (hy : 0 ≤ y) (hx : x = a + y) : Num.getN s x = Num.getN (s.drop a) y := by
  unfold Num.getN
  rw [List.length_drop, List.drop_drop, show a + y.toNat = x.toNat by omega]
  by_cases h : x > s.length
  · rw [if_pos (.inr h), if_pos (.inr (by omega))]
  · rw [if_neg (by omega), if_neg (by omega)]
theorem getT_sh {s : List UInt8} {a : Nat} (ha : a ≤ s.length) {x y m : Int} (hy : 0 ≤ y) (hx : x = a + y) : Num.getT s x m = Num.getT (s.drop a) y m := by
  unfold Num.getT
  rw [getN_sh ha hy hx]
  cases Num.getN (s.drop a) y with
  | none => rfl
  | some p =>
    obtain ⟨n, k⟩ := p
    dsimp only
    rw [List.length_drop, List.drop_drop (i := y.toNat), show a + y.toNat = x.toNat by omega]
    by_cases h : m < 0 ∨ (n : Int) > m ∨ x.toNat + k + n > s.length
    · rw [if_pos h, if_pos (by omega)]
    · rw [if_neg h, if_neg (by omega)]
theorem decS_sh {s : List UInt8} {a : Nat} (ha : a ≤ s.length) : decS s a = decS (s.drop a) 0 := by
  have g : ∀ x y : Int, 0 ≤ y → x = a + y → gnS s x = gnS (s.drop a) y := fun x y h1 h2 => by unfold gnS; rw [getN_sh ha h1 h2]
  have t : ∀ x y : Int, 0 ≤ y → x = a + y → Num.getT s x 16 = Num.getT (s.drop a) y 16 := fun x y h1 h2 => getT_sh ha h1 h2
  have e : decP s a = decP (s.drop a) 0 := by
    unfold decP
    rw [g a 0 (by omega) (by omega)]
    cases gnS (s.drop a) (0) with
    | none => rfl
    | some p1 =>
    dsimp only
    rw [g ((a : Int) + p1.2) ((0 : Int) + p1.2) (by omega) (by omega)]
    cases gnS (s.drop a) (0 + p1.2) with
    | none => rfl
    | some p2 =>
    dsimp only
    rw [g ((a : Int) + p1.2 + p2.2) ((0 : Int) + p1.2 + p2.2) (by omega) (by omega)]
    cases gnS (s.drop a) (0 + p1.2 + p2.2) with
    | none => rfl
    | some p3 =>
    dsimp only
    rw [g ((a : Int) + p1.2 + p2.2 + p3.2) ((0 : Int) + p1.2 + p2.2 + p3.2) (by omega) (by omega)]
    cases gnS (s.drop a) (0 + p1.2 + p2.2 + p3.2) with
    | none => rfl
    | some p4 =>
    dsimp only
    rw [t ((a : Int) + p1.2 + p2.2 + p3.2 + p4.2) ((0 : Int) + p1.2 + p2.2 + p3.2 + p4.2) (by omega) (by omega)]
    cases Num.getT (s.drop a) (0 + p1.2 + p2.2 + p3.2 + p4.2) 16 with
    | none => rfl
    | some p5 =>
    dsimp only
    rw [t ((a : Int) + p1.2 + p2.2 + p3.2 + p4.2 + p5.2) ((0 : Int) + p1.2 + p2.2 + p3.2 + p4.2 + p5.2) (by omega) (by omega)]
    cases Num.getT (s.drop a) (0 + p1.2 + p2.2 + p3.2 + p4.2 + p5.2) 16 with
    | none => rfl
    | some p6 =>
    dsimp only
    rw [t ((a : Int) + p1.2 + p2.2 + p3.2 + p4.2 + p5.2 + p6.2) ((0 : Int) + p1.2 + p2.2 + p3.2 + p4.2 + p5.2 + p6.2) (by omega) (by omega)]
    cases Num.getT (s.drop a) (0 + p1.2 + p2.2 + p3.2 + p4.2 + p5.2 + p6.2) 16 with
    | none => rfl
    | some p7 =>
    dsimp only
    rw [t ((a : Int) + p1.2 + p2.2 + p3.2 + p4.2 + p5.2 + p6.2 + p7.2) ((0 : Int) + p1.2 + p2.2 + p3.2 + p4.2 + p5.2 + p6.2 + p7.2) (by omega) (by omega)]
  unfold decS
  rw [e]
theorem numK_back {s : List UInt8} {most a : Nat} {K : Nat → Nat → Option CD.T} {d : CD.T} (h : numK s most a K = some d) : ∃ n k, n ≤ most ∧ K n (a + k) = some d ∧ s.take (a + k) = s.take a ++ Num.putN n := by
  unfold numK at h
  cases hg : Num.getN s a with
  | none => rw [hg] at h; cases h
  | some p =>
    rw [hg] at h
    dsimp only at h
    split at h
    · rename_i hle
      have ht := Num.getN_take (m := p.1) (k := p.2) hg
      exact ⟨p.1, p.2, hle, h, by rw [List.take_add]; exact congrArg (s.take a ++ ·) ht⟩
    · cases h
theorem namK_back {s : List UInt8} {K : List SD.T → Nat → Option CD.T} {d : CD.T} : ∀ {n a : Nat} {acc : List SD.T}, namK s n a acc K = some d → ∃ l a', l.length = n ∧ K (acc ++ l) a' = some d ∧ s.take a' = s.take a ++ txtB l
  | 0, a, acc, h => ⟨[], a, rfl, by rw [List.append_nil]; exact h, by rw [show txtB [] = [] from rfl, List.append_nil]⟩
  | n + 1, a, acc, h => by
    unfold namK at h
    cases hg : Num.getT s a 16 with
    | none => rw [hg] at h; cases h
    | some p =>
      rw [hg] at h
      dsimp only at h
      have ht := (gtS_take (t := p.1) (i := p.2) hg a rfl).1
      obtain ⟨l, a', h1, h2, h3⟩ := namK_back h
      refine ⟨p.1 :: l, a', by rw [List.length_cons, h1], by rw [← h2]; simp only [List.append_assoc, List.singleton_append], ?_⟩
      rw [h3, List.take_add, ht, show txtB (p.1 :: l) = Num.putT p.1 ++ txtB l from rfl]
      simp only [List.append_assoc]
theorem rulK_back {s : List UInt8} {K : List RD.T → Nat → Option CD.T} {d : CD.T} : ∀ {n a : Nat} {acc : List RD.T}, rulK s n a acc K = some d → ∃ l a', l.length = n ∧ K (acc ++ l) a' = some d ∧ s.take a' = s.take a ++ flB encS l
  | 0, a, acc, h => ⟨[], a, rfl, by rw [List.append_nil]; exact h, by rw [show flB encS [] = [] from rfl, List.append_nil]⟩
  | n + 1, a, acc, h => by
    unfold rulK at h
    cases hg : decS s a with
    | none => rw [hg] at h; cases h
    | some p =>
      rw [hg] at h
      dsimp only at h
      have hb := decS_bd (r := p.1) (n := p.2) hg
      rw [decS_sh (by omega)] at hg
      have ht := (back2 (q := p.1) (n := p.2) hg).2.1
      obtain ⟨l, a', h1, h2, h3⟩ := rulK_back h
      refine ⟨p.1 :: l, a', by rw [List.length_cons, h1], by rw [← h2]; simp only [List.append_assoc, List.singleton_append], ?_⟩
      rw [h3, List.take_add, ← ht, show flB encS (p.1 :: l) = encS p.1 ++ flB encS l from rfl]
      simp only [List.append_assoc]
theorem ixK_back {s : List UInt8} {K : List ID.T → Nat → Option CD.T} {d : CD.T} : ∀ {n a : Nat} {acc : List ID.T}, ixK s n a acc K = some d → ∃ l a', l.length = n ∧ K (acc ++ l) a' = some d ∧ s.take a' = s.take a ++ flB ixB l
  | 0, a, acc, h => ⟨[], a, rfl, by rw [List.append_nil]; exact h, by rw [show flB ixB [] = [] from rfl, List.append_nil]⟩
  | n + 1, a, acc, h => by
    unfold ixK at h
    cases hg : Num.getT s a 16 with
    | none => rw [hg] at h; cases h
    | some p =>
      rw [hg] at h
      dsimp only at h
      cases hg2 : Num.getT s (a + p.2 : Nat) 16 with
      | none => rw [hg2] at h; cases h
      | some q =>
        rw [hg2] at h
        dsimp only at h
        have ht := (gtS_take (t := p.1) (i := p.2) hg a rfl).1
        have ht2 := (gtS_take (t := q.1) (i := q.2) hg2 (a + p.2) rfl).1
        obtain ⟨l, a', h1, h2, h3⟩ := ixK_back h
        refine ⟨(p.1, q.1) :: l, a', by rw [List.length_cons, h1], by rw [← h2]; simp only [List.append_assoc, List.singleton_append], ?_⟩
        rw [h3, List.take_add, List.take_add, ht, ht2, show flB ixB ((p.1, q.1) :: l) = Num.putT p.1 ++ Num.putT q.1 ++ flB ixB l from rfl]
        simp only [List.append_assoc]
theorem enc_dec {s : List UInt8} {d : CD.T} (h : decO s = some d) : goodC d = true ∧ catB' d = s := by
  unfold decO at h
  obtain ⟨n1, x1, _, h, e1⟩ := numK_back h
  obtain ⟨l1, y1, f1, h, e2⟩ := namK_back h
  obtain ⟨n2, x2, _, h, e3⟩ := numK_back h
  obtain ⟨l2, y2, f2, h, e4⟩ := namK_back h
  obtain ⟨n3, x3, _, h, e5⟩ := numK_back h
  obtain ⟨rs, y3, f3, h, e6⟩ := rulK_back h
  obtain ⟨n4, x4, _, h, e7⟩ := numK_back h
  obtain ⟨is, y4, f4, h, e8⟩ := ixK_back h
  obtain ⟨nx, x5, _, h, e9⟩ := numK_back h
  unfold finK at h
  split at h
  · rename_i hc
    obtain ⟨hc1, hc2⟩ := hc
    cases h
    refine ⟨hc2, ?_⟩
    rw [hc1, List.take_length] at e9
    rw [e9, e8, e7, e6, e5, e4, e3, e2, e1, ← f1, ← f2, ← f3, ← f4]
    unfold catB'
    simp only [List.nil_append, List.append_assoc, Int.toNat_natCast, List.take_zero]
  · cases h
theorem good_wf {c : CD.T} (h : goodC c = true) : Wf CD c := by
  have hg := goodC_out h
  have nm : ∀ {l : List SD.T}, l.length ≤ 16 → (∀ s ∈ l, nameS s = true) → Wf (.list SD) l := fun h1 h2 => ⟨Nat.le_trans h1 (by decide), fun s hs => Nat.le_trans (nameS_len (h2 s hs)) (by decide)⟩
  refine ⟨nm hg.n1 hg.t1, nm hg.n2 hg.t2, ⟨Nat.le_trans hg.n3 (by decide), fun r hr => ?_⟩, ⟨Nat.le_trans hg.n4 (by decide), fun x hx => ⟨Nat.le_trans (hg.il hx).1 (by decide), Nat.le_trans (hg.il hx).2 (by decide)⟩⟩, lit_ok _ (Int.le_trans (by decide) hg.x0) hg.x1⟩
  obtain ⟨i0, i1, k0, k1, n0, n1, s0, s1, t0, t1, t2, t3⟩ := okR (good_okS hg r hr)
  exact ⟨lit_ok _ i0 i1, lit_ok _ (Int.le_trans (by decide) k0) (Int.le_trans k1 (by decide)), Nat.le_trans t0 (by decide), Nat.le_trans t1 (by decide), Nat.le_trans t2 (by decide), Nat.le_trans t3 (by decide), lit_ok _ n0 (Int.le_trans n1 (by decide)), lit_ok _ s0 (Int.le_trans s1 (by decide))⟩
end Go.Proofs.YtmdjonckcapkeaaGreatDoor
/- What a reply's bytes are, and what bytes are read as; no program in sight. Own work. -/
set_option linter.unusedVariables false
set_option maxRecDepth 100000
namespace Go.Proofs.YtmdjonckcapkeaaGreatDoor.Ans
open Go Go.RowKit OE

def encN (n : ND.T) : List UInt8 := Num.putN (u64 n.1) ++ Num.putT n.2.1 ++ encPs n.2.2
def encE (e : ED.T) : List UInt8 := Num.putN (u64 e.1) ++ Num.putT e.2.1 ++ Num.putN (u64 e.2.2.1) ++ Num.putN (u64 e.2.2.2.1) ++ encPs e.2.2.2.2
def encI (n : LD.T) : List UInt8 := Num.putN (u64 n)
def enc4 (r : AD.T) : List UInt8 := Num.putN (u64 r.1) ++ Num.putN (u64 r.2.1) ++ Num.putN (u64 r.2.2.1) ++ Num.putN (u64 r.2.2.2.1.length)
def enc5 (r : AD.T) : List UInt8 := enc4 r ++ flB encN r.2.2.2.1 ++ Num.putN (u64 r.2.2.2.2.1.length)
def enc6 (r : AD.T) : List UInt8 := enc5 r ++ flB encE r.2.2.2.2.1 ++ Num.putN (u64 r.2.2.2.2.2.1.length)
def encA (r : AD.T) : List UInt8 := enc6 r ++ flB (α := Int) encI r.2.2.2.2.2.1 ++ Num.putT (encCS (aC r))
def encAS (r : AD.T) : List UInt8 := if goodA r = true then encA r else []
def errA (r : AD.T) : Int := if goodA r = true then 0 else 11

def lstR {α : Type} (one : Int × Bool → α × Int × Bool) : Nat → List α → Int × Bool → List α × Int × Bool
  | 0, acc, q => (acc, q)
  | n + 1, acc, q => if q.2 = true then (acc, q) else lstR one n (acc ++ [(one q).1]) (one q).2
def listR {α : Type} (s : List UInt8) (one : Int × Bool → α × Int × Bool) (q : Int × Bool) : List α × Int × Bool := lstR one (rdN s 1024 q).1.toNat [] (rdN s 1024 q).2
def catOf (t : List UInt8) : CD.T × Bool := if t = [] then (C0, false) else (decCS t, !decide (decCE t = 0))
def qC (s : List UInt8) := rdN s 1000 (0, false)
def qI (s : List UInt8) := rdN s mxI (qC s).2
def qR (s : List UInt8) := rdN s 1000000 (qI s).2
def pN (s : List UInt8) := listR s (oneN s) (qR s).2
def pE (s : List UInt8) := listR s (oneE s) (pN s).2
def pD (s : List UInt8) := listR s (oneI s) (pE s).2
def pT (s : List UInt8) := rdT s 1073741824 (pD s).2
def badR (s : List UInt8) : Bool := (pT s).2.2 || (catOf (pT s).1).2
theorem in0 (s : List UInt8) : inS s (0, false) := ⟨by decide, by dsimp only; omega⟩
theorem inC (s : List UInt8) : inS s (qC s).2 := rdN_in (in0 s)
theorem inI (s : List UInt8) : inS s (qI s).2 := rdN_in (inC s)
theorem inR (s : List UInt8) : inS s (qR s).2 := rdN_in (inI s)
/-! every result is one that memory holds -/
theorem good_n {c : CD.T} (h : goodC c = true) : Wf CD c ∧ c.2.2.1.length ≤ 1000 := ⟨good_wf h, Nat.le_trans (goodC_out h).n3 (by decide)⟩
theorem catOf_wf (t : List UInt8) : Wf CD (catOf t).1 ∧ (catOf t).1.2.2.1.length ≤ 1000 := by
  have h0 : Wf CD C0 ∧ C0.2.2.1.length ≤ 1000 := by
    refine ⟨⟨⟨by decide, fun x hx => by cases hx⟩, ⟨by decide, fun x hx => by cases hx⟩, ⟨by decide, fun x hx => by cases hx⟩, ⟨by decide, fun x hx => by cases hx⟩, by decide⟩, by decide⟩
  unfold catOf
  split
  · exact h0
  · unfold decCS
    cases hd : decO t with
    | none => exact h0
    | some d => exact good_n (enc_dec hd).1
/-! how long bytes are -/
theorem encPs_len {l : List PD.T} (hl : Wf (.list PD) l) : (encPs l).length ≤ 8600 := by
  unfold encPs
  split
  · rename_i h
    have ha := props_all h
    have h1 := encL_len (l := l) fun p hp => ⟨hl.2 p hp, name_len (ha.2 p hp).1⟩
    have h2 := Num.putN_ten (n := l.length) (by have := ha.1; omega)
    have h3 := ha.1
    rw [List.length_append]
    omega
  · simp
theorem encN_len {n : ND.T} (hw : Wf ND n) (hg : goodN n = true) : (encN n).length ≤ 9000 := by
  unfold goodN at hg
  simp only [Bool.and_eq_true] at hg
  have h1 := Num.putN_ten (wrap_u64 n.1).2
  have h2 := putT_b (nameS_len hg.1.2)
  have h3 := encPs_len hw.2.2
  unfold encN
  rw [List.length_append, List.length_append]
  omega
theorem encE_len {n : ED.T} (hw : Wf ED n) (hg : goodE n = true) : (encE n).length ≤ 9000 := by
  unfold goodE at hg
  simp only [Bool.and_eq_true] at hg
  have h1 := Num.putN_ten (wrap_u64 n.1).2
  have h4 := Num.putN_ten (wrap_u64 n.2.2.1).2
  have h5 := Num.putN_ten (wrap_u64 n.2.2.2.1).2
  have h2 := putT_b (nameS_len hg.1.2)
  have h3 := encPs_len hw.2.2.2.2
  unfold encE
  rw [List.length_append, List.length_append, List.length_append, List.length_append]
  omega
theorem flB_le {α : Type} {f : α → List UInt8} {B : Nat} {l : List α} {n : Nat} (h : ∀ x ∈ l, (f x).length ≤ B) (hn : l.length ≤ n) : (flB f l).length ≤ B * n :=
  Nat.le_trans (flB_len f B h) (Nat.mul_le_mul_left B hn)
theorem flB_cut {α : Type} {f : α → List UInt8} {B : Nat} {l : List α} {n : Nat} (h : ∀ x ∈ l, (f x).length ≤ B) (hn : l.length ≤ n) (i : Nat) : (flB f (l.take i)).length ≤ B * n :=
  flB_le (fun x hx => h x (List.mem_of_mem_take hx)) (Nat.le_trans (by rw [List.length_take]; exact Nat.min_le_right _ _) hn)
theorem enc4_len (r : AD.T) : (enc4 r).length ≤ 40 := by
  have h1 := Num.putN_ten (wrap_u64 r.1).2
  have h2 := Num.putN_ten (wrap_u64 r.2.1).2
  have h3 := Num.putN_ten (wrap_u64 r.2.2.1).2
  have h4 := Num.putN_ten (wrap_u64 r.2.2.2.1.length).2
  unfold enc4
  simp only [List.length_append]
  omega
/-- what of a good reply its length hangs on -/
structure ShortA (r : AD.T) : Prop where
  n1 : r.2.2.2.1.length ≤ 1024
  n2 : r.2.2.2.2.1.length ≤ 1024
  n3 : r.2.2.2.2.2.1.length ≤ 1024
  g1 : ∀ x ∈ r.2.2.2.1, (encN x).length ≤ 9000
  g2 : ∀ x ∈ r.2.2.2.2.1, (encE x).length ≤ 9000
theorem encI_len (n : LD.T) : (encI n).length ≤ 10 := Num.putN_ten (wrap_u64 n).2
theorem ShortA.f1 {r : AD.T} (h : ShortA r) (i : Nat) : (flB encN (r.2.2.2.1.take i)).length ≤ 9216000 := flB_cut h.g1 h.n1 i
theorem ShortA.f2 {r : AD.T} (h : ShortA r) (i : Nat) : (flB encE (r.2.2.2.2.1.take i)).length ≤ 9216000 := flB_cut h.g2 h.n2 i
theorem ShortA.f3 {r : AD.T} (h : ShortA r) (i : Nat) : (flB (α := Int) encI (r.2.2.2.2.2.1.take i)).length ≤ 10240 := flB_cut (α := Int) (fun x _ => encI_len x) h.n3 i
theorem ShortA.l5 {r : AD.T} (h : ShortA r) : (enc5 r).length ≤ 9216050 := by
  have h1 := enc4_len r
  have h2 := h.f1 r.2.2.2.1.length
  have h3 := Num.putN_ten (wrap_u64 r.2.2.2.2.1.length).2
  rw [List.take_length] at h2
  unfold enc5
  rw [List.length_append, List.length_append]
  omega
theorem ShortA.l6 {r : AD.T} (h : ShortA r) : (enc6 r).length ≤ 18432060 := by
  have h1 := h.l5
  have h2 := h.f2 r.2.2.2.2.1.length
  have h3 := Num.putN_ten (wrap_u64 r.2.2.2.2.2.1.length).2
  rw [List.take_length] at h2
  unfold enc6
  rw [List.length_append, List.length_append]
  omega
theorem encCS_len (c : CD.T) : (encCS c).length ≤ 1000000 := by
  unfold encCS
  split
  · rename_i h
    have hg := goodC_out h
    have b1 := txtB_len hg.t1
    have b2 := txtB_len hg.t2
    have b3 := flB_len encS 144 (l := c.2.2.1) fun r _ => encS_len r
    have b4 := flB_len ixB 52 (l := c.2.2.2.1) fun x hx => by
      have := hg.il hx
      have q1 := putT_b this.1
      have q2 := putT_b this.2
      unfold ixB; rw [List.length_append]; omega
    have m1 := hg.n1
    have m2 := hg.n2
    have m3 := hg.n3
    have m4 := hg.n4
    have p1 := Num.putN_ten (n := c.1.length) (by omega)
    have p2 := Num.putN_ten (n := c.2.1.length) (by omega)
    have p3 := Num.putN_ten (n := c.2.2.1.length) (by omega)
    have p4 := Num.putN_ten (n := c.2.2.2.1.length) (by omega)
    have p5 := putN_b (show Int from c.2.2.2.2) hg.x1
    have p6 : (Num.putN (Int.toNat c.2.2.2.2)).length ≤ 10 := p5
    unfold catB'
    simp only [List.length_append]
    omega
  · simp
theorem putT_len (t : List UInt8) (h : t.length ≤ 1000000000) : (Num.putT t).length ≤ 10 + t.length := by
  have := Num.putN_ten (n := t.length) (by omega)
  unfold Num.putT
  rw [List.length_append]
  omega
theorem ShortA.len {r : AD.T} (h : ShortA r) : (encA r).length ≤ 100000000 := by
  have h1 := h.l6
  have h2 := h.f3 r.2.2.2.2.2.1.length
  have h3 := encCS_len (aC r)
  have h4 := putT_len (encCS (aC r)) (by omega)
  rw [List.take_length] at h2
  unfold encA
  rw [List.length_append, List.length_append]
  omega
/-- what a good reply is -/
structure GoodA (r : AD.T) : Prop where
  c0 : 0 ≤ (show Int from r.1)
  c1 : (show Int from r.1) ≤ 1000
  i : okId r.2.1 = true
  r0 : 0 ≤ (show Int from r.2.2.1)
  r1 : (show Int from r.2.2.1) ≤ 1000000
  n1 : r.2.2.2.1.length ≤ 1024
  n2 : r.2.2.2.2.1.length ≤ 1024
  n3 : r.2.2.2.2.2.1.length ≤ 1024
  g1 : ∀ x ∈ r.2.2.2.1, goodN x = true
  g2 : ∀ x ∈ r.2.2.2.2.1, goodE x = true
  g3 : ∀ x ∈ (show List Int from r.2.2.2.2.2.1), okId x = true
  cat : (emptyC (aC r) || goodC (aC r)) = true
theorem goodA_out {r : AD.T} (h : goodA r = true) : GoodA r := by
  obtain ⟨c, i, u, ns, es, is, k⟩ := r
  unfold goodA headA bndA idsS at h
  simp only [Bool.and_eq_true, Bool.not_eq_true', Bool.or_eq_false_iff, decide_eq_false_iff_not, List.all_eq_true] at h
  obtain ⟨⟨⟨⟨⟨⟨⟨⟨h1, h2⟩, h3⟩, h4⟩, h5⟩, h6⟩, h7⟩, h8, h9⟩, h10, h11, h12⟩ := h
  exact ⟨Int.not_lt.1 h1, Int.not_lt.1 h2, h8, Int.not_lt.1 h3, Int.not_lt.1 h4, by show ns.length ≤ _; omega, by show es.length ≤ _; omega, by show is.length ≤ _; omega, h10, h11, h9, h12⟩
theorem GoodA.short {r : AD.T} (hw : Wf AD r) (h : GoodA r) : ShortA r := ⟨h.n1, h.n2, h.n3, fun x hx => encN_len (hw.2.2.2.1.2 x hx) (h.g1 x hx), fun x hx => encE_len (hw.2.2.2.2.1.2 x hx) (h.g2 x hx)⟩
theorem encA_len {r : AD.T} (hw : Wf AD r) (h : goodA r = true) : (encA r).length ≤ 100000000 := ((goodA_out h).short hw).len
end Go.Proofs.YtmdjonckcapkeaaGreatDoor.Ans
/- What a session is, and what is done with it; no program in sight. Own work. -/
set_option linter.unusedVariables false
set_option maxRecDepth 100000
namespace Go.Proofs.YtmdjonckcapkeaaGreatDoor
open Go Go.RowKit OE

/-- a session: bytes that came in, the channel (what lies in it, how many were sent and received), the head and whether it is there, what goes out, closed -/
structure Ss where
  inp : List UInt8
  xs : List MD.T
  s : Nat
  r : Nat
  hd : MD.T
  there : Bool
  out : List UInt8
  cl : Bool
def Ss.q (a : Ss) : List MD.T := if a.there = true then a.hd :: a.xs else a.xs
def S0 : Ss := ⟨[], [], 0, 0, MD.df, false, [], false⟩
def headS (a : Ss) : Ss := if a.there = true then a else match a.xs with
  | [] => a
  | y :: ys => { a with xs := ys, r := a.r + 1, hd := y, there := true }
def nx1 (s : List UInt8) : List UInt8 := (nextM s).1
def nx2 (s : List UInt8) : Int := (nextM s).2.1
def nx3 (s : List UInt8) : Int := (nextM s).2.2
def badF (a : Ss) : Bool := !decide (nx3 a.inp = 0) || (decide (0 < nx2 a.inp) && decide (a.q.length = 64))
def takeF (a : Ss) : Ss := { a with xs := a.xs ++ [decM (nx1 a.inp)], s := a.s + 1, inp := a.inp.drop (nx2 a.inp).toNat }
def fdL : Nat → Ss → Ss
  | 0, a => a
  | n + 1, a => if badF a = true then { a with inp := [], cl := true } else if nx2 a.inp = 0 then a else fdL n (takeF a)
def feedS (a : Ss) (d : List UInt8) : Ss := if a.cl = true then a else fdL (a.inp.length + d.length + 1) { a with inp := a.inp ++ d }
def ansS (a : Ss) (r : Ans.AD.T) : Ss × Int := if (headS a).there = false then (headS a, 60) else if Ans.goodA r = true then ({ headS a with there := false, out := a.out ++ Num.putT (Ans.encA r) }, 0) else (headS a, 11)
theorem nx_bd (s : List UInt8) : 0 ≤ nx2 s ∧ nx2 s ≤ s.length := by
  unfold nx2 nextM
  split
  · exact ⟨Int.le_refl 0, Int.natCast_nonneg _⟩
  split
  · exact ⟨Int.le_refl 0, Int.natCast_nonneg _⟩
  split
  · exact ⟨Int.le_refl 0, Int.natCast_nonneg _⟩
  · exact ⟨Int.natCast_nonneg _, by dsimp only; omega⟩
theorem nx1_le (s : List UInt8) : (nx1 s).length ≤ s.length := by
  unfold nx1 nextM
  split
  · exact Nat.zero_le _
  split
  · exact Nat.zero_le _
  split
  · exact Nat.zero_le _
  · dsimp only
    rw [List.length_take, List.length_drop]
    omega
theorem q_len (a : Ss) : a.q.length = a.xs.length + (if a.there = true then 1 else 0) := by
  unfold Ss.q
  split <;> simp
theorem take_q (a : Ss) : (takeF a).q = a.q ++ [decM (nx1 a.inp)] := by
  unfold Ss.q takeF
  dsimp only
  split
  · rfl
  · rfl
theorem head_q (a : Ss) : (headS a).q = a.q := by
  unfold headS
  by_cases h : a.there = true
  · rw [if_pos h]
  · rw [if_neg h]
    have h : a.there = false := by simpa using h
    obtain ⟨i, xs, s, r, hd, t, o, c⟩ := a
    have h : t = false := h
    subst h
    cases xs <;> rfl
theorem head_there (a : Ss) : (headS a).there = !decide (a.q = []) := by
  unfold headS Ss.q
  obtain ⟨i, xs, s, r, hd, t, o, c⟩ := a
  cases t with
  | true => simp
  | false => cases xs <;> simp
end Go.Proofs.YtmdjonckcapkeaaGreatDoor
/- The walks of answer.writer.props, Encode, Message. Own work. -/
set_option linter.unusedVariables false
set_option maxRecDepth 100000
namespace Go.Proofs.YtmdjonckcapkeaaGreatDoor.Ans
open Go Go.RowKit OE

abbrev wT : Nat := 149
theorem writer_props (bs : List UInt8) (l : List PD.T) (hl : Wf (.list PD) l) (hb : bs.length + (encPs l).length ≤ 140737488355328) :
    FnP Tryz.prog 68 [.c (.ptr 0 0), .c (.dat PD l)] (hpB wT (.ptr 0 0) bs) 2 kpB .un (hpC wT (bs ++ encPs l)) 3 := by
  refine fnP noI Tryz.func68 rfl rfl rfl rfl ?_
  conv => whnf
  refine call1 (val_EncodeProps l hl) rfl ?_
  conv => whnf
  refine callp0 [0, 1] rfl rfl (ww_WriteString (.ptr 0 0) (.inr rfl) bs (encPs l) hb) rfl rfl rfl rfl rfl ?_
  conv => whnf
  refine ⟨rfl, ?_, ?_, ?_⟩ <;> (repeat' apply And.intro) <;> first | exact trivial | rfl | assumption
abbrev enSt (r : AD.T) (bs : List UInt8) (fr : List (Nat × SV)) : St := ⟨(1, .c (.ptr 0 0)) :: (4, .c (.ptr 1 0)) :: fr, [(0, .cells 40 (ac r)), (1, .cells wT [.ptr 1 0, .row 2]), (2, .row 5 (.int .u8) (byI bs))], 3⟩
theorem putN_ne (n : Nat) : Num.putN n ≠ [] := by
  intro h
  rw [Num.putN] at h
  split at h <;> cases h
theorem encA_ne (r : AD.T) : encA r ≠ [] := by
  intro h
  unfold encA Num.putT at h
  exact putN_ne _ (List.append_eq_nil_iff.1 (List.append_eq_nil_iff.1 h).2).1
theorem ans_Encode (r : AD.T) (hw : Wf AD r) (hl : (aC r).2.2.1.length ≤ 1000) : FnD Tryz.prog 45 [.agg (ac r)] (· = .tup [(false, [.str (encAS r)]), (false, [.int .i64 (errA r)])]) := by
  refine fn0 Tryz.func45 rfl rfl rfl ?_
  conv => whnf
  refine call1 (ans_Good r hw hl) rfl ?_
  conv => whnf
  refine ⟨fun g => ?_, fun g => ?_⟩
  · have g : ¬ goodA r = true := by revert g; cases goodA r <;> simp
    rw [show encAS r = [] from if_neg g, show errA r = 11 from if_neg g]
    conv => whnf
  have g : goodA r = true := by revert g; cases goodA r <;> simp
  rw [show encAS r = encA r from if_pos g, show errA r = 0 from if_pos g]
  have hg := goodA_out g
  have hsh := hg.short hw
  have p1 := Num.putN_ten (wrap_u64 r.1).2
  have p2 := Num.putN_ten (wrap_u64 r.2.1).2
  have p3 := Num.putN_ten (wrap_u64 r.2.2.1).2
  have l4 := enc4_len r
  have l5 := hsh.l5
  have l6 := hsh.l6
  conv => whnf
  refine nilrc0 1 1 5 (.int .u8) rfl rfl ?_
  conv => whnf
  refine callp0 [1, 2] rfl rfl (writer_number0 [] r.1 (by decide)) rfl rfl rfl rfl rfl ?_
  conv => whnf
  refine callp0 [1, 3] rfl rfl (writer_number ([] ++ Num.putN (u64 r.1)) r.2.1 (by rw [List.nil_append]; omega)) rfl rfl rfl rfl rfl ?_
  conv => whnf
  refine callp0 [1, 4] rfl rfl (writer_number ([] ++ Num.putN (u64 r.1) ++ Num.putN (u64 r.2.1)) r.2.2.1 (by rw [List.nil_append, List.length_append]; omega)) rfl rfl rfl rfl rfl ?_
  conv => whnf
  intro _
  conv => whnf
  refine callp0 [1, 5] rfl rfl (writer_number ([] ++ Num.putN (u64 r.1) ++ Num.putN (u64 r.2.1) ++ Num.putN (u64 r.2.2.1)) r.2.2.2.1.length (by rw [List.nil_append, List.length_append, List.length_append]; omega)) rfl rfl rfl rfl rfl ?_
  conv => whnf
  intro _
  conv => whnf
  refine loop0 (α := Nat) (fun i => i ≤ r.2.2.2.1.length) (fun i => enSt r (enc4 r ++ flB encN (r.2.2.2.1.take i)) [(36, .c (.dat ND r.2.2.2.1)), (37, .c (.int .i64 r.2.2.2.1.length)), (38, .c (.int .i64 i))]) (fun i => r.2.2.2.1.length - i) ⟨0, by omega, ?_⟩ ?_
  · rw [List.take_zero, show flB encN [] = [] from rfl, List.append_nil]
    (conv => whnf); refine ⟨rfl, ?_, ?_, ?_⟩ <;> (repeat' apply And.intro) <;> first | exact trivial | rfl | exact wr_succ _ (by omega) | assumption | exact decide_eq_false (by assumption) | exact decide_eq_true (by assumption)
  rintro i hi
  conv => whnf
  refine ⟨fun h2 => ?_, fun h2 => ?_⟩
  · have h2 : i < r.2.2.2.1.length := by rw [decide_eq_true_eq] at h2; omega
    have f1 := hsh.f1 i
    have q1 := Num.putN_ten (wrap_u64 r.2.2.2.1[i].1).2
    have hgn := hg.g1 _ (List.getElem_mem h2)
    have hwn := hw.2.2.2.1.2 _ (List.getElem_mem h2)
    have hen := hsh.g1 _ (List.getElem_mem h2)
    have hnl : r.2.2.2.1[i].2.1.length ≤ 140737488351232 := hwn.2.1
    have htl : (Num.putT r.2.2.2.1[i].2.1).length ≤ 26 := putT_b (nameS_len (by unfold goodN at hgn; simp only [Bool.and_eq_true] at hgn; exact hgn.1.2))
    have hpl := encPs_len hwn.2.2
    conv => whnf
    try (intro _; conv => whnf)
    refine ⟨by omega, ?_⟩
    rw [gt_nat (d := ND) r.2.2.2.1 i h2]
    conv => whnf
    refine callp0 [1, 2] rfl rfl (writer_number (enc4 r ++ flB encN (r.2.2.2.1.take i)) r.2.2.2.1[i].1 (by rw [List.length_append]; omega)) rfl rfl rfl rfl rfl ?_
    conv => whnf
    refine any0 ?_
    conv => whnf
    refine callr0 (num_PutText r.2.2.2.1[i].2.1 (by omega)) rfl ?_
    conv => whnf
    refine callrp0 [1, 4] rfl rfl rfl (ww_WriteString (.ptr 0 0) (.inr rfl) (enc4 r ++ flB encN (r.2.2.2.1.take i) ++ Num.putN (u64 r.2.2.2.1[i].1)) (Num.putT r.2.2.2.1[i].2.1) (by simp only [List.length_append]; omega)) rfl rfl rfl rfl rfl rfl [] rfl rfl ?_
    conv => whnf
    refine ⟨.inl (by kernel_rfl), after0 ?_⟩
    conv => whnf
    refine callp0 [1, 11] rfl rfl (writer_props (enc4 r ++ flB encN (r.2.2.2.1.take i) ++ Num.putN (u64 r.2.2.2.1[i].1) ++ Num.putT r.2.2.2.1[i].2.1) r.2.2.2.1[i].2.2 hwn.2.2 (by simp only [List.length_append]; omega)) rfl rfl rfl rfl rfl ?_
    conv => whnf
    refine ⟨i + 1, ⟨by omega, by omega⟩, ?_⟩
    rw [flB_step encN h2, show enc4 r ++ (flB encN (r.2.2.2.1.take i) ++ encN r.2.2.2.1[i]) = enc4 r ++ flB encN (r.2.2.2.1.take i) ++ Num.putN (u64 r.2.2.2.1[i].1) ++ Num.putT r.2.2.2.1[i].2.1 ++ encPs r.2.2.2.1[i].2.2 by unfold encN; simp only [List.append_assoc]]
    (conv => whnf); refine ⟨rfl, ?_, ?_, ?_⟩ <;> (repeat' apply And.intro) <;> first | exact trivial | rfl | exact wr_succ _ (by omega) | assumption | exact decide_eq_false (by assumption) | exact decide_eq_true (by assumption)
  have h2 : r.2.2.2.1.length ≤ i := by rw [decide_eq_false_iff_not] at h2; omega
  rw [List.take_of_length_le h2]
  clear h2 hi
  have f1 := hsh.f1 r.2.2.2.1.length
  rw [List.take_length] at f1
  conv => whnf
  intro _
  conv => whnf
  refine callp0 [1, 2] rfl rfl (writer_number (enc4 r ++ flB encN r.2.2.2.1) r.2.2.2.2.1.length (by rw [List.length_append]; omega)) rfl rfl rfl rfl rfl ?_
  conv => whnf
  rw [show enc4 r ++ flB encN r.2.2.2.1 ++ Num.putN (u64 r.2.2.2.2.1.length) = enc5 r from rfl]
  intro _
  conv => whnf
  refine loop0 (α := Nat) (fun i => i ≤ r.2.2.2.2.1.length) (fun i => enSt r (enc5 r ++ flB encE (r.2.2.2.2.1.take i)) [(64, .c (.dat ED r.2.2.2.2.1)), (65, .c (.int .i64 r.2.2.2.2.1.length)), (66, .c (.int .i64 i))]) (fun i => r.2.2.2.2.1.length - i) ⟨0, by omega, ?_⟩ ?_
  · rw [List.take_zero, show flB encE [] = [] from rfl, List.append_nil]
    (conv => whnf); refine ⟨rfl, ?_, ?_, ?_⟩ <;> (repeat' apply And.intro) <;> first | exact trivial | rfl | exact wr_succ _ (by omega) | assumption | exact decide_eq_false (by assumption) | exact decide_eq_true (by assumption)
  rintro i hi
  conv => whnf
  refine ⟨fun h2 => ?_, fun h2 => ?_⟩
  · have h2 : i < r.2.2.2.2.1.length := by rw [decide_eq_true_eq] at h2; omega
    have f2 := hsh.f2 i
    have q1 := Num.putN_ten (wrap_u64 r.2.2.2.2.1[i].1).2
    have q2 := Num.putN_ten (wrap_u64 r.2.2.2.2.1[i].2.2.1).2
    have q3 := Num.putN_ten (wrap_u64 r.2.2.2.2.1[i].2.2.2.1).2
    have hgn := hg.g2 _ (List.getElem_mem h2)
    have hwn := hw.2.2.2.2.1.2 _ (List.getElem_mem h2)
    have hnl : r.2.2.2.2.1[i].2.1.length ≤ 140737488351232 := hwn.2.1
    have htl : (Num.putT r.2.2.2.2.1[i].2.1).length ≤ 26 := putT_b (nameS_len (by unfold goodE at hgn; simp only [Bool.and_eq_true] at hgn; exact hgn.1.2))
    have hpl := encPs_len hwn.2.2.2.2
    conv => whnf
    try (intro _; conv => whnf)
    refine ⟨by omega, ?_⟩
    rw [gt_nat (d := ED) r.2.2.2.2.1 i h2]
    conv => whnf
    refine callp0 [1, 2] rfl rfl (writer_number (enc5 r ++ flB encE (r.2.2.2.2.1.take i)) r.2.2.2.2.1[i].1 (by rw [List.length_append]; omega)) rfl rfl rfl rfl rfl ?_
    conv => whnf
    refine any0 ?_
    conv => whnf
    refine callr0 (num_PutText r.2.2.2.2.1[i].2.1 (by omega)) rfl ?_
    conv => whnf
    refine callrp0 [1, 4] rfl rfl rfl (ww_WriteString (.ptr 0 0) (.inr rfl) (enc5 r ++ flB encE (r.2.2.2.2.1.take i) ++ Num.putN (u64 r.2.2.2.2.1[i].1)) (Num.putT r.2.2.2.2.1[i].2.1) (by simp only [List.length_append]; omega)) rfl rfl rfl rfl rfl rfl [] rfl rfl ?_
    conv => whnf
    refine ⟨.inl (by kernel_rfl), after0 ?_⟩
    conv => whnf
    refine callp0 [1, 11] rfl rfl (writer_number (enc5 r ++ flB encE (r.2.2.2.2.1.take i) ++ Num.putN (u64 r.2.2.2.2.1[i].1) ++ Num.putT r.2.2.2.2.1[i].2.1) r.2.2.2.2.1[i].2.2.1 (by simp only [List.length_append]; omega)) rfl rfl rfl rfl rfl ?_
    conv => whnf
    refine callp0 [1, 12] rfl rfl (writer_number (enc5 r ++ flB encE (r.2.2.2.2.1.take i) ++ Num.putN (u64 r.2.2.2.2.1[i].1) ++ Num.putT r.2.2.2.2.1[i].2.1 ++ Num.putN (u64 r.2.2.2.2.1[i].2.2.1)) r.2.2.2.2.1[i].2.2.2.1 (by simp only [List.length_append]; omega)) rfl rfl rfl rfl rfl ?_
    conv => whnf
    refine callp0 [1, 13] rfl rfl (writer_props (enc5 r ++ flB encE (r.2.2.2.2.1.take i) ++ Num.putN (u64 r.2.2.2.2.1[i].1) ++ Num.putT r.2.2.2.2.1[i].2.1 ++ Num.putN (u64 r.2.2.2.2.1[i].2.2.1) ++ Num.putN (u64 r.2.2.2.2.1[i].2.2.2.1)) r.2.2.2.2.1[i].2.2.2.2 hwn.2.2.2.2 (by simp only [List.length_append]; omega)) rfl rfl rfl rfl rfl ?_
    conv => whnf
    refine ⟨i + 1, ⟨by omega, by omega⟩, ?_⟩
    rw [flB_step encE h2, show enc5 r ++ (flB encE (r.2.2.2.2.1.take i) ++ encE r.2.2.2.2.1[i]) = enc5 r ++ flB encE (r.2.2.2.2.1.take i) ++ Num.putN (u64 r.2.2.2.2.1[i].1) ++ Num.putT r.2.2.2.2.1[i].2.1 ++ Num.putN (u64 r.2.2.2.2.1[i].2.2.1) ++ Num.putN (u64 r.2.2.2.2.1[i].2.2.2.1) ++ encPs r.2.2.2.2.1[i].2.2.2.2 by unfold encE; simp only [List.append_assoc]]
    (conv => whnf); refine ⟨rfl, ?_, ?_, ?_⟩ <;> (repeat' apply And.intro) <;> first | exact trivial | rfl | exact wr_succ _ (by omega) | assumption | exact decide_eq_false (by assumption) | exact decide_eq_true (by assumption)
  have h2 : r.2.2.2.2.1.length ≤ i := by rw [decide_eq_false_iff_not] at h2; omega
  rw [List.take_of_length_le h2]
  clear h2 hi
  have f2 := hsh.f2 r.2.2.2.2.1.length
  rw [List.take_length] at f2
  conv => whnf
  intro _
  conv => whnf
  refine callp0 [1, 2] rfl rfl (writer_number (enc5 r ++ flB encE r.2.2.2.2.1) r.2.2.2.2.2.1.length (by rw [List.length_append]; omega)) rfl rfl rfl rfl rfl ?_
  conv => whnf
  rw [show enc5 r ++ flB encE r.2.2.2.2.1 ++ Num.putN (u64 r.2.2.2.2.2.1.length) = enc6 r from rfl]
  intro _
  conv => whnf
  refine loop0 (α := Nat) (fun i => i ≤ r.2.2.2.2.2.1.length) (fun i => enSt r (enc6 r ++ flB (α := Int) encI (r.2.2.2.2.2.1.take i)) [(100, .c (.dat LD r.2.2.2.2.2.1)), (101, .c (.int .i64 r.2.2.2.2.2.1.length)), (102, .c (.int .i64 i))]) (fun i => r.2.2.2.2.2.1.length - i) ⟨0, by omega, ?_⟩ ?_
  · rw [List.take_zero, show flB (α := Int) encI [] = [] from rfl, List.append_nil]
    (conv => whnf); refine ⟨rfl, ?_, ?_, ?_⟩ <;> (repeat' apply And.intro) <;> first | exact trivial | rfl | exact wr_succ _ (by omega) | assumption | exact decide_eq_false (by assumption) | exact decide_eq_true (by assumption)
  rintro i hi
  conv => whnf
  refine ⟨fun h2 => ?_, fun h2 => ?_⟩
  · have h2 : i < r.2.2.2.2.2.1.length := by rw [decide_eq_true_eq] at h2; omega
    have f3 := hsh.f3 i
    conv => whnf
    try (intro _; conv => whnf)
    refine ⟨by omega, ?_⟩
    rw [gt_nat (d := LD) r.2.2.2.2.2.1 i h2]
    conv => whnf
    refine callp0 [1, 2] rfl rfl (writer_number (enc6 r ++ flB (α := Int) encI (r.2.2.2.2.2.1.take i)) r.2.2.2.2.2.1[i] (by rw [List.length_append]; omega)) rfl rfl rfl rfl rfl ?_
    conv => whnf
    refine ⟨i + 1, ⟨by omega, by omega⟩, ?_⟩
    rw [show flB (α := Int) encI (r.2.2.2.2.2.1.take (i + 1)) = flB (α := Int) encI (r.2.2.2.2.2.1.take i) ++ encI r.2.2.2.2.2.1[i] from flB_step (α := Int) encI h2, ← List.append_assoc]
    (conv => whnf); refine ⟨rfl, ?_, ?_, ?_⟩ <;> (repeat' apply And.intro) <;> first | exact trivial | rfl | exact wr_succ _ (by omega) | assumption | exact decide_eq_false (by assumption) | exact decide_eq_true (by assumption)
  have h2 : r.2.2.2.2.2.1.length ≤ i := by rw [decide_eq_false_iff_not] at h2; omega
  rw [List.take_of_length_le h2]
  clear h2 hi
  have f3 := hsh.f3 r.2.2.2.2.2.1.length
  rw [List.take_length] at f3
  have f4 := encCS_len (aC r)
  have f5 := putT_len (encCS (aC r)) (by omega)
  conv => whnf
  refine call1 (cat_Encode (aC r) hw.2.2.2.2.2.2 hl) rfl ?_
  conv => whnf
  refine any0 ?_
  conv => whnf
  refine callr0 (num_PutText (encCS (aC r)) (by omega)) rfl ?_
  conv => whnf
  refine callrp0 [1, 2] rfl rfl rfl (ww_WriteString (.ptr 0 0) (.inr rfl) (enc6 r ++ flB (α := Int) encI r.2.2.2.2.2.1) (Num.putT (encCS (aC r))) (by simp only [List.length_append]; omega)) rfl rfl rfl rfl rfl rfl [] rfl rfl ?_
  conv => whnf
  refine ⟨.inl (by kernel_rfl), after0 ?_⟩
  conv => whnf
  rw [show enc6 r ++ flB (α := Int) encI r.2.2.2.2.2.1 ++ Num.putT (encCS (aC r)) = encA r from rfl]
  refine callp0 [1, 8] rfl rfl (sb_String wT (.ptr 0 0) (.inr rfl) (encA r) (encA_ne r)) rfl rfl rfl rfl rfl ?_
  conv => whnf
def msgA (r : AD.T) : List UInt8 := if goodA r = true then Num.putT (encA r) else []
theorem ans_Message (r : AD.T) (hw : Wf AD r) (hl : (aC r).2.2.1.length ≤ 1000) : FnD Tryz.prog 27 [.agg (ac r)] (· = .tup [(false, [.str (msgA r)]), (false, [.int .i64 (errA r)])]) := by
  refine fn0 Tryz.func27 rfl rfl rfl ?_
  conv => whnf
  refine call1 (ans_Encode r hw hl) rfl ?_
  conv => whnf
  by_cases g : goodA r = true
  · rw [show encAS r = encA r from if_pos g, show errA r = 0 from if_pos g, show msgA r = Num.putT (encA r) from if_pos g]
    refine fk rfl ?_
    conv => whnf
    refine call1 (num_PutText (encA r) (by have := encA_len hw g; omega)) rfl ?_
    conv => whnf
  · rw [show encAS r = [] from if_neg g, show errA r = 11 from if_neg g, show msgA r = [] from if_neg g]
    refine tk rfl ?_
    conv => whnf
end Go.Proofs.YtmdjonckcapkeaaGreatDoor.Ans
/- The walks of sess.Session: New, Closed, Waiting, Held, Take, Head, Answer, Feed. Own work. -/
set_option linter.unusedVariables false
set_option maxRecDepth 100000
namespace Go.Proofs.YtmdjonckcapkeaaGreatDoor
open Go Go.RowKit OE

abbrev sT : Nat := 62
abbrev scs (a : Ss) : List C := .str a.inp :: .chn 1 :: (mc a.hd ++ [.bool (.sym a.there), .str a.out, .bool (.sym a.cl)])
abbrev hpS (a : Ss) : List (Nat × Ob) := [(0, .cells sT (scs a)), (1, .chan 64 MD a.xs a.s a.r)]
abbrev kpS : List (Nat × Bool) := [(0, false), (1, false)]
theorem sess_New : FnP Tryz.prog 4 [] [] 0 [] (.c (.ptr 0 0)) (hpS S0) 2 := by
  obtain ⟨i0, hi, hii⟩ := Option.map_eq_some_iff.1 (show (Tryz.prog.info? 55).map (fun i => decide (i.bytes ≤ 10000)) = some true by kernel_rfl)
  have hii := of_decide_eq_true hii
  refine fnP noI Tryz.func4 rfl rfl rfl rfl ?_
  conv => whnf
  refine mkchan0 MD (m := 64) i0 rfl rfl Tryz.underlying60 hi (by omega) (by decide) ?_
  conv => whnf
  refine ⟨rfl, ?_, ?_, ?_⟩ <;> (repeat' apply And.intro) <;> first | exact trivial | rfl | assumption
theorem sess_Closed (a : Ss) : FnP Tryz.prog 18 [.c (.ptr 0 0)] (hpS a) 2 kpS (.c (.bool (.sym a.cl))) (hpS a) 2 := by
  refine fnP noI Tryz.func18 rfl rfl rfl rfl ?_
  conv => whnf
  refine ⟨rfl, ?_, ?_, ?_⟩ <;> (repeat' apply And.intro) <;> first | exact trivial | rfl | assumption
theorem sess_Held (a : Ss) : FnP Tryz.prog 20 [.c (.ptr 0 0)] (hpS a) 2 kpS (.c (.int .i64 a.inp.length)) (hpS a) 2 := by
  refine fnP noI Tryz.func20 rfl rfl rfl rfl ?_
  conv => whnf
  refine ⟨rfl, ?_, ?_, ?_⟩ <;> (repeat' apply And.intro) <;> first | exact trivial | rfl | assumption
theorem sess_Take (a : Ss) : FnP Tryz.prog 11 [.c (.ptr 0 0)] (hpS a) 2 kpS (.c (.str a.out)) (hpS { a with out := [] }) 2 := by
  refine fnP noI Tryz.func11 rfl rfl rfl rfl ?_
  conv => whnf
  refine ⟨rfl, ?_, ?_, ?_⟩ <;> (repeat' apply And.intro) <;> first | exact trivial | rfl | assumption
theorem sess_Waiting (a : Ss) (h : a.xs.length ≤ 64) : FnP Tryz.prog 16 [.c (.ptr 0 0)] (hpS a) 2 kpS (.c (.int .i64 a.q.length)) (hpS a) 2 := by
  refine fnP noI Tryz.func16 rfl rfl rfl rfl ?_
  conv => whnf
  refine lenchan0 rfl Tryz.underlying60 rfl rfl ?_
  conv => whnf
  refine ⟨fun t => ?_, fun t => ?_⟩
  · have e : ((a.q.length : Nat) : Int) = IntKind.wrap .i64 ((a.xs.length : Int) + 1) := by rw [q_len, if_pos t, wr64 _ (by omega) (by omega)]; omega
    rw [e]
    conv => whnf
    refine ⟨rfl, ?_, ?_, ?_⟩ <;> (repeat' apply And.intro) <;> first | exact trivial | rfl | assumption
  · have e : a.q.length = a.xs.length := by rw [q_len, if_neg (by rw [t]; decide)]; omega
    rw [e]
    conv => whnf
    refine ⟨rfl, ?_, ?_, ?_⟩ <;> (repeat' apply And.intro) <;> first | exact trivial | rfl | assumption
theorem zero_cmd (w : World) : (zeroValue 55).run Tryz.prog w = .ok (MD.v MD.df) w := by
  rfl
theorem sess_Head (a : Ss) : FnP Tryz.prog 13 [.c (.ptr 0 0)] (hpS a) 2 kpS (.tup [(true, mc (if (headS a).there = true then (headS a).hd else MD.df)), (false, [.bool (.sym (headS a).there)])]) (hpS (headS a)) 2 := by
  obtain ⟨i, xs, s, r, hd, t, o, c⟩ := a
  refine fnP noI Tryz.func13 rfl rfl rfl rfl ?_
  conv => whnf
  cases t with
  | true =>
    refine fk rfl ?_
    conv => whnf
    refine ⟨rfl, ?_, ?_, ?_⟩ <;> (repeat' apply And.intro) <;> first | exact trivial | rfl | assumption
  | false =>
    refine tk rfl ?_
    conv => whnf
    refine sel0 0 rfl rfl rfl rfl rfl rfl rfl rfl MD.df (fun w => zero_cmd w) (fun hx => ?_) (fun y ys hx => ?_)
    · subst hx
      conv => whnf
      refine ⟨fun h => absurd h (by decide), fun _ => ?_⟩
      conv => whnf
      refine ⟨rfl, ?_, ?_, ?_⟩ <;> (repeat' apply And.intro) <;> first | exact trivial | rfl | assumption
    · subst hx
      conv => whnf
      refine ⟨fun _ => ?_, fun h => absurd h (by decide)⟩
      conv => whnf
      refine ⟨rfl, ?_, ?_, ?_⟩ <;> (repeat' apply And.intro) <;> first | exact trivial | rfl | assumption
theorem sess_Answer (a : Ss) (r : Ans.AD.T) (hw : Wf Ans.AD r) (hl : (Ans.aC r).2.2.1.length ≤ 1000) (ho : a.out.length ≤ 1000000000000) : FnP Tryz.prog 9 [.c (.ptr 0 0), .agg (Ans.ac r)] (hpS a) 2 kpS (.c (.int .i64 (ansS a r).2)) (hpS (ansS a r).1) 2 := by
  refine fnP noI Tryz.func9 rfl rfl rfl rfl ?_
  conv => whnf
  refine callp0 [0, 1] rfl rfl (sess_Head a) rfl rfl rfl rfl rfl ?_
  conv => whnf
  have hb : (headS a).out = a.out := by
    unfold headS
    split
    · rfl
    · split <;> rfl
  generalize (if (headS a).there = true then (headS a).hd else MD.df) = m
  refine ⟨fun h => ?_, fun h => ?_⟩
  · rw [show ansS a r = (headS a, 60) from if_pos (by simpa using h)]
    conv => whnf
    refine ⟨rfl, ?_, ?_, ?_⟩ <;> (repeat' apply And.intro) <;> first | exact trivial | rfl | assumption
  have h : ¬ (headS a).there = false := by simpa using h
  conv => whnf
  refine call1 (Ans.ans_Message r hw hl) rfl ?_
  conv => whnf
  by_cases g : Ans.goodA r = true
  · rw [show ansS a r = ({ headS a with there := false, out := a.out ++ Num.putT (Ans.encA r) }, 0) from (if_neg h).trans (if_pos g), show Ans.errA r = 0 from if_pos g, show Ans.msgA r = Num.putT (Ans.encA r) from if_pos g]
    have hl2 := Ans.putT_len (Ans.encA r) (by have := Ans.encA_len hw g; omega)
    have hl3 := Ans.encA_len hw g
    refine fk rfl ?_
    conv => whnf
    rw [hb]
    refine ⟨by omega, ?_⟩
    conv => whnf
    refine ⟨rfl, ?_, ?_, ?_⟩ <;> (repeat' apply And.intro) <;> first | exact trivial | rfl | assumption
  · rw [show ansS a r = (headS a, 11) from (if_neg h).trans (if_neg g), show Ans.errA r = 11 from if_neg g]
    refine tk rfl ?_
    conv => whnf
    refine ⟨rfl, ?_, ?_, ?_⟩ <;> (repeat' apply And.intro) <;> first | exact trivial | rfl | assumption
theorem sess_Feed (a : Ss) (d : List UInt8) (hb : a.inp.length + d.length ≤ 100000000) (hq : a.q.length ≤ 64) : FnP Tryz.prog 7 [.c (.ptr 0 0), .c (.str d)] (hpS a) 2 kpS .un (hpS (feedS a d)) 2 := by
  refine fnP noI Tryz.func7 rfl rfl rfl rfl ?_
  conv => whnf
  refine callp0 [0, 1] rfl rfl (sess_Closed a) rfl rfl rfl rfl rfl ?_
  conv => whnf
  refine ⟨fun c => ?_, fun c => ?_⟩
  · have c : a.cl = true := c
    rw [show feedS a d = a from if_pos c]
    conv => whnf
    refine ⟨rfl, ?_, ?_, ?_⟩ <;> (repeat' apply And.intro) <;> first | exact trivial | rfl | assumption
  have c : a.cl = false := c
  conv => whnf
  refine ⟨by omega, ?_⟩
  conv => whnf
  refine loop0 (α := Ss × Nat) (fun p => p.1.inp.length + 1 ≤ p.2 ∧ p.1.q.length ≤ 64 ∧ p.1.inp.length ≤ 100000000 ∧ fdL p.2 p.1 = feedS a d) (fun p => ⟨[(0, .c (.ptr 0 0))], hpS p.1, 2⟩) (fun p => p.2) ⟨({ a with inp := a.inp ++ d }, a.inp.length + d.length + 1), ⟨by dsimp only; rw [List.length_append]; omega, hq, by dsimp only; rw [List.length_append]; omega, (if_neg (by rw [c]; decide)).symm⟩, ?_⟩ ?_
  · (conv => whnf); refine ⟨rfl, ?_, ?_, ?_⟩ <;> (repeat' apply And.intro) <;> first | exact trivial | rfl | exact wr_succ _ (by omega) | assumption | exact decide_eq_false (by assumption) | exact decide_eq_true (by assumption)
  rintro ⟨x, n⟩ ⟨hn, hq, hl, hE⟩
  dsimp only at hn hq hl hE ⊢
  obtain ⟨m, rfl⟩ : ∃ m, n = m + 1 := ⟨n - 1, by omega⟩
  conv => whnf
  refine call1 (wire_Next x.inp hl) rfl ?_
  conv => whnf
  refine ⟨fun e => ?_, fun e => ?_⟩
  · have e : (!decide (nx3 x.inp = 0)) = true := e
    have hB : badF x = true := by unfold badF; rw [e]; rfl
    rw [← hE, show fdL (m + 1) x = { x with inp := [], cl := true } from if_pos hB]
    conv => whnf
    refine ⟨rfl, ?_, ?_, ?_⟩ <;> (repeat' apply And.intro) <;> first | exact trivial | rfl | assumption
  have e : (!decide (nx3 x.inp = 0)) = false := e
  conv => whnf
  refine ⟨fun z => ?_, fun z => ?_⟩
  · have z : decide (0 < nx2 x.inp) = true := z
    conv => whnf
    have hxs : x.xs.length ≤ 64 := by rw [q_len] at hq; omega
    refine callp0 [0, 1] rfl rfl (sess_Waiting x hxs) rfl rfl rfl rfl rfl ?_
    conv => whnf
    refine ⟨fun y => ?_, fun y => ?_⟩
    · have y : x.q.length = 64 := by rw [decide_eq_true_eq] at y; omega
      have hB : badF x = true := by unfold badF; rw [z, decide_eq_true y]; simp
      rw [← hE, show fdL (m + 1) x = { x with inp := [], cl := true } from if_pos hB]
      conv => whnf
      refine ⟨rfl, ?_, ?_, ?_⟩ <;> (repeat' apply And.intro) <;> first | exact trivial | rfl | assumption
    have y : ¬ x.q.length = 64 := by rw [decide_eq_false_iff_not] at y; omega
    have hB : ¬ badF x = true := by unfold badF; rw [e, decide_eq_false y]; simp
    conv => whnf
    refine ⟨fun u => ?_, fun u => ?_⟩
    · have u : nx2 x.inp = 0 := of_decide_eq_true u
      rw [decide_eq_true_eq] at z
      omega
    have u : ¬ nx2 x.inp = 0 := of_decide_eq_false u
    rw [show fdL (m + 1) x = fdL m (takeF x) from (if_neg hB).trans (if_neg u)] at hE
    have hbd := nx_bd x.inp
    have hx2 : x.xs.length < 64 := by rw [q_len] at hq y; split at hq <;> simp_all <;> omega
    conv => whnf
    refine call1 (wire_Decode (nx1 x.inp) (by have := nx1_le x.inp; omega)) rfl ?_
    conv => whnf
    refine sendd0 5 (b := 1) (y := decM (nx1 x.inp)) [(0, .c (.ptr 0 0)), (5, .c (.int .i64 (nx2 x.inp)))] rfl rfl rfl rfl rfl hx2 [[0, 1, 2, 3, 4, 5], [0, 1, 2, 4, 3, 5], [0, 1, 4, 2, 3, 5], [0, 4, 1, 2, 3, 5], [4, 0, 1, 2, 3, 5]] (by kernel_rfl) (fun l hl => ?_) ?_
    · simp only [List.mem_cons, List.not_mem_nil, or_false] at hl
      rcases hl with rfl | rfl | rfl | rfl | rfl
      · exact ⟨[0, 1, 2, 3, 4], _, rfl, rfl, rfl, rfl, rfl, rfl, trivial⟩
      · exact ⟨[0, 1, 2, 4, 3], _, rfl, rfl, rfl, rfl, rfl, rfl, trivial⟩
      · exact ⟨[0, 1, 4, 2, 3], _, rfl, rfl, rfl, rfl, rfl, rfl, trivial⟩
      · exact ⟨[0, 4, 1, 2, 3], _, rfl, rfl, rfl, rfl, rfl, rfl, trivial⟩
      · exact ⟨[4, 0, 1, 2, 3], _, rfl, rfl, rfl, rfl, rfl, rfl, trivial⟩
    conv => whnf
    refine ⟨hbd, ?_⟩
    conv => whnf
    have hi : (takeF x).inp.length = x.inp.length - (nx2 x.inp).toNat := by show (x.inp.drop _).length = _; rw [List.length_drop]
    have hlq : (takeF x).q.length = x.q.length + 1 := by rw [take_q, List.length_append]; rfl
    have hcut : (takeF x).inp = List.drop (nx2 x.inp).toNat (List.take x.inp.length x.inp) := by rw [List.take_length]; rfl
    refine ⟨(takeF x, m), ⟨⟨by dsimp only; omega, by dsimp only; omega, by dsimp only; omega, hE⟩, by dsimp only; omega⟩, ?_⟩
    (conv => whnf); refine ⟨rfl, ?_, ?_, ?_⟩ <;> (repeat' apply And.intro) <;> first | exact trivial | rfl | exact wr_succ _ (by omega) | assumption | exact decide_eq_false (by assumption) | exact decide_eq_true (by assumption)
  have z : decide (0 < nx2 x.inp) = false := z
  have hB : ¬ badF x = true := by unfold badF; rw [e, z]; simp
  conv => whnf
  refine ⟨fun u => ?_, fun u => ?_⟩
  · have u : nx2 x.inp = 0 := of_decide_eq_true u
    rw [← hE, show fdL (m + 1) x = x from (if_neg hB).trans (if_pos u)]
    conv => whnf
    refine ⟨rfl, ?_, ?_, ?_⟩ <;> (repeat' apply And.intro) <;> first | exact trivial | rfl | assumption
  · have u : ¬ nx2 x.inp = 0 := of_decide_eq_false u
    have hbd := nx_bd x.inp
    rw [decide_eq_false_iff_not] at z
    omega
end Go.Proofs.YtmdjonckcapkeaaGreatDoor
/- A session that nobody made; replies of a code alone. Own work. -/
set_option linter.unusedVariables false
set_option maxRecDepth 100000
namespace Go.Proofs.YtmdjonckcapkeaaGreatDoor
open Go Go.RowKit OE

/-- a reply of a code and an Id, as it is built -/
def rN (n i : Int) : Ans.AD.T := (n, i, 0, [], [], [], C0)
abbrev anC (n i : Int) : List C := [.int .i64 n, .int .i64 i, .int .i64 0, .val (.slice none 0 0), .val (.slice none 0 0), .val (.slice none 0 0), .val (.slice none 0 0), .val (.slice none 0 0), .val (.slice none 0 0), .val (.slice none 0 0), .int .i64 0]
theorem nilRep {w : World} {ok : Nat → Prop} {n i : Int} (v : Value) (h : RS (DX w ok) (.agg (anC n i)) v) : RS (DX w ok) (.agg (Ans.ac (rN n i))) v := by
  obtain ⟨vs, e, hl⟩ := h
  refine ⟨vs, e, ?_⟩
  generalize vs.toList = m at hl
  match m, hl with
  | [a, b, c, d, e, f, g, h, i, j, k], ⟨h1, h2, h3, h4, h5, h6, h7, h8, h9, h10, h11, _⟩ => exact ⟨h1, h2, h3, nilC h4, nilC h5, nilC h6, nilC h7, nilC h8, nilC h9, nilC h10, h11, trivial⟩
theorem rN_wf (n i : Int) (hn : (Lit.int .i64 n).wf = true) (hi : (Lit.int .i64 i).wf = true) : Wf Ans.AD (rN n i) :=
  ⟨hn, hi, lit_ok 0 (by decide) (by decide), ⟨Nat.zero_le _, fun _ h => by cases h⟩, ⟨Nat.zero_le _, fun _ h => by cases h⟩, ⟨Nat.zero_le _, fun _ h => by cases h⟩, (Ans.catOf_wf []).1⟩
theorem rN_good (n i : Int) (h0 : 0 ≤ n) (h1 : n ≤ 1000) (i0 : 0 ≤ i) (i1 : i ≤ 1000) : Ans.goodA (rN n i) = true := by
  have e : Ans.okId i = true := by unfold Ans.okId; rw [decide_eq_true i0, decide_eq_true (by omega)]; rfl
  have b : Ans.bndA (rN n i) = false := by
    show (decide (n < 0) || decide ((1000 : Int) < n) || false || false || false || false || false) = false
    rw [decide_eq_false (by omega), decide_eq_false (by omega)]
    rfl
  unfold Ans.goodA Ans.headA
  rw [b, show (rN n i).2.1 = i from rfl, e]
  rfl
theorem sess_AnswerN (a : Ss) (n i : Int) (hw : Wf Ans.AD (rN n i)) (ho : a.out.length ≤ 1000000000000) : FnP Tryz.prog 9 [.c (.ptr 0 0), .agg (anC n i)] (hpS a) 2 kpS (.c (.int .i64 (ansS a (rN n i)).2)) (hpS (ansS a (rN n i)).1) 2 := by
  refine fnP noI Tryz.func9 rfl rfl rfl rfl ?_
  conv => whnf
  refine callp0 [0, 1] rfl rfl (sess_Head a) rfl rfl rfl rfl rfl ?_
  conv => whnf
  have hb : (headS a).out = a.out := by
    unfold headS
    split
    · rfl
    · split <;> rfl
  generalize (if (headS a).there = true then (headS a).hd else MD.df) = m
  refine ⟨fun h => ?_, fun h => ?_⟩
  · rw [show ansS a (rN n i) = (headS a, 60) from if_pos (by simpa using h)]
    conv => whnf
    refine ⟨rfl, ?_, ?_, ?_⟩ <;> (repeat' apply And.intro) <;> first | exact trivial | rfl | assumption
  have h : ¬ (headS a).there = false := by simpa using h
  conv => whnf
  refine call1 ((Ans.ans_Message (rN n i) hw (Nat.zero_le _)).args fun w ok => ⟨nilRep, trivial⟩) rfl ?_
  conv => whnf
  by_cases g : Ans.goodA (rN n i) = true
  · rw [show ansS a (rN n i) = ({ headS a with there := false, out := a.out ++ Num.putT (Ans.encA (rN n i)) }, 0) from (if_neg h).trans (if_pos g), show Ans.errA (rN n i) = 0 from if_pos g, show Ans.msgA (rN n i) = Num.putT (Ans.encA (rN n i)) from if_pos g]
    have hl2 := Ans.putT_len (Ans.encA (rN n i)) (by have := Ans.encA_len hw g; omega)
    have hl3 := Ans.encA_len hw g
    refine fk rfl ?_
    conv => whnf
    rw [hb]
    refine ⟨by omega, ?_⟩
    conv => whnf
    refine ⟨rfl, ?_, ?_, ?_⟩ <;> (repeat' apply And.intro) <;> first | exact trivial | rfl | assumption
  · rw [show ansS a (rN n i) = (headS a, 11) from (if_neg h).trans (if_neg g), show Ans.errA (rN n i) = 11 from if_neg g]
    refine tk rfl ?_
    conv => whnf
    refine ⟨rfl, ?_, ?_, ?_⟩ <;> (repeat' apply And.intro) <;> first | exact trivial | rfl | assumption
end Go.Proofs.YtmdjonckcapkeaaGreatDoor
/- The walk of the reference's Next; what the message is, by its first bytes. Own work. -/
set_option linter.unusedVariables false
set_option maxRecDepth 100000
namespace Go.Proofs.YtmdjonckcapkeaaGreatDoor
open Go Go.RowKit OE

/-- a length and what is behind it -/
def finM (s : List UInt8) (n k : Nat) : List UInt8 × Int × Int :=
  if s.length < n + k then ([], 0, 0) else ((s.drop k).take n, ((k + n : Nat) : Int), 0)
theorem getN_zero (s : List UInt8) : Num.getN s 0 = Num.getL s 0 0 := by
  unfold Num.getN
  rw [if_neg (by omega)]
  rfl
theorem getL_one (c : UInt8) (l : List UInt8) : Num.getL (c :: l) 0 0 = if c.toNat < 128 then some (c.toNat, 1) else Num.getL l 1 (c.toNat % 128) := by
  simp only [Num.getL]
  rw [if_neg (by omega)]
  split
  · rename_i h; rw [Nat.mod_eq_of_lt h]; simp
  · simp
theorem getL_two (d : UInt8) (l : List UInt8) (n : Nat) : Num.getL (d :: l) 1 n = if d.toNat = 0 then none else if d.toNat < 128 then some (n + d.toNat % 128 * 128, 2) else Num.getL l 2 (n + d.toNat % 128 * 128) := by
  simp only [Num.getL]
  by_cases h : d.toNat = 0
  · rw [if_pos (.inr ⟨h, by omega⟩), if_pos h]
  · rw [if_neg (by omega), if_neg h]
theorem nx_some {s : List UInt8} {n k : Nat} (h : Num.getN s 0 = some (n, k)) (hn : n ≤ 8192) : nextM s = finM s n k := by
  have h1 : nS s 0 = (n, k) := by unfold nS; rw [h]; rfl
  unfold nextM
  have h2 : ¬ ((some (n, k) : Option (Nat × Nat)).isSome = false ∧ lackS s = true) := fun h => by cases h.1
  have h3 : ¬ ((some (n, k) : Option (Nat × Nat)).isSome = false ∨ (8192 : Int) < ((n, k) : Nat × Nat).1) := by
    rintro (h | h)
    · cases h
    · dsimp only at h; omega
  rw [h1, h, if_neg h2, if_neg h3]
  rfl
theorem nx_bad {s : List UInt8} (h : ∀ n k, Num.getN s 0 = some (n, k) → 8192 < n) (hl : lackS s = false) : nextM s = ([], 0, 11) := by
  unfold nextM
  rw [if_neg (by rintro ⟨_, h⟩; rw [hl] at h; cases h), if_pos]
  cases hg : Num.getN s 0 with
  | none => exact .inl rfl
  | some p =>
    have := h p.1 p.2 hg
    have h1 : nS s 0 = p := by unfold nS; rw [hg]; rfl
    rw [h1]
    exact .inr (by omega)
theorem nx_nil : nextM [] = ([], 0, 0) := by rfl
theorem nx_one {c : UInt8} {l : List UInt8} (h : c.toNat < 128) : nextM (c :: l) = finM (c :: l) c.toNat 1 :=
  nx_some (by rw [getN_zero, getL_one, if_pos h]) (by omega)
theorem nx_short {c : UInt8} (h : 128 ≤ c.toNat) : nextM [c] = ([], 0, 0) := by
  unfold nextM
  rw [if_pos ⟨by rw [getN_zero, getL_one, if_neg (by omega)]; rfl, by simp [lackS, h]⟩]
theorem nx_two {c d : UInt8} {l : List UInt8} (h : 128 ≤ c.toNat) (h1 : d.toNat ≠ 0) (h2 : d.toNat < 128) (h3 : c.toNat % 128 + d.toNat % 128 * 128 ≤ 8192) : nextM (c :: d :: l) = finM (c :: d :: l) (c.toNat % 128 + d.toNat % 128 * 128) 2 :=
  nx_some (by rw [getN_zero, getL_one, if_neg (by omega), getL_two, if_neg h1, if_pos h2]) h3
theorem nx_err {c d : UInt8} {l : List UInt8} (h : 128 ≤ c.toNat) (h1 : d.toNat = 0 ∨ 8192 < c.toNat % 128 + d.toNat % 128 * 128 ∨ 128 ≤ d.toNat) : nextM (c :: d :: l) = ([], 0, 11) := by
  refine nx_bad (fun n k hg => ?_) rfl
  rw [getN_zero, getL_one, if_neg (by omega), getL_two] at hg
  split at hg
  · cases hg
  · rename_i h0
    split at hg
    · simp only [Option.some.injEq, Prod.mk.injEq] at hg
      omega
    · obtain ⟨m, e, _, h2, _⟩ := Num.getL_take hg
      rcases h2 with h2 | h2
      · cases h2
      · have : m * 128 ^ 2 = m * 16384 := by rfl
        omega
abbrev nxR (p : List UInt8 × Int × Int) : SV := .tup [(true, [.str p.1, .int .i64 p.2.1]), (false, [.int .i64 p.2.2])]
theorem refwire_Next (s : List UInt8) (hs : s.length ≤ 100000000) : FnD Tryz.prog 25 [.c (.str s), .c (.int .i64 8192)] (· = nxR (nextM s)) := by
  refine fn0 Tryz.func25 rfl rfl rfl ?_
  conv => whnf
  refine loop0 (α := Nat × Nat) (fun p => p.1 ≤ 2 ∧ p.2 < 128 ^ p.1 ∧ (p.1 = 1 → ∃ c l, s = c :: l ∧ 128 ≤ c.toNat ∧ p.2 = c.toNat % 128) ∧ (p.1 = 2 → ∃ c d l, s = c :: d :: l ∧ 128 ≤ c.toNat ∧ 128 ≤ d.toNat))
    (fun p => ⟨[(0, .c (.str s)), (1, .c (.int .i64 8192)), (4, .c (.ptr 0 0)), (5, .c (.int .i64 0)), (6, .c (.int .i64 p.2)), (7, .c (.int .i64 ((128 ^ p.1 : Nat) : Int))), (8, .c (.int .i64 p.1))], [(0, .cells 69 [.str [], .int .i64 0])], 1⟩) (fun p => 3 - p.1) ⟨(0, 0), ⟨by dsimp only; omega, by decide, fun h => (by cases h), fun h => (by cases h)⟩, ?_⟩ ?_
  · (conv => whnf); refine ⟨rfl, ?_, ?_, ?_⟩ <;> (repeat' apply And.intro) <;> first | exact trivial | rfl | exact wr_succ _ (by omega) | assumption | exact decide_eq_false (by assumption) | exact decide_eq_true (by assumption)
  rintro ⟨i, n⟩ ⟨hI1, hI2, hI3, hI4⟩
  dsimp only at hI1 hI2 hI3 hI4 ⊢
  conv => whnf
  have hle : i ≤ s.length := by
    rcases Nat.lt_or_ge i 1 with h | h
    · omega
    · rcases Nat.lt_or_ge i 2 with h' | h'
      · obtain ⟨c, l, rfl, _⟩ := hI3 (by omega); rw [List.length_cons]; omega
      · obtain ⟨c, d, l, rfl, _⟩ := hI4 (by omega); rw [List.length_cons, List.length_cons]; omega
  have hlen2 : i = 2 → nextM s = ([], 0, 11) := fun h => by
    obtain ⟨c, d, l, rfl, h1, h2⟩ := hI4 h
    exact nx_err h1 (.inr (.inr h2))
  have h128 : i = 0 ∧ 128 ^ i = 1 ∨ i = 1 ∧ 128 ^ i = 128 ∨ i = 2 ∧ 128 ^ i = 16384 := by
    rcases Nat.lt_or_ge i 1 with h | h
    · have : i = 0 := by omega
      subst this; exact .inl ⟨rfl, rfl⟩
    · rcases Nat.lt_or_ge i 2 with h' | h'
      · have : i = 1 := by omega
        subst this; exact .inr (.inl ⟨rfl, rfl⟩)
      · have : i = 2 := by omega
        subst this; exact .inr (.inr ⟨rfl, rfl⟩)
  refine ⟨fun h4 => ?_, fun h4 => ?_⟩
  · have h4 : i = s.length := by simp at h4; omega
    conv => whnf
    refine ⟨fun h5 => ?_, fun h5 => ?_⟩
    · have h5 : 8192 < 128 ^ i := by
        rw [Bool.and_eq_true, decide_eq_true_eq, decide_eq_true_eq] at h5; omega
      rw [hlen2 (by omega)]
      conv => whnf
    · have h5 : ¬ i = 2 := fun h => by
        rw [h] at h5; exact absurd h5 (by decide)
      have : nextM s = ([], 0, 0) := by
        rcases Nat.lt_or_ge i 1 with h | h
        · rw [List.eq_nil_of_length_eq_zero (l := s) (by omega)]; exact nx_nil
        · obtain ⟨c, l, rfl, h6, _⟩ := hI3 (by omega)
          rw [List.eq_nil_of_length_eq_zero (l := l) (by rw [List.length_cons] at h4; omega)]
          exact nx_short h6
      rw [this]
      conv => whnf
  have h4 : i < s.length := by simp at h4; omega
  have hb : bt s (i : Int) = ((s[i]).toNat : Int) := bt_nat s i h4
  have hc := (s[i]).toNat_lt
  conv => whnf
  refine ⟨by omega, ?_⟩
  conv => whnf
  rw [hb, wr64 ((s[i]).toNat : Int) (by omega) (by omega)]
  refine ⟨fun h5 => ?_, fun h5 => ?_⟩
  · have : nextM s = ([], 0, 11) := by
      by_cases h6 : i = 2
      · exact hlen2 h6
      · have h7 : i = 1 ∧ s[i].toNat = 0 := by
          rw [Bool.or_eq_true, Bool.and_eq_true, decide_eq_true_eq, decide_eq_true_eq, decide_eq_true_eq] at h5; omega
        obtain ⟨rfl, h7⟩ := h7
        obtain ⟨c, l, rfl, h8, _⟩ := hI3 rfl
        cases l with
        | nil => simp at h4
        | cons d l => exact nx_err h8 (.inl h7)
    rw [this]
    conv => whnf
  have h5 : i ≤ 1 ∧ (i = 1 → s[i].toNat ≠ 0) := by
    rw [Bool.or_eq_false_iff, Bool.and_eq_false_iff, decide_eq_false_iff_not, decide_eq_false_iff_not, decide_eq_false_iff_not] at h5
    omega
  have hM : IntKind.wrap .i64 ((n : Int) + IntKind.wrap .i64 (((s[i].toNat : Nat) : Int).tmod 128 * ((128 ^ i : Nat) : Int))) = ((n + s[i].toNat % 128 * 128 ^ i : Nat) : Int) := by
    have e : ((s[i].toNat : Nat) : Int).tmod 128 * ((128 ^ i : Nat) : Int) = ((s[i].toNat % 128 * 128 ^ i : Nat) : Int) := by
      rw [Int.tmod_eq_emod_of_nonneg (by omega), Int.natCast_mul]; rfl
    have h : s[i].toNat % 128 * 128 ^ i ≤ 127 * 128 := Nat.mul_le_mul (by omega) (by omega)
    rw [e, wr64 ((s[i].toNat % 128 * 128 ^ i : Nat) : Int) (by omega) (by omega), wr64 _ (by omega) (by omega)]
    omega
  have e8 : IntKind.wrap .i64 ((i : Int) + 1) = ((i + 1 : Nat) : Int) := by rw [wr64 _ (by omega) (by omega)]; omega
  have e9 : IntKind.wrap .i64 (((128 ^ i : Nat) : Int) * 128) = ((128 ^ (i + 1) : Nat) : Int) := by
    rw [Nat.pow_succ, wr64 _ (by omega) (by omega)]; omega
  conv => whnf
  refine ⟨by decide, ?_⟩
  conv => whnf
  rw [hM]
  refine ⟨fun h6 => ?_, fun h6 => ?_⟩
  · have h6 : 8192 < n + s[i].toNat % 128 * 128 ^ i := by rw [decide_eq_true_eq] at h6; omega
    have : nextM s = ([], 0, 11) := by
      have h7 : i = 1 := by
        rcases Nat.lt_or_ge i 1 with h | h
        · have : i = 0 := by omega
          subst this
          simp at h6 hI2
          omega
        · omega
      subst h7
      obtain ⟨c, l, rfl, h8, h9⟩ := hI3 rfl
      cases l with
      | nil => simp at h4
      | cons d l => exact nx_err h8 (.inr (.inl (by rw [h9] at h6; simpa using h6)))
    rw [this]
    conv => whnf
  have h6 : n + s[i].toNat % 128 * 128 ^ i ≤ 8192 := by rw [decide_eq_false_iff_not] at h6; omega
  conv => whnf
  refine ⟨fun h7 => ?_, fun h7 => ?_⟩
  · have h7 : s[i].toNat < 128 := by rw [decide_eq_true_eq] at h7; omega
    have hN : nextM s = finM s (n + s[i].toNat % 128 * 128 ^ i) (i + 1) := by
      rcases Nat.lt_or_ge i 1 with h | h
      · have : i = 0 := by omega
        subst this
        cases s with
        | nil => simp at h4
        | cons c l =>
          have h7 : c.toNat < 128 := h7
          have hn : n = 0 := by simp at hI2; omega
          rw [nx_one h7, hn]
          show _ = finM (c :: l) (0 + c.toNat % 128 * 128 ^ 0) 1
          rw [Nat.mod_eq_of_lt h7, Nat.pow_zero, Nat.mul_one, Nat.zero_add]
      · have : i = 1 := by omega
        subst this
        obtain ⟨c, l, rfl, h8, h9⟩ := hI3 rfl
        cases l with
        | nil => simp at h4
        | cons d l =>
          have h7 : d.toNat < 128 := h7
          have h5 : d.toNat ≠ 0 := h5.2 rfl
          have h6 : n + d.toNat % 128 * 128 ^ 1 ≤ 8192 := h6
          rw [nx_two h8 h5 h7 (by rw [h9] at h6; simpa using h6), h9]
          rfl
    rw [hN]
    generalize n + s[i].toNat % 128 * 128 ^ i = M at h6
    unfold finM
    conv => whnf
    have e10 : IntKind.wrap .i64 ((s.length : Int) - IntKind.wrap .i64 ((i : Int) + 1)) = (s.length : Int) - ((i + 1 : Nat) : Int) := by rw [e8, wr64 _ (by omega) (by omega)]
    have e11 : IntKind.wrap .i64 (IntKind.wrap .i64 ((i : Int) + 1) + (M : Int)) = ((i + 1 + M : Nat) : Int) := by rw [e8, wr64 _ (by omega) (by omega)]; omega
    rw [e10]
    refine ⟨fun c => ?_, fun c => ?_⟩
    · have c : s.length < M + (i + 1) := by rw [decide_eq_true_eq] at c; omega
      rw [if_pos c]
      conv => whnf
    have c : ¬ s.length < M + (i + 1) := by rw [decide_eq_false_iff_not] at c; omega
    rw [if_neg c]
    conv => whnf
    rw [e8, show IntKind.wrap .i64 (((i + 1 : Nat) : Int) + (M : Int)) = ((i + 1 + M : Nat) : Int) by rw [wr64 _ (by omega) (by omega)]; omega]
    refine ⟨⟨⟨by omega, by omega⟩, by omega, by omega⟩, ?_⟩
    conv => whnf
    rw [Int.toNat_natCast, Int.toNat_natCast, List.drop_take, show i + 1 + M - (i + 1) = M by omega]
    try rw [show IntKind.wrap .i64 (((i + 1 : Nat) : Int) + (M : Int)) = ((i + 1 + M : Nat) : Int) by rw [wr64 _ (by omega) (by omega)]; omega]
  · have h7 : 128 ≤ s[i].toNat := by rw [decide_eq_false_iff_not] at h7; omega
    conv => whnf
    rw [e8, e9]
    refine ⟨(i + 1, n + s[i].toNat % 128 * 128 ^ i), ⟨⟨by dsimp only; omega, ?_, ?_, ?_⟩, by dsimp only; omega⟩, ?_⟩
    · have h1 : s[i].toNat % 128 * 128 ^ i ≤ 127 * 128 ^ i := Nat.mul_le_mul_right _ (by omega)
      dsimp only
      rw [Nat.pow_succ]
      omega
    · intro h
      have h : i = 0 := by dsimp only at h; omega
      subst h
      cases s with
      | nil => simp at h4
      | cons c l => exact ⟨c, l, rfl, h7, by simp at hI2 ⊢; omega⟩
    · intro h
      have h : i = 1 := by dsimp only at h; omega
      subst h
      obtain ⟨c, l, rfl, h8, h9⟩ := hI3 rfl
      cases l with
      | nil => simp at h4
      | cons d l => exact ⟨c, d, l, rfl, h8, h7⟩
    (conv => whnf); refine ⟨rfl, ?_, ?_, ?_⟩ <;> (repeat' apply And.intro) <;> first | exact trivial | rfl | exact wr_succ _ (by omega) | assumption | exact decide_eq_false (by assumption) | exact decide_eq_true (by assumption)
end Go.Proofs.YtmdjonckcapkeaaGreatDoor
/- What becomes of a session's queue, bytes, replies; no program in sight. Own work. -/
set_option linter.unusedVariables false
set_option maxRecDepth 100000
namespace Go.Proofs.YtmdjonckcapkeaaGreatDoor
open Go Go.RowKit OE

/-- a session, but for how its commands are kept -/
structure Rs where
  inp : List UInt8
  L : List MD.T
  out : List UInt8
  cl : Bool
def Ss.ab (a : Ss) : Rs := ⟨a.inp, a.q, a.out, a.cl⟩
def badR (p : Rs) : Bool := !decide (nx3 p.inp = 0) || (decide (0 < nx2 p.inp) && decide (p.L.length = 64))
def takeR (p : Rs) : Rs := { p with L := p.L ++ [decM (nx1 p.inp)], inp := p.inp.drop (nx2 p.inp).toNat }
def fR : Nat → Rs → Rs
  | 0, p => p
  | n + 1, p => if badR p = true then { p with inp := [], cl := true } else if nx2 p.inp = 0 then p else fR n (takeR p)
def run (p : Rs) : Rs := fR (p.inp.length + 1) p
def feedR (p : Rs) (d : List UInt8) : Rs := if p.cl = true then p else run { p with inp := p.inp ++ d }
theorem fdL_ab : ∀ (n : Nat) (a : Ss), (fdL n a).ab = fR n a.ab
  | 0, a => rfl
  | n + 1, a => by
    unfold fdL fR
    have e : badR a.ab = badF a := rfl
    have e2 : nx2 a.ab.inp = nx2 a.inp := rfl
    rw [e, e2]
    by_cases h : badF a = true
    · rw [if_pos h, if_pos h]; rfl
    · rw [if_neg h, if_neg h]
      by_cases h2 : nx2 a.inp = 0
      · rw [if_pos h2, if_pos h2]
      · rw [if_neg h2, if_neg h2, fdL_ab n (takeF a)]
        have : (takeF a).ab = takeR a.ab := by
          unfold Ss.ab takeR
          rw [take_q]
          rfl
        rw [this]
theorem feed_ab (a : Ss) (d : List UInt8) : (feedS a d).ab = feedR a.ab d := by
  unfold feedS feedR
  have e : a.ab.cl = a.cl := rfl
  rw [e]
  split
  · rfl
  · rw [fdL_ab]
    unfold run
    rw [show (({ a.ab with inp := a.ab.inp ++ d } : Rs).inp).length = a.inp.length + d.length from List.length_append]
    rfl
/-! a message that stands there stays, whatever follows -/
/-! heads, answers -/
theorem head_ab (a : Ss) : (headS a).ab = a.ab := by
  unfold Ss.ab
  rw [head_q]
  have : (headS a).inp = a.inp ∧ (headS a).out = a.out ∧ (headS a).cl = a.cl := by
    unfold headS
    split
    · exact ⟨rfl, rfl, rfl⟩
    · split <;> exact ⟨rfl, rfl, rfl⟩
  rw [this.1, this.2.1, this.2.2]
theorem head_hd (a : Ss) : (if (headS a).there = true then (headS a).hd else MD.df) = a.q.headD MD.df := by
  unfold headS Ss.q
  obtain ⟨i, xs, s, r, hd, t, o, c⟩ := a
  cases t with
  | true => rfl
  | false => cases xs <;> rfl
theorem head_thereL (a : Ss) : (headS a).there = !decide (a.ab.L = []) := head_there a
def ansR (p : Rs) (r : Ans.AD.T) : Rs × Int := if p.L = [] then (p, 60) else if Ans.goodA r = true then ({ p with L := p.L.tail, out := p.out ++ Num.putT (Ans.encA r) }, 0) else (p, 11)
theorem ans_ab (a : Ss) (r : Ans.AD.T) : (ansS a r).1.ab = (ansR a.ab r).1 ∧ (ansS a r).2 = (ansR a.ab r).2 := by
  unfold ansS ansR
  rw [head_thereL]
  by_cases h : a.ab.L = []
  · rw [if_pos h, if_pos (by rw [h]; rfl)]
    exact ⟨head_ab a, rfl⟩
  · rw [if_neg h, if_neg (by simp [h])]
    by_cases g : Ans.goodA r = true
    · rw [if_pos g, if_pos g]
      refine ⟨?_, rfl⟩
      have e := head_ab a
      have ht : (headS a).there = true := by rw [head_thereL]; simp [h]
      have hq : (headS a).q = a.q := head_q a
      have hq2 : (headS a).q = (headS a).hd :: (headS a).xs := by unfold Ss.q; rw [if_pos ht]
      have e1 : (headS a).inp = a.inp := congrArg Rs.inp e
      have e3 : (headS a).cl = a.cl := congrArg Rs.cl e
      show Rs.mk (headS a).inp (headS a).xs (a.out ++ Num.putT (Ans.encA r)) (headS a).cl = _
      rw [e1, e3]
      show _ = Rs.mk a.inp a.q.tail (a.out ++ Num.putT (Ans.encA r)) a.cl
      rw [← hq, hq2]
      rfl
    · rw [if_neg g, if_neg g]
      exact ⟨e4 a, rfl⟩
where
  e4 (a : Ss) : (headS a).ab = a.ab := head_ab a
end Go.Proofs.YtmdjonckcapkeaaGreatDoor
/- The walk of the law's wakes. Own work. -/
set_option linter.unusedVariables false
set_option maxRecDepth 100000
namespace Go.Proofs.YtmdjonckcapkeaaGreatDoor
open Go Go.RowKit OE

def cW1 : MD.T := decM [1]
def W1 : Ss := ⟨[1], [cW1], 1, 0, MD.df, false, [], false⟩
theorem feedW : feedS S0 [1, 1, 1] = W1 := by rfl
def W2 : Ss := ⟨[1], [], 1, 1, cW1, true, [], false⟩
theorem headW : headS W1 = W2 := by rfl
def W3 : Ss := ⟨[1], [], 1, 1, cW1, false, [7, 0, 0, 0, 0, 0, 0, 0], false⟩
theorem encW : Ans.encA (rN 0 0) = [0, 0, 0, 0, 0, 0, 0] := by
  have h : Ans.encA (rN 0 0) = Num.putN 0 ++ Num.putN 0 ++ Num.putN 0 ++ Num.putN 0 ++ [] ++ Num.putN 0 ++ [] ++ Num.putN 0 ++ [] ++ (Num.putN 0 ++ []) := by rfl
  rw [h, Num.putN_lt (n := 0) (by decide)]
  rfl
theorem ansW : ansS W2 (rN 0 0) = (W3, 0) := by
  have g : Ans.goodA (rN 0 0) = true := rN_good 0 0 (by decide) (by decide) (by decide) (by decide)
  have hh : headS W2 = W2 := by rfl
  unfold ansS
  rw [hh, if_neg (by decide), if_pos g, encW, show Num.putT ([0, 0, 0, 0, 0, 0, 0] : List UInt8) = Num.putN 7 ++ [0, 0, 0, 0, 0, 0, 0] from rfl, Num.putN_lt (by decide)]
  rfl
theorem sess_wakes : FnD Tryz.prog 6 [] (· = .c (.bool (.sym true))) := by
  refine fn0 Tryz.func6 rfl rfl rfl ?_
  conv => whnf
  refine callp0 [] rfl rfl (sess_New) rfl rfl rfl rfl rfl ?_
  conv => whnf
  refine callp0 [0, 1] rfl rfl (sess_Feed S0 [1, 1, 1] (by decide) (by decide)) rfl rfl rfl rfl rfl ?_
  conv => whnf
  rw [feedW]
  conv => whnf
  refine callp0 [0, 1] rfl rfl (sess_Head W1) rfl rfl rfl rfl rfl ?_
  conv => whnf
  rw [headW, show (if W2.there = true then W2.hd else MD.df) = cW1 from rfl]
  conv => whnf
  refine callp0 [0, 1] rfl rfl (sess_AnswerN W2 0 0 (rN_wf 0 0 (by decide) (by decide)) (by decide)) rfl rfl rfl rfl rfl ?_
  conv => whnf
  rw [ansW]
  conv => whnf
  refine ⟨fun w1 => ?_, fun w1 => ?_⟩
  · conv => whnf
    refine callp0 [0, 1] rfl rfl (sess_Held W3) rfl rfl rfl rfl rfl ?_
    conv => whnf
    refine ⟨fun w2 => ?_, fun w2 => ?_⟩
    · conv => whnf
      refine callp0 [0, 1] rfl rfl (sess_Waiting W3 (by decide)) rfl rfl rfl rfl rfl ?_
      conv => whnf
      refine ⟨fun w3 => ?_, fun w3 => ?_⟩
      · conv => whnf
        refine callp0 [0, 1] rfl rfl (sess_Take W3) rfl rfl rfl rfl rfl ?_
        conv => whnf
        refine ⟨fun w4 => ?_, fun w4 => ?_⟩
        · conv => whnf
          refine callp0 [0, 1] rfl rfl (sess_Take { W3 with out := [] }) rfl rfl rfl rfl rfl ?_
          conv => whnf
          rfl
        · exact absurd w4 (by decide)
      · exact absurd w3 (by decide)
    · exact absurd w2 (by decide)
  · rw [show (W2.there && decide (cW1.1 = 1)) = true from rfl] at w1
    cases w1
end Go.Proofs.YtmdjonckcapkeaaGreatDoor
/- The walk of the laws' wakes (wire). Own work. -/
set_option linter.unusedVariables false
set_option maxRecDepth 100000
namespace Go.Proofs.YtmdjonckcapkeaaGreatDoor
open Go Go.RowKit OE

theorem keep_Op (v w : OD.T) : FnD Tryz.prog 30 [.agg (oc v), .agg (oc w)] (· = .c (.bool (.sym (OD.eqb v w)))) := by
  refine fn0 Tryz.func30 rfl rfl rfl ?_
  conv => whnf
  refine callg0 (fun _ => keep_Value (oV v) (oV w)) rfl ?_
  conv => whnf
  simp [D.eqb, oV, Bool.and_assoc, Bool.beq_eq_decide_eq]
  rfl
theorem keep_Cmd (v w : MD.T) : FnD Tryz.prog 15 [.agg (mc v), .agg (mc w)] (· = .c (.bool (.sym (MD.eqb v w)))) := by
  refine fn0 Tryz.func15 rfl rfl rfl ?_
  conv => whnf
  refine callg0 (fun _ => keep_Value (mV v) (mV w)) rfl ?_
  conv => whnf
  refine callg0 (fun _ => keep_Value (mTo v) (mTo w)) rfl ?_
  conv => whnf
  refine callg0 (fun _ => keep_Op (mOp v) (mOp w)) rfl ?_
  conv => whnf
  refine callg0 (fun _ => keep_Rule (mRule v) (mRule w)) rfl ?_
  conv => whnf
  simp [D.eqb, mV, mTo, mOp, mRule, Bool.and_assoc]
  rfl
end Go.Proofs.YtmdjonckcapkeaaGreatDoor
/- The walks of the reference's Op, GoodOp, Good. Own work. -/
set_option linter.unusedVariables false
set_option maxRecDepth 100000
namespace Go.Proofs.YtmdjonckcapkeaaGreatDoor
open Go Go.RowKit OE

def okId (n : Int) : Bool := decide (0 ≤ n) && decide (n ≤ 4611686018427387903)
def okVal (v : VD.T) : Bool := goodV v || blankV v
theorem ref24_id (n : Int) : FnD Tryz.prog 61 [.c (.int .i64 n)] (· = .c (.bool (.sym (okId n)))) := by
  refine fn0 Tryz.func61 rfl rfl rfl ?_
  conv => whnf
  rfl
theorem ref24_value (v : VD.T) : FnD Tryz.prog 63 [.agg (vc v)] (· = .c (.bool (.sym (okVal v)))) := by
  refine fn0 Tryz.func63 rfl rfl rfl ?_
  conv => whnf
  refine call1 (ref_Good v) rfl ?_
  conv => whnf
  refine callg0 (fun _ => ref_Blank v) rfl ?_
  conv => whnf
  rfl
def o0 (k : Int) : OD.T := (k, OD.df.2)
/-- of a change that has a form, just its fields -/
def opN (o : OD.T) : OD.T × Bool :=
  if (o.1 : Int) = 1 then (oT (o0 1) o.2.2.1, nameS o.2.2.1)
  else if (o.1 : Int) = 2 then (oC (oI (o0 2) o.2.1) o.2.2.2.2.2.2.2, okId o.2.1)
  else if (o.1 : Int) = 3 then (oE (oF (oT (o0 3) o.2.2.1) o.2.2.2.1) o.2.2.2.2.1, nameS o.2.2.1 && okId o.2.2.2.1 && okId o.2.2.2.2.1)
  else if (o.1 : Int) = 4 then (oI (o0 4) o.2.1, okId o.2.1)
  else if (o.1 : Int) = 5 then (oVl (oN (oI (o0 5) o.2.1) o.2.2.2.2.2.1) (oV o), okId o.2.1 && nameS o.2.2.2.2.2.1 && okVal (oV o))
  else (o0 o.1, false)
abbrev opR (p : OD.T × Bool) : SV := .tup [(true, oc p.1), (false, [.bool (.sym p.2)])]
theorem ref24_Op (o : OD.T) : FnD Tryz.prog 82 [.agg (oc o)] (· = opR (opN o)) := by
  obtain ⟨k, i, t, f, e, n, v, c⟩ := o
  refine fn0 Tryz.func82 rfl rfl rfl ?_
  conv => whnf
  refine ⟨fun a => ?_, fun a => ?_⟩
  · have a : k = 1 := of_decide_eq_true a
    subst a
    conv => whnf
    refine ⟨weaken (st := ⟨[(1, .c (.ptr 0 0)), (2, .c (.ptr 1 0)), (3, .c (.bool .ff)), (4, .c (.ptr 2 0))], [(0, .cells 51 (oc (1, i, t, f, e, n, v, c))), (1, .cells 51 (oc OD.df)), (2, .cells 51 (oc (oT (o0 1) t)))], 3⟩) ?_ (go0 ?_)⟩
    · (conv => whnf); refine ⟨rfl, ?_, ?_, ?_⟩ <;> (repeat' apply And.intro) <;> first | exact trivial | rfl | exact wr_succ _ (by omega) | assumption | exact decide_eq_false (by assumption) | exact decide_eq_true (by assumption)
    refine any0 ?_
    conv => whnf
    refine callr0 (ref_Name t) rfl ?_
    conv => whnf
    refine ⟨.inl (by kernel_rfl), after0 ?_⟩
    conv => whnf
    rfl
  have a1 : ¬ k = 1 := of_decide_eq_false a
  clear a
  conv => whnf
  refine ⟨fun a => ?_, fun a => ?_⟩
  · have a : k = 2 := of_decide_eq_true a
    subst a
    conv => whnf
    refine ⟨weaken (st := ⟨[(1, .c (.ptr 0 0)), (2, .c (.ptr 1 0)), (3, .c (.bool .ff)), (4, .c (.ptr 2 0))], [(0, .cells 51 (oc (2, i, t, f, e, n, v, c))), (1, .cells 51 (oc OD.df)), (2, .cells 51 (oc (o0 2)))], 3⟩) ?_ (go0 ?_)⟩
    · (conv => whnf); refine ⟨rfl, ?_, ?_, ?_⟩ <;> (repeat' apply And.intro) <;> first | exact trivial | rfl | exact wr_succ _ (by omega) | assumption | exact decide_eq_false (by assumption) | exact decide_eq_true (by assumption)
    refine any0 ?_
    conv => whnf
    refine ⟨.inl (by kernel_rfl), after0 ?_⟩
    conv => whnf
    refine any0 ?_
    conv => whnf
    refine callr0 (ref24_id i) rfl ?_
    conv => whnf
    refine ⟨.inl (by kernel_rfl), after0 ?_⟩
    conv => whnf
    rfl
  have a2 : ¬ k = 2 := of_decide_eq_false a
  clear a
  conv => whnf
  refine ⟨fun a => ?_, fun a => ?_⟩
  · have a : k = 3 := of_decide_eq_true a
    subst a
    conv => whnf
    refine ⟨weaken (st := ⟨[(1, .c (.ptr 0 0)), (2, .c (.ptr 1 0)), (3, .c (.bool .ff)), (4, .c (.ptr 2 0))], [(0, .cells 51 (oc (3, i, t, f, e, n, v, c))), (1, .cells 51 (oc OD.df)), (2, .cells 51 (oc (o0 3)))], 3⟩) ?_ (go0 ?_)⟩
    · (conv => whnf); refine ⟨rfl, ?_, ?_, ?_⟩ <;> (repeat' apply And.intro) <;> first | exact trivial | rfl | exact wr_succ _ (by omega) | assumption | exact decide_eq_false (by assumption) | exact decide_eq_true (by assumption)
    refine any0 ?_
    conv => whnf
    refine ⟨.inl (by kernel_rfl), after0 ?_⟩
    conv => whnf
    refine any0 ?_
    conv => whnf
    refine callr0 (ref_Name t) rfl ?_
    conv => whnf
    refine callrg0 (fun _ => ref24_id f) rfl ?_
    conv => whnf
    refine callrg0 (fun _ => ref24_id e) rfl ?_
    conv => whnf
    refine ⟨.inl (by kernel_rfl), after0 ?_⟩
    conv => whnf
    rfl
  have a3 : ¬ k = 3 := of_decide_eq_false a
  clear a
  conv => whnf
  refine ⟨fun a => ?_, fun a => ?_⟩
  · have a : k = 4 := of_decide_eq_true a
    subst a
    conv => whnf
    refine ⟨weaken (st := ⟨[(1, .c (.ptr 0 0)), (2, .c (.ptr 1 0)), (3, .c (.bool .ff)), (4, .c (.ptr 2 0))], [(0, .cells 51 (oc (4, i, t, f, e, n, v, c))), (1, .cells 51 (oc OD.df)), (2, .cells 51 (oc (oI (o0 4) i)))], 3⟩) ?_ (go0 ?_)⟩
    · (conv => whnf); refine ⟨rfl, ?_, ?_, ?_⟩ <;> (repeat' apply And.intro) <;> first | exact trivial | rfl | exact wr_succ _ (by omega) | assumption | exact decide_eq_false (by assumption) | exact decide_eq_true (by assumption)
    refine any0 ?_
    conv => whnf
    refine callr0 (ref24_id i) rfl ?_
    conv => whnf
    refine ⟨.inl (by kernel_rfl), after0 ?_⟩
    conv => whnf
    rfl
  have a4 : ¬ k = 4 := of_decide_eq_false a
  clear a
  conv => whnf
  refine ⟨fun a => ?_, fun a => ?_⟩
  · have a : k = 5 := of_decide_eq_true a
    subst a
    conv => whnf
    refine ⟨weaken (st := ⟨[(1, .c (.ptr 0 0)), (2, .c (.ptr 1 0)), (3, .c (.bool .ff)), (4, .c (.ptr 2 0))], [(0, .cells 51 (oc (5, i, t, f, e, n, v, c))), (1, .cells 51 (oc OD.df)), (2, .cells 51 (oc (o0 5)))], 3⟩) ?_ (go0 ?_)⟩
    · (conv => whnf); refine ⟨rfl, ?_, ?_, ?_⟩ <;> (repeat' apply And.intro) <;> first | exact trivial | rfl | exact wr_succ _ (by omega) | assumption | exact decide_eq_false (by assumption) | exact decide_eq_true (by assumption)
    refine any0 ?_
    conv => whnf
    refine ⟨.inl (by kernel_rfl), after0 ?_⟩
    conv => whnf
    refine any0 ?_
    conv => whnf
    refine callr0 (ref24_id i) rfl ?_
    conv => whnf
    refine callrg0 (fun _ => ref_Name n) rfl ?_
    conv => whnf
    refine callrg0 (fun _ => ref24_value v) rfl ?_
    conv => whnf
    refine ⟨.inl (by kernel_rfl), after0 ?_⟩
    conv => whnf
    rfl
  have a5 : ¬ k = 5 := of_decide_eq_false a
  rw [show opN (k, i, t, f, e, n, v, c) = (o0 k, false) by unfold opN; rw [if_neg a1, if_neg a2, if_neg a3, if_neg a4, if_neg a5]]
  conv => whnf
  rfl
def goodO (o : OD.T) : Bool := (opN o).2 && OD.eqb (opN o).1 o
theorem ref24_GoodOp (o : OD.T) : FnD Tryz.prog 60 [.agg (oc o)] (· = .c (.bool (.sym (goodO o)))) := by
  refine fn0 Tryz.func60 rfl rfl rfl ?_
  conv => whnf
  refine call1 (ref24_Op o) rfl ?_
  conv => whnf
  refine callg0 (fun _ => keep_Op (opN o).1 o) rfl ?_
  conv => whnf
  rfl
/-- of a command, just its kind's fields; whether they have a form -/
def cmN (m : MD.T) : MD.T × Bool :=
  if (m.1 : Int) = 1 ∨ (m.1 : Int) = 2 ∨ (m.1 : Int) = 3 ∨ (m.1 : Int) = 20 then (m0 m.1, true)
  else if (m.1 : Int) = 4 ∨ (m.1 : Int) = 5 then (mNm (m0 m.1) (mName m), nameS (mName m))
  else if (m.1 : Int) = 6 then (sO (m0 m.1) (mOp m), goodO (mOp m))
  else if (m.1 : Int) = 7 ∨ (m.1 : Int) = 8 then (mI (m0 m.1) m.2.1, okId m.2.1)
  else if (m.1 : Int) = 9 ∨ (m.1 : Int) = 10 then (mT (mI (m0 m.1) m.2.1) (mType m), okId m.2.1 && (decide (mType m = []) || nameS (mType m)))
  else if (m.1 : Int) = 11 then (mT (m0 m.1) (mType m), nameS (mType m))
  else if (m.1 : Int) = 12 then (mVl (mNm (mT (m0 m.1) (mType m)) (mName m)) (mV m), nameS (mType m) && nameS (mName m) && goodV (mV m))
  else if (m.1 : Int) = 13 then (mW (mVl (mNm (mT (m0 m.1) (mType m)) (mName m)) (mV m)) (mTo m), nameS (mType m) && nameS (mName m) && okVal (mV m) && okVal (mTo m))
  else if (m.1 : Int) = 14 ∨ (m.1 : Int) = 15 then (mM (mT (m0 m.1) (mType m)) (mN m), nameS (mType m) && (decide (mN m = 1) || decide (mN m = 2)))
  else if (m.1 : Int) = 16 then (mR (m0 m.1) (mRule m), formS (mRule m) && decide ((mRule m).1 = 0) && decide ((mRule m).2.2.2.2.2.2.2 = 0))
  else if (m.1 : Int) = 17 then (mM (m0 m.1) (mN m), decide (0 ≤ mN m) && decide (mN m ≤ 1000000))
  else if (m.1 : Int) = 18 ∨ (m.1 : Int) = 19 then (mNm (mT (m0 m.1) (mType m)) (mName m), nameS (mType m) && nameS (mName m))
  else (m0 m.1, false)
def refgood (m : MD.T) : Bool := (cmN m).2 && MD.eqb (cmN m).1 m
theorem ref24_Good (m : MD.T) : FnD Tryz.prog 44 [.agg (mc m)] (· = .c (.bool (.sym (refgood m)))) := by
  obtain ⟨k, i, t, n, v, w, N, o, r⟩ := m
  refine fn0 Tryz.func44 rfl rfl rfl ?_
  conv => whnf
  refine ⟨fun a => ?_, fun a => ?_⟩
  · have a : k = 1 := of_decide_eq_true a
    subst a
    conv => whnf
    refine call1 (keep_Cmd (m0 1) (1, i, t, n, v, w, N, o, r)) rfl ?_
    conv => whnf
    rfl
  have a1 : ¬ k = 1 := of_decide_eq_false a
  clear a
  conv => whnf
  refine ⟨fun a => ?_, fun a => ?_⟩
  · have a : k = 2 := of_decide_eq_true a
    subst a
    conv => whnf
    refine call1 (keep_Cmd (m0 2) (2, i, t, n, v, w, N, o, r)) rfl ?_
    conv => whnf
    rfl
  have a2 : ¬ k = 2 := of_decide_eq_false a
  clear a
  conv => whnf
  refine ⟨fun a => ?_, fun a => ?_⟩
  · have a : k = 3 := of_decide_eq_true a
    subst a
    conv => whnf
    refine call1 (keep_Cmd (m0 3) (3, i, t, n, v, w, N, o, r)) rfl ?_
    conv => whnf
    rfl
  have a3 : ¬ k = 3 := of_decide_eq_false a
  clear a
  conv => whnf
  refine ⟨fun a => ?_, fun a => ?_⟩
  · have a : k = 20 := of_decide_eq_true a
    subst a
    conv => whnf
    refine call1 (keep_Cmd (m0 20) (20, i, t, n, v, w, N, o, r)) rfl ?_
    conv => whnf
    rfl
  have a20 : ¬ k = 20 := of_decide_eq_false a
  clear a
  conv => whnf
  refine ⟨fun a => ?_, fun a => ?_⟩
  · have a : k = 4 := of_decide_eq_true a
    subst a
    conv => whnf
    refine call1 (ref_Name n) rfl ?_
    conv => whnf
    refine callg0 (fun _ => keep_Cmd (mNm (m0 4) n) (4, i, t, n, v, w, N, o, r)) rfl ?_
    conv => whnf
    rfl
  have a4 : ¬ k = 4 := of_decide_eq_false a
  clear a
  conv => whnf
  refine ⟨fun a => ?_, fun a => ?_⟩
  · have a : k = 5 := of_decide_eq_true a
    subst a
    conv => whnf
    refine call1 (ref_Name n) rfl ?_
    conv => whnf
    refine callg0 (fun _ => keep_Cmd (mNm (m0 5) n) (5, i, t, n, v, w, N, o, r)) rfl ?_
    conv => whnf
    rfl
  have a5 : ¬ k = 5 := of_decide_eq_false a
  clear a
  conv => whnf
  refine ⟨fun a => ?_, fun a => ?_⟩
  · have a : k = 6 := of_decide_eq_true a
    subst a
    conv => whnf
    refine call1 (ref24_GoodOp o) rfl ?_
    conv => whnf
    refine callg0 (fun _ => keep_Cmd (sO (m0 6) o) (6, i, t, n, v, w, N, o, r)) rfl ?_
    conv => whnf
    rfl
  have a6 : ¬ k = 6 := of_decide_eq_false a
  clear a
  conv => whnf
  refine ⟨fun a => ?_, fun a => ?_⟩
  · have a : k = 7 := of_decide_eq_true a
    subst a
    conv => whnf
    refine call1 (ref24_id i) rfl ?_
    conv => whnf
    refine callg0 (fun _ => keep_Cmd (mI (m0 7) i) (7, i, t, n, v, w, N, o, r)) rfl ?_
    conv => whnf
    rfl
  have a7 : ¬ k = 7 := of_decide_eq_false a
  clear a
  conv => whnf
  refine ⟨fun a => ?_, fun a => ?_⟩
  · have a : k = 8 := of_decide_eq_true a
    subst a
    conv => whnf
    refine call1 (ref24_id i) rfl ?_
    conv => whnf
    refine callg0 (fun _ => keep_Cmd (mI (m0 8) i) (8, i, t, n, v, w, N, o, r)) rfl ?_
    conv => whnf
    rfl
  have a8 : ¬ k = 8 := of_decide_eq_false a
  clear a
  conv => whnf
  refine ⟨fun a => ?_, fun a => ?_⟩
  · have a : k = 9 := of_decide_eq_true a
    subst a
    conv => whnf
    refine any0 ?_
    conv => whnf
    refine ⟨.inl (by kernel_rfl), after0 ?_⟩
    conv => whnf
    refine call1 (ref24_id i) rfl ?_
    conv => whnf
    refine callg0 (fun _ => ref_Name t) rfl ?_
    conv => whnf
    refine callg0 (fun _ => keep_Cmd (mT (mI (m0 9) i) t) (9, i, t, n, v, w, N, o, r)) rfl ?_
    conv => whnf
    rfl
  have a9 : ¬ k = 9 := of_decide_eq_false a
  clear a
  conv => whnf
  refine ⟨fun a => ?_, fun a => ?_⟩
  · have a : k = 10 := of_decide_eq_true a
    subst a
    conv => whnf
    refine any0 ?_
    conv => whnf
    refine ⟨.inl (by kernel_rfl), after0 ?_⟩
    conv => whnf
    refine call1 (ref24_id i) rfl ?_
    conv => whnf
    refine callg0 (fun _ => ref_Name t) rfl ?_
    conv => whnf
    refine callg0 (fun _ => keep_Cmd (mT (mI (m0 10) i) t) (10, i, t, n, v, w, N, o, r)) rfl ?_
    conv => whnf
    rfl
  have a10 : ¬ k = 10 := of_decide_eq_false a
  clear a
  conv => whnf
  refine ⟨fun a => ?_, fun a => ?_⟩
  · have a : k = 11 := of_decide_eq_true a
    subst a
    conv => whnf
    refine call1 (ref_Name t) rfl ?_
    conv => whnf
    refine callg0 (fun _ => keep_Cmd (mT (m0 11) t) (11, i, t, n, v, w, N, o, r)) rfl ?_
    conv => whnf
    rfl
  have a11 : ¬ k = 11 := of_decide_eq_false a
  clear a
  conv => whnf
  refine ⟨fun a => ?_, fun a => ?_⟩
  · have a : k = 12 := of_decide_eq_true a
    subst a
    conv => whnf
    refine any0 ?_
    conv => whnf
    refine ⟨.inl (by kernel_rfl), after0 ?_⟩
    conv => whnf
    refine call1 (ref_Name t) rfl ?_
    conv => whnf
    refine callg0 (fun _ => ref_Name n) rfl ?_
    conv => whnf
    refine callg0 (fun _ => ref_Good v) rfl ?_
    conv => whnf
    refine callg0 (fun _ => keep_Cmd (mVl (mNm (mT (m0 12) t) n) v) (12, i, t, n, v, w, N, o, r)) rfl ?_
    conv => whnf
    rfl
  have a12 : ¬ k = 12 := of_decide_eq_false a
  clear a
  conv => whnf
  refine ⟨fun a => ?_, fun a => ?_⟩
  · have a : k = 13 := of_decide_eq_true a
    subst a
    conv => whnf
    refine any0 ?_
    conv => whnf
    refine ⟨.inl (by kernel_rfl), after0 ?_⟩
    conv => whnf
    refine call1 (ref_Name t) rfl ?_
    conv => whnf
    refine callg0 (fun _ => ref_Name n) rfl ?_
    conv => whnf
    refine callg0 (fun _ => ref24_value v) rfl ?_
    conv => whnf
    refine callg0 (fun _ => ref24_value w) rfl ?_
    conv => whnf
    refine callg0 (fun _ => keep_Cmd (mW (mVl (mNm (mT (m0 13) t) n) v) w) (13, i, t, n, v, w, N, o, r)) rfl ?_
    conv => whnf
    rfl
  have a13 : ¬ k = 13 := of_decide_eq_false a
  clear a
  conv => whnf
  refine ⟨fun a => ?_, fun a => ?_⟩
  · have a : k = 14 := of_decide_eq_true a
    subst a
    conv => whnf
    refine any0 ?_
    conv => whnf
    refine ⟨.inl (by kernel_rfl), after0 ?_⟩
    conv => whnf
    refine call1 (ref_Name t) rfl ?_
    conv => whnf
    refine callg0 (fun _ => keep_Cmd (mM (mT (m0 14) t) N) (14, i, t, n, v, w, N, o, r)) rfl ?_
    conv => whnf
    rfl
  have a14 : ¬ k = 14 := of_decide_eq_false a
  clear a
  conv => whnf
  refine ⟨fun a => ?_, fun a => ?_⟩
  · have a : k = 15 := of_decide_eq_true a
    subst a
    conv => whnf
    refine any0 ?_
    conv => whnf
    refine ⟨.inl (by kernel_rfl), after0 ?_⟩
    conv => whnf
    refine call1 (ref_Name t) rfl ?_
    conv => whnf
    refine callg0 (fun _ => keep_Cmd (mM (mT (m0 15) t) N) (15, i, t, n, v, w, N, o, r)) rfl ?_
    conv => whnf
    rfl
  have a15 : ¬ k = 15 := of_decide_eq_false a
  clear a
  conv => whnf
  refine ⟨fun a => ?_, fun a => ?_⟩
  · have a : k = 16 := of_decide_eq_true a
    subst a
    conv => whnf
    refine call1 (ref_Form r) rfl ?_
    conv => whnf
    refine callg0 (fun _ => keep_Cmd (mR (m0 16) r) (16, i, t, n, v, w, N, o, r)) rfl ?_
    conv => whnf
    rfl
  have a16 : ¬ k = 16 := of_decide_eq_false a
  clear a
  conv => whnf
  refine ⟨fun a => ?_, fun a => ?_⟩
  · have a : k = 17 := of_decide_eq_true a
    subst a
    conv => whnf
    refine callg0 (fun _ => keep_Cmd (mM (m0 17) N) (17, i, t, n, v, w, N, o, r)) rfl ?_
    conv => whnf
    rfl
  have a17 : ¬ k = 17 := of_decide_eq_false a
  clear a
  conv => whnf
  refine ⟨fun a => ?_, fun a => ?_⟩
  · have a : k = 18 := of_decide_eq_true a
    subst a
    conv => whnf
    refine any0 ?_
    conv => whnf
    refine ⟨.inl (by kernel_rfl), after0 ?_⟩
    conv => whnf
    refine call1 (ref_Name t) rfl ?_
    conv => whnf
    refine callg0 (fun _ => ref_Name n) rfl ?_
    conv => whnf
    refine callg0 (fun _ => keep_Cmd (mNm (mT (m0 18) t) n) (18, i, t, n, v, w, N, o, r)) rfl ?_
    conv => whnf
    rfl
  have a18 : ¬ k = 18 := of_decide_eq_false a
  clear a
  conv => whnf
  refine ⟨fun a => ?_, fun a => ?_⟩
  · have a : k = 19 := of_decide_eq_true a
    subst a
    conv => whnf
    refine any0 ?_
    conv => whnf
    refine ⟨.inl (by kernel_rfl), after0 ?_⟩
    conv => whnf
    refine call1 (ref_Name t) rfl ?_
    conv => whnf
    refine callg0 (fun _ => ref_Name n) rfl ?_
    conv => whnf
    refine callg0 (fun _ => keep_Cmd (mNm (mT (m0 19) t) n) (19, i, t, n, v, w, N, o, r)) rfl ?_
    conv => whnf
    rfl
  have a19 : ¬ k = 19 := of_decide_eq_false a
  clear a
  conv => whnf
  rw [show refgood (k, i, t, n, v, w, N, o, r) = false by
    have : cmN (k, i, t, n, v, w, N, o, r) = (m0 k, false) := by simp [cmN, a1, a2, a3, a4, a5, a6, a7, a8, a9, a10, a11, a12, a13, a14, a15, a16, a17, a18, a19, a20]
    unfold refgood; rw [this]; rfl]
end Go.Proofs.YtmdjonckcapkeaaGreatDoor
/- The walks of the reference's bytes of commands. Printed by genwenc.py. Own work. -/
set_option linter.unusedVariables false
set_option maxRecDepth 100000
namespace Go.Proofs.YtmdjonckcapkeaaGreatDoor
open Go Go.RowKit OE

/-- a change's bytes -/
def encRO (o : OD.T) : List UInt8 :=
  if (o.1 : Int) = 1 then kb o.1 ++ Num.putT o.2.2.1
  else if (o.1 : Int) = 2 then kb o.1 ++ Num.putN (u64 o.2.1) ++ (if o.2.2.2.2.2.2.2 = true then kb 1 else kb 0)
  else if (o.1 : Int) = 3 then kb o.1 ++ Num.putT o.2.2.1 ++ Num.putN (u64 o.2.2.2.1) ++ Num.putN (u64 o.2.2.2.2.1)
  else if (o.1 : Int) = 4 then kb o.1 ++ Num.putN (u64 o.2.1)
  else kb o.1 ++ Num.putN (u64 o.2.1) ++ Num.putT o.2.2.2.2.2.1 ++ encV (oV o)
/-- a command's bytes, but for the fields that it has not -/
def encR (m : MD.T) : List UInt8 :=
  if (m.1 : Int) = 4 ∨ (m.1 : Int) = 5 then kb m.1 ++ Num.putT (mName m)
  else if (m.1 : Int) = 6 then kb m.1 ++ encRO (mOp m)
  else if (m.1 : Int) = 7 ∨ (m.1 : Int) = 8 then kb m.1 ++ Num.putN (u64 m.2.1)
  else if (m.1 : Int) = 9 ∨ (m.1 : Int) = 10 then kb m.1 ++ (Num.putN (u64 m.2.1) ++ Num.putT (mType m))
  else if (m.1 : Int) = 11 then kb m.1 ++ Num.putT (mType m)
  else if (m.1 : Int) = 12 then kb m.1 ++ (Num.putT (mType m) ++ Num.putT (mName m) ++ encV (mV m))
  else if (m.1 : Int) = 13 then kb m.1 ++ (Num.putT (mType m) ++ Num.putT (mName m) ++ encV (mV m) ++ encV (mTo m))
  else if (m.1 : Int) = 14 ∨ (m.1 : Int) = 15 then kb m.1 ++ (Num.putT (mType m) ++ Num.putN (u64 (mN m)))
  else if (m.1 : Int) = 16 then kb m.1 ++ encS (mRule m)
  else if (m.1 : Int) = 17 then kb m.1 ++ Num.putN (u64 (mN m))
  else if (m.1 : Int) = 18 ∨ (m.1 : Int) = 19 then kb m.1 ++ (Num.putT (mType m) ++ Num.putT (mName m))
  else kb m.1
end Go.Proofs.YtmdjonckcapkeaaGreatDoor
/- Commands' bytes, field by field: what is put is got; no program in sight. Own work. -/
set_option linter.unusedVariables false
set_option maxRecDepth 100000
namespace Go.Proofs.YtmdjonckcapkeaaGreatDoor
open Go Go.RowKit OE

theorem tx_get {t : List UInt8} {e : Bool} (h : (txS t e).2 = true) {s p r : List UInt8} {k : Int} (hs : s = p ++ (txS t e).1 ++ r) (hk : k = p.length) : Num.getT s k 16 = some (t, (txS t e).1.length) := by
  have hl : t.length ≤ 16 := by
    simp only [txS, Bool.or_eq_true, Bool.and_eq_true, decide_eq_true_eq] at h
    rcases h with h | h
    · exact nameS_len h
    · rw [h.2]; decide
  exact gtS_at p t r hl hs hk
theorem and_id (n : Nat) (h : n ≤ 4611686018427387903) : idN n = (n : Int) := by
  unfold idN
  have := u64_and_nat n 4611686018427387903 (by omega) (by omega)
  rw [show ((4611686018427387903 : Nat) : Int) = 4611686018427387903 from rfl] at this
  rw [this, show (4611686018427387903 : Nat) = 2 ^ 62 - 1 from rfl, Nat.and_two_pow_sub_one_eq_mod, Nat.mod_eq_of_lt (by omega), wr64 _ (by omega) (by omega)]
theorem nu_get {n a b : Int} (h : (nuS n a b).2 = true) (ha : 0 ≤ a) (hb : b ≤ 4611686018427387903) {s p r : List UInt8} {k : Int} (hs : s = p ++ (nuS n a b).1 ++ r) (hk : k = p.length) : Num.getN s k = some (n.toNat, (nuS n a b).1.length) ∧ 0 ≤ n ∧ n ≤ b := by
  simp only [nuS, Bool.and_eq_true, decide_eq_true_eq] at h
  have e : u64 n = n.toNat := u64_of (by omega) (by omega)
  refine ⟨?_, by omega, h.2⟩
  unfold nuS at hs ⊢
  rw [e] at hs ⊢
  rw [hs, hk]
  exact Num.getN_put n.toNat p r (by omega)
theorem nu_id {n a b : Int} (h : (nuS n a b).2 = true) (ha : 0 ≤ a) (hb : b ≤ 4611686018427387903) {s p r : List UInt8} {k : Int} (hs : s = p ++ (nuS n a b).1 ++ r) (hk : k = p.length) : idN (nS s k).1 = n ∧ (nS s k).2 = (nuS n a b).1.length ∧ (Num.getN s k).isSome = true := by
  obtain ⟨g, g0, g1⟩ := nu_get h ha hb hs hk
  have e : nS s k = (n.toNat, (nuS n a b).1.length) := by unfold nS; rw [g]; rfl
  refine ⟨?_, by rw [e], by rw [g]; rfl⟩
  rw [e]
  show idN n.toNat = n
  rw [and_id _ (by omega)]
  omega
theorem va_form {v : VD.T} (h : encV v ≠ []) : blankV v = true ∨ goodV v = true := by
  unfold encV at h
  split at h
  · exact .inl (by assumption)
  · split at h
    · exact .inr (by assumption)
    · exact (h rfl).elim
theorem va_get {v : VD.T} {e : Bool} (hv : Wf VD v) (h : (vaS v e).2 = true) {s p r : List UInt8} {k : Int} (hs : s = p ++ (vaS v e).1 ++ r) (hk : k = p.length) : decV s k = some (v, (vaS v e).1.length) := by
  simp only [vaS, Bool.and_eq_true, Bool.not_eq_true', decide_eq_false_iff_not] at h
  exact decV_enc hv (va_form h.1) p r hs hk
theorem back1p (r : RD.T) (h : okS r = true) (p q : List UInt8) {s : List UInt8} {k : Int} (hs : s = p ++ encS r ++ q) (hk : k = p.length) : decS s k = some (r, (encS r).length) := by
  subst hk
  obtain ⟨i0, i1, k0, k1, n0, n1, s0, s1, t0, t1, t2, t3⟩ := okR h
  have k1 : r.2.1 ≤ 1000000 := Int.le_trans k1 (by decide)
  have n1 : r.2.2.2.2.2.2.1 ≤ 1000000 := Int.le_trans n1 (by decide)
  have s1 : r.2.2.2.2.2.2.2 ≤ 1000000 := Int.le_trans s1 (by decide)
  have k0 : 0 ≤ r.2.1 := Int.le_trans (by decide) k0
  have e : encS r = bytS r := by unfold encS; rw [if_pos h]
  rw [e] at hs ⊢
  have hd : decP s (p.length : Int) = some (r, (bytS r).length) := by
    obtain ⟨x1, x2, x3, x4, x5, x6, x7, x8⟩ := r
    dsimp only at *
    unfold bytS at hs ⊢
    dsimp only at hs ⊢
    have y1 := Int.toNat_of_nonneg i0
    have y2 := Int.toNat_of_nonneg k0
    have y7 := Int.toNat_of_nonneg n0
    have y8 := Int.toNat_of_nonneg s0
    have g1 := gnS_at (s := s) (k := p.length) p x1.toNat (Num.putN x2.toNat ++ Num.putN x8.toNat ++ Num.putN x7.toNat ++ Num.putT x3 ++ Num.putT x4 ++ Num.putT x5 ++ Num.putT x6 ++ q) (toNat_le _ i1) (by rw [hs]; simp only [List.append_assoc]) rfl
    have g2 := gnS_at (s := s) (k := p.length + ((Num.putN x1.toNat).length : Int)) (p ++ Num.putN x1.toNat) x2.toNat (Num.putN x8.toNat ++ Num.putN x7.toNat ++ Num.putT x3 ++ Num.putT x4 ++ Num.putT x5 ++ Num.putT x6 ++ q) (toNat_le _ k1) (by rw [hs]; simp only [List.append_assoc]) (by simp only [List.length_append]; omega)
    have g3 := gnS_at (s := s) (k := p.length + ((Num.putN x1.toNat).length : Int) + ((Num.putN x2.toNat).length : Int)) (p ++ Num.putN x1.toNat ++ Num.putN x2.toNat) x8.toNat (Num.putN x7.toNat ++ Num.putT x3 ++ Num.putT x4 ++ Num.putT x5 ++ Num.putT x6 ++ q) (toNat_le _ s1) (by rw [hs]; simp only [List.append_assoc]) (by simp only [List.length_append]; omega)
    have g4 := gnS_at (s := s) (k := p.length + ((Num.putN x1.toNat).length : Int) + ((Num.putN x2.toNat).length : Int) + ((Num.putN x8.toNat).length : Int)) (p ++ Num.putN x1.toNat ++ Num.putN x2.toNat ++ Num.putN x8.toNat) x7.toNat (Num.putT x3 ++ Num.putT x4 ++ Num.putT x5 ++ Num.putT x6 ++ q) (toNat_le _ n1) (by rw [hs]; simp only [List.append_assoc]) (by simp only [List.length_append]; omega)
    have g5 := gtS_at (s := s) (k := p.length + ((Num.putN x1.toNat).length : Int) + ((Num.putN x2.toNat).length : Int) + ((Num.putN x8.toNat).length : Int) + ((Num.putN x7.toNat).length : Int)) (p ++ Num.putN x1.toNat ++ Num.putN x2.toNat ++ Num.putN x8.toNat ++ Num.putN x7.toNat) x3 (Num.putT x4 ++ Num.putT x5 ++ Num.putT x6 ++ q) t0 (by rw [hs]; simp only [List.append_assoc]) (by simp only [List.length_append]; omega)
    have g6 := gtS_at (s := s) (k := p.length + ((Num.putN x1.toNat).length : Int) + ((Num.putN x2.toNat).length : Int) + ((Num.putN x8.toNat).length : Int) + ((Num.putN x7.toNat).length : Int) + ((Num.putT x3).length : Int)) (p ++ Num.putN x1.toNat ++ Num.putN x2.toNat ++ Num.putN x8.toNat ++ Num.putN x7.toNat ++ Num.putT x3) x4 (Num.putT x5 ++ Num.putT x6 ++ q) t1 (by rw [hs]; simp only [List.append_assoc]) (by simp only [List.length_append]; omega)
    have g7 := gtS_at (s := s) (k := p.length + ((Num.putN x1.toNat).length : Int) + ((Num.putN x2.toNat).length : Int) + ((Num.putN x8.toNat).length : Int) + ((Num.putN x7.toNat).length : Int) + ((Num.putT x3).length : Int) + ((Num.putT x4).length : Int)) (p ++ Num.putN x1.toNat ++ Num.putN x2.toNat ++ Num.putN x8.toNat ++ Num.putN x7.toNat ++ Num.putT x3 ++ Num.putT x4) x5 (Num.putT x6 ++ q) t2 (by rw [hs]; simp only [List.append_assoc]) (by simp only [List.length_append]; omega)
    have g8 := gtS_at (s := s) (k := p.length + ((Num.putN x1.toNat).length : Int) + ((Num.putN x2.toNat).length : Int) + ((Num.putN x8.toNat).length : Int) + ((Num.putN x7.toNat).length : Int) + ((Num.putT x3).length : Int) + ((Num.putT x4).length : Int) + ((Num.putT x5).length : Int)) (p ++ Num.putN x1.toNat ++ Num.putN x2.toNat ++ Num.putN x8.toNat ++ Num.putN x7.toNat ++ Num.putT x3 ++ Num.putT x4 ++ Num.putT x5) x6 q t3 (by rw [hs]; simp only [List.append_assoc]) (by simp only [List.length_append]; omega)
    simp only [decP, g1, g2, g3, g4, g5, g6, g7, g8, List.length_append]
    rw [y1, y2, y7, y8]
  simp only [decS, hd, h, if_true]
theorem ru_ok {r : RD.T} (h : (ruS r).2 = true) : okS r = true ∧ r.1 = 0 ∧ r.2.2.2.2.2.2.2 = 0 := by
  simp only [ruS, Bool.and_eq_true, decide_eq_true_eq] at h
  refine ⟨Decidable.byContradiction fun hn => ?_, h.1.2, h.2⟩
  have := h.1.1
  rw [show errS r = 11 from if_neg hn] at this
  cases this
theorem ru_get {r : RD.T} (h : (ruS r).2 = true) {s p q : List UInt8} {k : Int} (hs : s = p ++ (ruS r).1 ++ q) (hk : k = p.length) : decS s k = some (r, (ruS r).1.length) :=
  back1p r (ru_ok h).1 p q hs hk

/-! a change's fields -/
def setO (x : OD.T) (f : Int) (o : OD.T) : OD.T :=
  if f = 116 ∨ f = 101 then oT x o.2.2.1
  else if f = 110 then oN x o.2.2.2.2.2.1
  else if f = 105 then oI x o.2.1
  else if f = 97 then oF x o.2.2.2.1
  else if f = 98 then oE x o.2.2.2.2.1
  else if f = 118 ∨ f = 119 then oVl x (oV o)
  else oC x o.2.2.2.2.2.2.2
theorem gO_put {o : OD.T} (hv : Wf VD (oV o)) (x : OD.T) {f : Int} (h : (putO o f).2 = true) {s p r : List UInt8} {k : Int} (hs : s = p ++ (putO o f).1 ++ r) (hk : k = p.length) : gO x f s k = (setO x f o, ((putO o f).1.length : Int), true) := by
  unfold gO setO
  generalize hq : putO o f = q at h hs
  unfold putO at hq
  by_cases h1 : f = 116 ∨ f = 101
  · rw [if_pos h1] at hq ⊢; rw [if_pos h1]; subst hq
    have g := tx_get h hs hk
    unfold tS; rw [g]; rfl
  rw [if_neg h1] at hq ⊢; rw [if_neg h1]
  by_cases h2 : f = 110
  · rw [if_pos h2] at hq ⊢; rw [if_pos h2]; subst hq
    have g := tx_get h hs hk
    unfold tS; rw [g]; rfl
  rw [if_neg h2] at hq ⊢; rw [if_neg h2]
  by_cases h3 : f = 105
  · rw [if_pos h3] at hq ⊢; rw [if_pos h3]; subst hq
    obtain ⟨g1, g2, g3⟩ := nu_id h (by decide) (by decide) hs hk
    rw [g1, g2, g3]
  rw [if_neg h3] at hq ⊢; rw [if_neg h3]
  by_cases h4 : f = 97
  · rw [if_pos h4] at hq ⊢; rw [if_pos h4]; subst hq
    obtain ⟨g1, g2, g3⟩ := nu_id h (by decide) (by decide) hs hk
    rw [g1, g2, g3]
  rw [if_neg h4] at hq ⊢; rw [if_neg h4]
  by_cases h5 : f = 98
  · rw [if_pos h5] at hq ⊢; rw [if_pos h5]; subst hq
    obtain ⟨g1, g2, g3⟩ := nu_id h (by decide) (by decide) hs hk
    rw [g1, g2, g3]
  rw [if_neg h5] at hq ⊢; rw [if_neg h5]
  by_cases h6 : f = 118 ∨ f = 119
  · rw [if_pos h6] at hq ⊢; rw [if_pos h6]; subst hq
    have g := va_get hv h hs hk
    unfold vS'; rw [g]; rfl
  rw [if_neg h6] at hq ⊢; rw [if_neg h6]
  have hb : ∃ b : UInt8, q.1 = [b] ∧ decide ((b.toNat : Int) = 1) = o.2.2.2.2.2.2.2 := by
    subst hq
    cases hc : o.2.2.2.2.2.2.2 with
    | true => exact ⟨1, by simp, by decide⟩
    | false => exact ⟨0, by simp, by decide⟩
  obtain ⟨b, hb, hc⟩ := hb
  rw [hb] at hs ⊢
  have hbt := bt_at' p b r (s := s) (k := k) (by rw [hs]; simp) hk
  rw [if_pos (by rw [hs, hk]; simp; omega), hbt, hc]
  rfl
/-! a command's fields -/
theorem fld_put {G : MD.T → Int → Int → MD.T × Int × Bool} {P : Int → List UInt8 × Bool} {S : MD.T → Int → MD.T} {s : List UInt8}
    (hG : ∀ (a : MD.T) (f : Int) (p r : List UInt8) (k : Int), (P f).2 = true → s = p ++ (P f).1 ++ r → k = p.length → G a f k = (S a f, ((P f).1.length : Int), true)) :
    ∀ (l : List UInt8) (a : MD.T) (p r : List UInt8) (k z : Int), (∀ f ∈ l, (P f.toNat).2 = true) → s = p ++ l.flatMap (fun f => (P f.toNat).1) ++ r → k + z = p.length → fldS G l a k z = (l.foldl (fun a f => S a f.toNat) a, z + ((l.flatMap fun f => (P f.toNat).1).length : Int), true)
  | [], a, p, r, k, z, _, _, _ => by simp [fldS]
  | f :: l, a, p, r, k, z, h, hs, hk => by
    have h1 := hG a f.toNat p (l.flatMap (fun f => (P f.toNat).1) ++ r) (k + z) (h f List.mem_cons_self) (by rw [hs]; simp only [List.flatMap_cons, List.append_assoc]) hk
    unfold fldS
    rw [h1, if_pos rfl]
    rw [fld_put hG l _ (p ++ (P f.toNat).1) r k _ (fun g hg => h g (List.mem_cons_of_mem _ hg)) (by rw [hs]; simp only [List.flatMap_cons, List.append_assoc]) (by rw [List.length_append]; dsimp only; omega)]
    simp only [List.flatMap_cons, List.length_append, List.foldl_cons]
    congr 2
    omega
def proO (a : OD.T) (o : OD.T) : OD.T := (gt (d := .str) opsL o.1).foldl (fun x f => setO x f.toNat o) (oK a o.1)
theorem fold_sO (o : OD.T) : ∀ (l : List UInt8) (m : MD.T), l.foldl (fun (a : MD.T) f => sO a (setO (mOp a) f.toNat o)) m = sO m (l.foldl (fun x f => setO x f.toNat o) (mOp m))
  | [], m => rfl
  | f :: l, m => by
    simp only [List.foldl_cons]
    rw [fold_sO o l]
    rfl
theorem bt_first (k : Int) (h0 : 0 ≤ k) (h1 : k < 256) (p r : List UInt8) : bt (p ++ byl [IntKind.wrap .u8 k] ++ r) p.length = k := by
  have e : byl [IntKind.wrap .u8 k] = [UInt8.ofNat k.toNat] := by
    have h : IntKind.wrap .u8 k = k := by rw [wru8]; omega
    show [UInt8.ofNat (IntKind.wrap .u8 k).toNat] = _
    rw [h]
  rw [e, bt_at' p (UInt8.ofNat k.toNat) r (by simp) rfl]
  simp
  omega
theorem chg_form {o : OD.T} (h : (chgS o).2 = true) : ∃ K : Int, o.1 = K ∧ 0 ≤ K ∧ K < 6 ∧ (∀ f ∈ gt (d := .str) opsL K, (putO o f.toNat).2 = true) ∧ (chgS o).1 = byl [IntKind.wrap .u8 K] ++ (gt (d := .str) opsL K).flatMap fun f => (putO o f.toNat).1 := by
  unfold chgS at h ⊢
  split at h
  · cases h
  rename_i hc
  rw [if_neg hc]
  have h0 : 0 ≤ (o.1 : Int) := Int.not_lt.1 fun h => hc (.inl h)
  have h1 : (o.1 : Int) < 6 := Int.not_le.1 fun h => hc (.inr (.inl h))
  unfold allS at h ⊢
  split at h
  · rename_i hall
    rw [if_pos hall]
    exact ⟨o.1, rfl, h0, h1, List.all_eq_true.1 hall, rfl⟩
  · cases h
theorem ch_put {o : OD.T} (hv : Wf VD (oV o)) (m : MD.T) (h : (chgS o).2 = true) {s p r : List UInt8} {k : Int} (hs : s = p ++ (chgS o).1 ++ r) (hk : k = p.length) : chR s m k = (sO m (proO (mOp m) o), ((chgS o).1.length : Int), true) := by
  obtain ⟨K, hK, h0, h1, h2, h3⟩ := chg_form h
  have hP : proO (mOp m) o = (gt (d := .str) opsL K).foldl (fun x f => setO x f.toNat o) (oK (mOp m) K) := by unfold proO; rw [hK]
  rw [h3] at hs ⊢
  have hl : (byl [IntKind.wrap .u8 K]).length = 1 := rfl
  have hb : bt s k = K := by
    have := bt_first K h0 (by omega) p ((gt (d := .str) opsL K).flatMap (fun f => (putO o f.toNat).1) ++ r)
    rw [hs, hk, ← List.append_assoc, List.append_assoc (p ++ byl [IntKind.wrap .u8 K])]
    exact this
  have hf := fld_put (G := goM s) (P := putO o) (S := fun a f => sO a (setO (mOp a) f o)) (s := s) (fun a f p r k h hs hk => by
    unfold goM
    rw [gO_put hv (mOp a) h hs hk]) (gt (d := .str) opsL K) (sO m (oK (mOp m) K)) (p ++ byl [IntKind.wrap .u8 K]) r (k + 1) 0 h2 (by rw [hs]; simp only [List.append_assoc]) (by rw [List.length_append, hl, hk]; omega)
  have hlen : k < s.length := by rw [hs, hk]; simp only [List.length_append, hl]; omega
  unfold chR
  rw [hb, if_neg (by omega), hf, fold_sO, hP]
  simp only [List.length_append, hl]
  have e : (0 : Int) + (((gt (d := .str) opsL K).flatMap fun f => (putO o f.toNat).1).length : Int) + 1 = ((1 + ((gt (d := .str) opsL K).flatMap fun f => (putO o f.toNat).1).length : Nat) : Int) := by omega
  rw [e]
  rfl
def setM (a : MD.T) (f : Int) (m : MD.T) : MD.T :=
  if f = 116 ∨ f = 101 then mT a (mType m)
  else if f = 110 then mNm a (mName m)
  else if f = 105 then mI a m.2.1
  else if f = 118 ∨ f = 119 then mVl a (mV m)
  else if f = 120 then mW a (mTo m)
  else if f = 107 ∨ f = 109 then mM a (mN m)
  else if f = 114 then mR a (mRule m)
  else sO a (proO (mOp a) (mOp m))
theorem mi_id {n : Int} (h0 : 0 ≤ n) (h1 : n ≤ 1000000) : miN n.toNat = n := by
  unfold miN
  rw [if_neg (by omega), wr64 _ (by omega) (by omega)]
  omega
theorem nu_mi {n a b : Int} (h : (nuS n a b).2 = true) (ha : 0 ≤ a) (hb : b ≤ 1000000) {s p r : List UInt8} {k : Int} (hs : s = p ++ (nuS n a b).1 ++ r) (hk : k = p.length) : miN (nS s k).1 = n ∧ (nS s k).2 = (nuS n a b).1.length ∧ (Num.getN s k).isSome = true := by
  obtain ⟨g, g0, g1⟩ := nu_get h ha (by omega) hs hk
  have e : nS s k = (n.toNat, (nuS n a b).1.length) := by unfold nS; rw [g]; rfl
  refine ⟨?_, by rw [e], by rw [g]; rfl⟩
  rw [e]
  exact mi_id g0 (by omega)
theorem gM_put {m : MD.T} (hm : SmC m) (a : MD.T) {f : Int} (h : (putM m f).2 = true) {s p r : List UInt8} {k : Int} (hs : s = p ++ (putM m f).1 ++ r) (hk : k = p.length) : gM s a f k = (setM a f m, ((putM m f).1.length : Int), true) := by
  unfold gM setM
  generalize hq : putM m f = q at h hs
  unfold putM at hq
  by_cases h1 : f = 116 ∨ f = 101
  · rw [if_pos h1] at hq ⊢; rw [if_pos h1]; subst hq
    have g := tx_get h hs hk
    unfold tS; rw [g]; rfl
  rw [if_neg h1] at hq ⊢; rw [if_neg h1]
  by_cases h2 : f = 110
  · rw [if_pos h2] at hq ⊢; rw [if_pos h2]; subst hq
    have g := tx_get h hs hk
    unfold tS; rw [g]; rfl
  rw [if_neg h2] at hq ⊢; rw [if_neg h2]
  by_cases h3 : f = 105
  · rw [if_pos h3] at hq ⊢; rw [if_pos h3]; subst hq
    obtain ⟨g1, g2, g3⟩ := nu_id h (by decide) (by decide) hs hk
    rw [g1, g2, g3]
  rw [if_neg h3] at hq ⊢; rw [if_neg h3]
  by_cases h6 : f = 118 ∨ f = 119
  · rw [if_pos h6] at hq ⊢; rw [if_pos h6]; subst hq
    have g := va_get hm.v h hs hk
    unfold vS'; rw [g]; rfl
  rw [if_neg h6] at hq ⊢; rw [if_neg h6]
  by_cases h7 : f = 120
  · rw [if_pos h7] at hq ⊢; rw [if_pos h7]; subst hq
    have g := va_get hm.to h hs hk
    unfold vS'; rw [g]; rfl
  rw [if_neg h7] at hq ⊢; rw [if_neg h7]
  by_cases h8 : f = 107
  · rw [if_pos h8] at hq; rw [if_pos (.inl h8), if_pos (.inl h8)]; subst hq
    obtain ⟨g1, g2, g3⟩ := nu_mi h (by decide) (by decide) hs hk
    rw [g1, g2, g3]
  rw [if_neg h8] at hq
  by_cases h9 : f = 109
  · rw [if_pos h9] at hq; rw [if_pos (.inr h9), if_pos (.inr h9)]; subst hq
    obtain ⟨g1, g2, g3⟩ := nu_mi h (by decide) (by decide) hs hk
    rw [g1, g2, g3]
  have h89 : ¬ (f = 107 ∨ f = 109) := fun h => h.elim h8 h9
  rw [if_neg h9] at hq
  rw [if_neg h89, if_neg h89]
  by_cases h10 : f = 114
  · rw [if_pos h10] at hq ⊢; rw [if_pos h10]; subst hq
    have g := ru_get h hs hk
    unfold rS'; rw [g]; rfl
  rw [if_neg h10] at hq ⊢; rw [if_neg h10]
  subst hq
  exact ch_put hm.ov a h hs hk
/-- what a command's bytes are read as: its kind's fields alone -/
def proM (m : MD.T) : MD.T := (gt (d := .str) cmdL m.1).foldl (fun a f => setM a f.toNat m) (m0 m.1)
theorem byt_form {m : MD.T} (h : (bytM m).2 = true) : ∃ K : Int, m.1 = K ∧ 1 ≤ K ∧ K < 21 ∧ (∀ f ∈ gt (d := .str) cmdL K, (putM m f.toNat).2 = true) ∧ (bytM m).1 = byl [IntKind.wrap .u8 K] ++ (gt (d := .str) cmdL K).flatMap fun f => (putM m f.toNat).1 := by
  unfold bytM at h ⊢
  split at h
  · cases h
  rename_i hc
  rw [if_neg hc]
  have hk : knownM m.1 = true := by
    cases hh : knownM m.1 with
    | true => rfl
    | false => exact (hc hh).elim
  have hk : 1 ≤ (m.1 : Int) ∧ (m.1 : Int) < 21 := by simpa [knownM] using hk
  unfold allS at h ⊢
  split at h
  · rename_i hall
    rw [if_pos hall]
    exact ⟨m.1, rfl, hk.1, hk.2, List.all_eq_true.1 hall, rfl⟩
  · cases h
theorem read_put {m : MD.T} (hm : SmC m) (h : (bytM m).2 = true) : readS (bytM m).1 = (proM m, true) := by
  obtain ⟨K, hK, h0, h1, h2, h3⟩ := byt_form h
  have hP : proM m = (gt (d := .str) cmdL K).foldl (fun a f => setM a f.toNat m) (m0 K) := by unfold proM; rw [hK]
  have hl : (byl [IntKind.wrap .u8 K]).length = 1 := rfl
  generalize (bytM m).1 = s at h3
  have hb : bt s 0 = K := by
    have := bt_first K (by omega) (by omega) [] ((gt (d := .str) cmdL K).flatMap (fun f => (putM m f.toNat).1))
    rw [h3]; exact this
  have hf := fld_put (G := gM s) (P := putM m) (S := fun a f => setM a f m) (s := s) (fun a f p r k h hs hk => gM_put hm a h hs hk) (gt (d := .str) cmdL K) (m0 K) (byl [IntKind.wrap .u8 K]) [] 1 0 h2 (by rw [h3]; simp) (by rw [hl]; rfl)
  have hc : ¬ (s = [] ∨ knownM (bt s 0) = false) := by
    rintro (e | e)
    · have := congrArg List.length h3
      rw [e, List.length_append, hl] at this
      simp at this
      omega
    · rw [hb] at e
      have : knownM K = true := by simp [knownM]; omega
      rw [this] at e; cases e
  unfold readS
  rw [if_neg hc, hb, hf, hP]
theorem good_pro {m : MD.T} (hm : SmC m) : goodM m = ((bytM m).2 && MD.eqb (proM m) m) := by
  unfold goodM
  cases h : (bytM m).2 with
  | false => rfl
  | true => rw [read_put hm h]; rfl
end Go.Proofs.YtmdjonckcapkeaaGreatDoor
/- The reference's form and bytes of commands are the program's. Printed by genwgood.py. Own work. -/
set_option linter.unusedVariables false
set_option linter.unusedSimpArgs false
set_option maxRecDepth 100000
namespace Go.Proofs.YtmdjonckcapkeaaGreatDoor
open Go Go.RowKit OE

theorem allS_2 (P : Int → List UInt8 × Bool) (k : Int) (l : List UInt8) : (allS P k l).2 = l.all fun f => (P f.toNat).2 := by
  unfold allS
  cases h : (l.all fun f => (P f.toNat).2) <;> simp
theorem allS_1 {P : Int → List UInt8 × Bool} {k : Int} {l : List UInt8} (h : (allS P k l).2 = true) : (allS P k l).1 = byl [k] ++ l.flatMap fun f => (P f.toNat).1 := by
  rw [allS_2] at h
  unfold allS
  rw [if_pos h]
theorem tx_f (t : List UInt8) : (txS t false).2 = nameS t := by simp [txS]
theorem tx_e (t : List UInt8) : (txS t true).2 = (decide (t = []) || nameS t) := by simp [txS, Bool.or_comm]
theorem nu_i (n : Int) : (nuS n 0 4611686018427387903).2 = okId n := rfl
theorem nu_k (n : Int) : (nuS n 1 2).2 = (decide (n = 1) || decide (n = 2)) := by
  rw [Bool.eq_iff_iff]; simp [nuS]; omega
theorem nu_m (n : Int) : (nuS n 0 1000000).2 = (decide (0 ≤ n) && decide (n ≤ 1000000)) := rfl
theorem good_kind {v : VD.T} (h : goodV v = true) : v.1 ≠ 0 := fun h0 => by
  unfold goodV at h
  rw [h0] at h
  simp at h
theorem enc_good {v : VD.T} (h : goodV v = true) : encV v ≠ [] := by
  have hb : ¬ blankV v = true := fun hb => by
    simp only [blankV, Bool.and_eq_true, decide_eq_true_eq] at hb
    exact good_kind h hb.1.1
  unfold encV
  rw [if_neg hb, if_pos h]
  split
  · exact fun e => by cases e
  · split <;> exact fun e => by cases e
theorem enc_blank {v : VD.T} (h : blankV v = true) : encV v ≠ [] := by
  unfold encV
  rw [if_pos h]
  exact fun e => by cases e
theorem va_f (v : VD.T) : (vaS v false).2 = goodV v := by
  rw [Bool.eq_iff_iff]
  simp only [vaS, Bool.false_or, Bool.and_eq_true, Bool.not_eq_true', decide_eq_false_iff_not]
  constructor
  · rintro ⟨h1, h2⟩
    rcases va_form h1 with h | h
    · simp only [blankV, Bool.and_eq_true, decide_eq_true_eq] at h
      exact (h2 h.1.1).elim
    · exact h
  · exact fun h => ⟨enc_good h, good_kind h⟩
theorem va_t (v : VD.T) : (vaS v true).2 = okVal v := by
  rw [Bool.eq_iff_iff]
  simp only [vaS, okVal, Bool.true_or, Bool.and_true, Bool.or_eq_true, Bool.not_eq_true', decide_eq_false_iff_not]
  constructor
  · exact fun h => (va_form h).symm
  · rintro (h | h)
    · exact enc_good h
    · exact enc_blank h
theorem ru_f (r : RD.T) : (ruS r).2 = (formS r && decide (r.1 = 0) && decide (r.2.2.2.2.2.2.2 = 0)) := by
  rw [Bool.eq_iff_iff]
  simp only [Bool.and_eq_true, decide_eq_true_eq]
  constructor
  · intro h
    obtain ⟨h1, h2, h3⟩ := ru_ok h
    simp only [okS, Bool.and_eq_true] at h1
    exact ⟨⟨h1.1.1.1.1, h2⟩, h3⟩
  · rintro ⟨⟨h1, h2⟩, h3⟩
    have ho : okS r = true := by simp [okS, h1, h2, h3]
    simp only [ruS, Bool.and_eq_true, decide_eq_true_eq]
    exact ⟨⟨if_pos ho, h2⟩, h3⟩
theorem opq1 (i : Int) (t : List UInt8) (f e : Int) (n : List UInt8) (v : VD.T) (c : Bool) : (chgS (1, i, t, f, e, n, v, c)).2 = (opN (1, i, t, f, e, n, v, c)).2 ∧ ((chgS (1, i, t, f, e, n, v, c)).2 = true → (chgS (1, i, t, f, e, n, v, c)).1 = encRO (1, i, t, f, e, n, v, c)) := by
  rw [show chgS (1, i, t, f, e, n, v, c) = allS (putO (1, i, t, f, e, n, v, c)) (IntKind.wrap .u8 1) [116] from rfl]
  refine ⟨?_, fun h => ?_⟩
  · rw [allS_2]
    show ((txS t false).2 && true) = nameS t
    simp only [tx_f, tx_e, nu_i, nu_k, nu_m, va_f, va_t, ru_f, Bool.and_true, Bool.and_assoc]
  · rw [allS_1 h]
    show byl [IntKind.wrap .u8 1] ++ ((txS t false).1 ++ []) = (kb 1 ++ Num.putT t)
    simp only [txS, nuS, vaS, ruS, kb, List.append_assoc, List.append_nil]
theorem opq3 (i : Int) (t : List UInt8) (f e : Int) (n : List UInt8) (v : VD.T) (c : Bool) : (chgS (3, i, t, f, e, n, v, c)).2 = (opN (3, i, t, f, e, n, v, c)).2 ∧ ((chgS (3, i, t, f, e, n, v, c)).2 = true → (chgS (3, i, t, f, e, n, v, c)).1 = encRO (3, i, t, f, e, n, v, c)) := by
  rw [show chgS (3, i, t, f, e, n, v, c) = allS (putO (3, i, t, f, e, n, v, c)) (IntKind.wrap .u8 3) [116, 97, 98] from rfl]
  refine ⟨?_, fun h => ?_⟩
  · rw [allS_2]
    show ((txS t false).2 && ((nuS f 0 4611686018427387903).2 && ((nuS e 0 4611686018427387903).2 && true))) = ((nameS t && okId f) && okId e)
    simp only [tx_f, tx_e, nu_i, nu_k, nu_m, va_f, va_t, ru_f, Bool.and_true, Bool.and_assoc]
  · rw [allS_1 h]
    show byl [IntKind.wrap .u8 3] ++ ((txS t false).1 ++ ((nuS f 0 4611686018427387903).1 ++ ((nuS e 0 4611686018427387903).1 ++ []))) = (((kb 3 ++ Num.putT t) ++ Num.putN (u64 f)) ++ Num.putN (u64 e))
    simp only [txS, nuS, vaS, ruS, kb, List.append_assoc, List.append_nil]
theorem opq4 (i : Int) (t : List UInt8) (f e : Int) (n : List UInt8) (v : VD.T) (c : Bool) : (chgS (4, i, t, f, e, n, v, c)).2 = (opN (4, i, t, f, e, n, v, c)).2 ∧ ((chgS (4, i, t, f, e, n, v, c)).2 = true → (chgS (4, i, t, f, e, n, v, c)).1 = encRO (4, i, t, f, e, n, v, c)) := by
  rw [show chgS (4, i, t, f, e, n, v, c) = allS (putO (4, i, t, f, e, n, v, c)) (IntKind.wrap .u8 4) [105] from rfl]
  refine ⟨?_, fun h => ?_⟩
  · rw [allS_2]
    show ((nuS i 0 4611686018427387903).2 && true) = okId i
    simp only [tx_f, tx_e, nu_i, nu_k, nu_m, va_f, va_t, ru_f, Bool.and_true, Bool.and_assoc]
  · rw [allS_1 h]
    show byl [IntKind.wrap .u8 4] ++ ((nuS i 0 4611686018427387903).1 ++ []) = (kb 4 ++ Num.putN (u64 i))
    simp only [txS, nuS, vaS, ruS, kb, List.append_assoc, List.append_nil]
theorem opq5 (i : Int) (t : List UInt8) (f e : Int) (n : List UInt8) (v : VD.T) (c : Bool) : (chgS (5, i, t, f, e, n, v, c)).2 = (opN (5, i, t, f, e, n, v, c)).2 ∧ ((chgS (5, i, t, f, e, n, v, c)).2 = true → (chgS (5, i, t, f, e, n, v, c)).1 = encRO (5, i, t, f, e, n, v, c)) := by
  rw [show chgS (5, i, t, f, e, n, v, c) = allS (putO (5, i, t, f, e, n, v, c)) (IntKind.wrap .u8 5) [105, 110, 119] from rfl]
  refine ⟨?_, fun h => ?_⟩
  · rw [allS_2]
    show ((nuS i 0 4611686018427387903).2 && ((txS n false).2 && ((vaS v true).2 && true))) = ((okId i && nameS n) && okVal v)
    simp only [tx_f, tx_e, nu_i, nu_k, nu_m, va_f, va_t, ru_f, Bool.and_true, Bool.and_assoc]
  · rw [allS_1 h]
    show byl [IntKind.wrap .u8 5] ++ ((nuS i 0 4611686018427387903).1 ++ ((txS n false).1 ++ ((vaS v true).1 ++ []))) = (((kb 5 ++ Num.putN (u64 i)) ++ Num.putT n) ++ encV v)
    simp only [txS, nuS, vaS, ruS, kb, List.append_assoc, List.append_nil]
theorem opq2 (i : Int) (t : List UInt8) (f e : Int) (n : List UInt8) (v : VD.T) (c : Bool) : (chgS (2, i, t, f, e, n, v, c)).2 = (opN (2, i, t, f, e, n, v, c)).2 ∧ ((chgS (2, i, t, f, e, n, v, c)).2 = true → (chgS (2, i, t, f, e, n, v, c)).1 = encRO (2, i, t, f, e, n, v, c)) := by
  rw [show chgS (2, i, t, f, e, n, v, c) = allS (putO (2, i, t, f, e, n, v, c)) (IntKind.wrap .u8 2) [105, 99] from rfl]
  refine ⟨?_, fun h => ?_⟩
  · rw [allS_2]
    cases c
    all_goals show ((nuS i 0 4611686018427387903).2 && (true && true)) = okId i
    all_goals simp only [nu_i, Bool.and_true]
  · rw [allS_1 h]
    cases c
    · show byl [IntKind.wrap .u8 2] ++ ((nuS i 0 4611686018427387903).1 ++ (kb 0 ++ [])) = kb 2 ++ Num.putN (u64 i) ++ kb 0
      simp only [nuS, kb, List.append_assoc, List.append_nil]
    · show byl [IntKind.wrap .u8 2] ++ ((nuS i 0 4611686018427387903).1 ++ (kb 1 ++ [])) = kb 2 ++ Num.putN (u64 i) ++ kb 1
      simp only [nuS, kb, List.append_assoc, List.append_nil]
theorem opq (o : OD.T) : (chgS o).2 = (opN o).2 ∧ ((chgS o).2 = true → (chgS o).1 = encRO o ∧ proO OD.df o = (opN o).1) := by
  obtain ⟨k, i, t, f, e, n, v, c⟩ := o
  have hk : ∀ k' : Int, k' = k → (k' < 0 ∨ 6 ≤ k' ∨ k' = 0) ∨ k' = 1 ∨ k' = 2 ∨ k' = 3 ∨ k' = 4 ∨ k' = 5 := fun k' _ => by omega
  rcases hk k rfl with h | rfl | rfl | rfl | rfl | rfl
  · have hc : (chgS (k, i, t, f, e, n, v, c)).2 = false := by
      rw [show chgS (k, i, t, f, e, n, v, c) = ([], false) from if_pos (by
        rcases h with h | h | h
        · exact .inl h
        · exact .inr (.inl h)
        · exact .inr (.inr (by rw [show (k, i, t, f, e, n, v, c).1 = k from rfl, h]; rfl)))]
    have ho : (opN (k, i, t, f, e, n, v, c)).2 = false := by
      have hn : ∀ k' : Int, (k' < 0 ∨ 6 ≤ k' ∨ k' = 0) → ¬ k' = 1 ∧ ¬ k' = 2 ∧ ¬ k' = 3 ∧ ¬ k' = 4 ∧ ¬ k' = 5 := fun k' _ => by omega
      obtain ⟨n1, n2, n3, n4, n5⟩ := hn k h
      unfold opN
      rw [if_neg n1, if_neg n2, if_neg n3, if_neg n4, if_neg n5]
    rw [hc, ho]
    exact ⟨rfl, fun h => by cases h⟩
  · exact ⟨(opq1 i t f e n v c).1, fun h => ⟨(opq1 i t f e n v c).2 h, rfl⟩⟩
  · exact ⟨(opq2 i t f e n v c).1, fun h => ⟨(opq2 i t f e n v c).2 h, rfl⟩⟩
  · exact ⟨(opq3 i t f e n v c).1, fun h => ⟨(opq3 i t f e n v c).2 h, rfl⟩⟩
  · exact ⟨(opq4 i t f e n v c).1, fun h => ⟨(opq4 i t f e n v c).2 h, rfl⟩⟩
  · exact ⟨(opq5 i t f e n v c).1, fun h => ⟨(opq5 i t f e n v c).2 h, rfl⟩⟩
theorem cmq1 (i : Int) (t n : List UInt8) (v w : VD.T) (N : Int) (o : OD.T) (r : RD.T) : (bytM (1, i, t, n, v, w, N, o, r)).2 = (cmN (1, i, t, n, v, w, N, o, r)).2 ∧ ((bytM (1, i, t, n, v, w, N, o, r)).2 = true → (bytM (1, i, t, n, v, w, N, o, r)).1 = encR (1, i, t, n, v, w, N, o, r)) := by
  rw [show bytM (1, i, t, n, v, w, N, o, r) = allS (putM (1, i, t, n, v, w, N, o, r)) (IntKind.wrap .u8 1) [] from rfl]
  refine ⟨?_, fun h => ?_⟩
  · rw [allS_2]
    rfl
  · rw [allS_1 h]
    show byl [IntKind.wrap .u8 1] ++ [] = kb 1
    simp only [txS, nuS, vaS, ruS, kb, List.append_assoc, List.append_nil]
theorem cmq2 (i : Int) (t n : List UInt8) (v w : VD.T) (N : Int) (o : OD.T) (r : RD.T) : (bytM (2, i, t, n, v, w, N, o, r)).2 = (cmN (2, i, t, n, v, w, N, o, r)).2 ∧ ((bytM (2, i, t, n, v, w, N, o, r)).2 = true → (bytM (2, i, t, n, v, w, N, o, r)).1 = encR (2, i, t, n, v, w, N, o, r)) := by
  rw [show bytM (2, i, t, n, v, w, N, o, r) = allS (putM (2, i, t, n, v, w, N, o, r)) (IntKind.wrap .u8 2) [] from rfl]
  refine ⟨?_, fun h => ?_⟩
  · rw [allS_2]
    rfl
  · rw [allS_1 h]
    show byl [IntKind.wrap .u8 2] ++ [] = kb 2
    simp only [txS, nuS, vaS, ruS, kb, List.append_assoc, List.append_nil]
theorem cmq3 (i : Int) (t n : List UInt8) (v w : VD.T) (N : Int) (o : OD.T) (r : RD.T) : (bytM (3, i, t, n, v, w, N, o, r)).2 = (cmN (3, i, t, n, v, w, N, o, r)).2 ∧ ((bytM (3, i, t, n, v, w, N, o, r)).2 = true → (bytM (3, i, t, n, v, w, N, o, r)).1 = encR (3, i, t, n, v, w, N, o, r)) := by
  rw [show bytM (3, i, t, n, v, w, N, o, r) = allS (putM (3, i, t, n, v, w, N, o, r)) (IntKind.wrap .u8 3) [] from rfl]
  refine ⟨?_, fun h => ?_⟩
  · rw [allS_2]
    rfl
  · rw [allS_1 h]
    show byl [IntKind.wrap .u8 3] ++ [] = kb 3
    simp only [txS, nuS, vaS, ruS, kb, List.append_assoc, List.append_nil]
theorem cmq4 (i : Int) (t n : List UInt8) (v w : VD.T) (N : Int) (o : OD.T) (r : RD.T) : (bytM (4, i, t, n, v, w, N, o, r)).2 = (cmN (4, i, t, n, v, w, N, o, r)).2 ∧ ((bytM (4, i, t, n, v, w, N, o, r)).2 = true → (bytM (4, i, t, n, v, w, N, o, r)).1 = encR (4, i, t, n, v, w, N, o, r)) := by
  rw [show bytM (4, i, t, n, v, w, N, o, r) = allS (putM (4, i, t, n, v, w, N, o, r)) (IntKind.wrap .u8 4) [110] from rfl]
  refine ⟨?_, fun h => ?_⟩
  · rw [allS_2]
    show ((txS n false).2 && true) = nameS n
    simp only [tx_f, tx_e, nu_i, nu_k, nu_m, va_f, va_t, ru_f, Bool.and_true, Bool.and_assoc]
  · rw [allS_1 h]
    show byl [IntKind.wrap .u8 4] ++ ((txS n false).1 ++ []) = kb 4 ++ Num.putT n
    simp only [txS, nuS, vaS, ruS, kb, List.append_assoc, List.append_nil]
theorem cmq5 (i : Int) (t n : List UInt8) (v w : VD.T) (N : Int) (o : OD.T) (r : RD.T) : (bytM (5, i, t, n, v, w, N, o, r)).2 = (cmN (5, i, t, n, v, w, N, o, r)).2 ∧ ((bytM (5, i, t, n, v, w, N, o, r)).2 = true → (bytM (5, i, t, n, v, w, N, o, r)).1 = encR (5, i, t, n, v, w, N, o, r)) := by
  rw [show bytM (5, i, t, n, v, w, N, o, r) = allS (putM (5, i, t, n, v, w, N, o, r)) (IntKind.wrap .u8 5) [110] from rfl]
  refine ⟨?_, fun h => ?_⟩
  · rw [allS_2]
    show ((txS n false).2 && true) = nameS n
    simp only [tx_f, tx_e, nu_i, nu_k, nu_m, va_f, va_t, ru_f, Bool.and_true, Bool.and_assoc]
  · rw [allS_1 h]
    show byl [IntKind.wrap .u8 5] ++ ((txS n false).1 ++ []) = kb 5 ++ Num.putT n
    simp only [txS, nuS, vaS, ruS, kb, List.append_assoc, List.append_nil]
theorem cmq7 (i : Int) (t n : List UInt8) (v w : VD.T) (N : Int) (o : OD.T) (r : RD.T) : (bytM (7, i, t, n, v, w, N, o, r)).2 = (cmN (7, i, t, n, v, w, N, o, r)).2 ∧ ((bytM (7, i, t, n, v, w, N, o, r)).2 = true → (bytM (7, i, t, n, v, w, N, o, r)).1 = encR (7, i, t, n, v, w, N, o, r)) := by
  rw [show bytM (7, i, t, n, v, w, N, o, r) = allS (putM (7, i, t, n, v, w, N, o, r)) (IntKind.wrap .u8 7) [105] from rfl]
  refine ⟨?_, fun h => ?_⟩
  · rw [allS_2]
    show ((nuS i 0 4611686018427387903).2 && true) = okId i
    simp only [tx_f, tx_e, nu_i, nu_k, nu_m, va_f, va_t, ru_f, Bool.and_true, Bool.and_assoc]
  · rw [allS_1 h]
    show byl [IntKind.wrap .u8 7] ++ ((nuS i 0 4611686018427387903).1 ++ []) = kb 7 ++ Num.putN (u64 i)
    simp only [txS, nuS, vaS, ruS, kb, List.append_assoc, List.append_nil]
theorem cmq8 (i : Int) (t n : List UInt8) (v w : VD.T) (N : Int) (o : OD.T) (r : RD.T) : (bytM (8, i, t, n, v, w, N, o, r)).2 = (cmN (8, i, t, n, v, w, N, o, r)).2 ∧ ((bytM (8, i, t, n, v, w, N, o, r)).2 = true → (bytM (8, i, t, n, v, w, N, o, r)).1 = encR (8, i, t, n, v, w, N, o, r)) := by
  rw [show bytM (8, i, t, n, v, w, N, o, r) = allS (putM (8, i, t, n, v, w, N, o, r)) (IntKind.wrap .u8 8) [105] from rfl]
  refine ⟨?_, fun h => ?_⟩
  · rw [allS_2]
    show ((nuS i 0 4611686018427387903).2 && true) = okId i
    simp only [tx_f, tx_e, nu_i, nu_k, nu_m, va_f, va_t, ru_f, Bool.and_true, Bool.and_assoc]
  · rw [allS_1 h]
    show byl [IntKind.wrap .u8 8] ++ ((nuS i 0 4611686018427387903).1 ++ []) = kb 8 ++ Num.putN (u64 i)
    simp only [txS, nuS, vaS, ruS, kb, List.append_assoc, List.append_nil]
theorem cmq9 (i : Int) (t n : List UInt8) (v w : VD.T) (N : Int) (o : OD.T) (r : RD.T) : (bytM (9, i, t, n, v, w, N, o, r)).2 = (cmN (9, i, t, n, v, w, N, o, r)).2 ∧ ((bytM (9, i, t, n, v, w, N, o, r)).2 = true → (bytM (9, i, t, n, v, w, N, o, r)).1 = encR (9, i, t, n, v, w, N, o, r)) := by
  rw [show bytM (9, i, t, n, v, w, N, o, r) = allS (putM (9, i, t, n, v, w, N, o, r)) (IntKind.wrap .u8 9) [105, 101] from rfl]
  refine ⟨?_, fun h => ?_⟩
  · rw [allS_2]
    show ((nuS i 0 4611686018427387903).2 && ((txS t true).2 && true)) = (okId i && (decide (t = []) || nameS t))
    simp only [tx_f, tx_e, nu_i, nu_k, nu_m, va_f, va_t, ru_f, Bool.and_true, Bool.and_assoc]
  · rw [allS_1 h]
    show byl [IntKind.wrap .u8 9] ++ ((nuS i 0 4611686018427387903).1 ++ ((txS t true).1 ++ [])) = kb 9 ++ (Num.putN (u64 i) ++ Num.putT t)
    simp only [txS, nuS, vaS, ruS, kb, List.append_assoc, List.append_nil]
theorem cmq10 (i : Int) (t n : List UInt8) (v w : VD.T) (N : Int) (o : OD.T) (r : RD.T) : (bytM (10, i, t, n, v, w, N, o, r)).2 = (cmN (10, i, t, n, v, w, N, o, r)).2 ∧ ((bytM (10, i, t, n, v, w, N, o, r)).2 = true → (bytM (10, i, t, n, v, w, N, o, r)).1 = encR (10, i, t, n, v, w, N, o, r)) := by
  rw [show bytM (10, i, t, n, v, w, N, o, r) = allS (putM (10, i, t, n, v, w, N, o, r)) (IntKind.wrap .u8 10) [105, 101] from rfl]
  refine ⟨?_, fun h => ?_⟩
  · rw [allS_2]
    show ((nuS i 0 4611686018427387903).2 && ((txS t true).2 && true)) = (okId i && (decide (t = []) || nameS t))
    simp only [tx_f, tx_e, nu_i, nu_k, nu_m, va_f, va_t, ru_f, Bool.and_true, Bool.and_assoc]
  · rw [allS_1 h]
    show byl [IntKind.wrap .u8 10] ++ ((nuS i 0 4611686018427387903).1 ++ ((txS t true).1 ++ [])) = kb 10 ++ (Num.putN (u64 i) ++ Num.putT t)
    simp only [txS, nuS, vaS, ruS, kb, List.append_assoc, List.append_nil]
theorem cmq11 (i : Int) (t n : List UInt8) (v w : VD.T) (N : Int) (o : OD.T) (r : RD.T) : (bytM (11, i, t, n, v, w, N, o, r)).2 = (cmN (11, i, t, n, v, w, N, o, r)).2 ∧ ((bytM (11, i, t, n, v, w, N, o, r)).2 = true → (bytM (11, i, t, n, v, w, N, o, r)).1 = encR (11, i, t, n, v, w, N, o, r)) := by
  rw [show bytM (11, i, t, n, v, w, N, o, r) = allS (putM (11, i, t, n, v, w, N, o, r)) (IntKind.wrap .u8 11) [116] from rfl]
  refine ⟨?_, fun h => ?_⟩
  · rw [allS_2]
    show ((txS t false).2 && true) = nameS t
    simp only [tx_f, tx_e, nu_i, nu_k, nu_m, va_f, va_t, ru_f, Bool.and_true, Bool.and_assoc]
  · rw [allS_1 h]
    show byl [IntKind.wrap .u8 11] ++ ((txS t false).1 ++ []) = kb 11 ++ Num.putT t
    simp only [txS, nuS, vaS, ruS, kb, List.append_assoc, List.append_nil]
theorem cmq12 (i : Int) (t n : List UInt8) (v w : VD.T) (N : Int) (o : OD.T) (r : RD.T) : (bytM (12, i, t, n, v, w, N, o, r)).2 = (cmN (12, i, t, n, v, w, N, o, r)).2 ∧ ((bytM (12, i, t, n, v, w, N, o, r)).2 = true → (bytM (12, i, t, n, v, w, N, o, r)).1 = encR (12, i, t, n, v, w, N, o, r)) := by
  rw [show bytM (12, i, t, n, v, w, N, o, r) = allS (putM (12, i, t, n, v, w, N, o, r)) (IntKind.wrap .u8 12) [116, 110, 118] from rfl]
  refine ⟨?_, fun h => ?_⟩
  · rw [allS_2]
    show ((txS t false).2 && ((txS n false).2 && ((vaS v false).2 && true))) = ((nameS t && nameS n) && goodV v)
    simp only [tx_f, tx_e, nu_i, nu_k, nu_m, va_f, va_t, ru_f, Bool.and_true, Bool.and_assoc]
  · rw [allS_1 h]
    show byl [IntKind.wrap .u8 12] ++ ((txS t false).1 ++ ((txS n false).1 ++ ((vaS v false).1 ++ []))) = kb 12 ++ ((Num.putT t ++ Num.putT n) ++ encV v)
    simp only [txS, nuS, vaS, ruS, kb, List.append_assoc, List.append_nil]
theorem cmq13 (i : Int) (t n : List UInt8) (v w : VD.T) (N : Int) (o : OD.T) (r : RD.T) : (bytM (13, i, t, n, v, w, N, o, r)).2 = (cmN (13, i, t, n, v, w, N, o, r)).2 ∧ ((bytM (13, i, t, n, v, w, N, o, r)).2 = true → (bytM (13, i, t, n, v, w, N, o, r)).1 = encR (13, i, t, n, v, w, N, o, r)) := by
  rw [show bytM (13, i, t, n, v, w, N, o, r) = allS (putM (13, i, t, n, v, w, N, o, r)) (IntKind.wrap .u8 13) [116, 110, 119, 120] from rfl]
  refine ⟨?_, fun h => ?_⟩
  · rw [allS_2]
    show ((txS t false).2 && ((txS n false).2 && ((vaS v true).2 && ((vaS w true).2 && true)))) = (((nameS t && nameS n) && okVal v) && okVal w)
    simp only [tx_f, tx_e, nu_i, nu_k, nu_m, va_f, va_t, ru_f, Bool.and_true, Bool.and_assoc]
  · rw [allS_1 h]
    show byl [IntKind.wrap .u8 13] ++ ((txS t false).1 ++ ((txS n false).1 ++ ((vaS v true).1 ++ ((vaS w true).1 ++ [])))) = kb 13 ++ (((Num.putT t ++ Num.putT n) ++ encV v) ++ encV w)
    simp only [txS, nuS, vaS, ruS, kb, List.append_assoc, List.append_nil]
theorem cmq14 (i : Int) (t n : List UInt8) (v w : VD.T) (N : Int) (o : OD.T) (r : RD.T) : (bytM (14, i, t, n, v, w, N, o, r)).2 = (cmN (14, i, t, n, v, w, N, o, r)).2 ∧ ((bytM (14, i, t, n, v, w, N, o, r)).2 = true → (bytM (14, i, t, n, v, w, N, o, r)).1 = encR (14, i, t, n, v, w, N, o, r)) := by
  rw [show bytM (14, i, t, n, v, w, N, o, r) = allS (putM (14, i, t, n, v, w, N, o, r)) (IntKind.wrap .u8 14) [116, 107] from rfl]
  refine ⟨?_, fun h => ?_⟩
  · rw [allS_2]
    show ((txS t false).2 && ((nuS N 1 2).2 && true)) = (nameS t && (decide (N = 1) || decide (N = 2)))
    simp only [tx_f, tx_e, nu_i, nu_k, nu_m, va_f, va_t, ru_f, Bool.and_true, Bool.and_assoc]
  · rw [allS_1 h]
    show byl [IntKind.wrap .u8 14] ++ ((txS t false).1 ++ ((nuS N 1 2).1 ++ [])) = kb 14 ++ (Num.putT t ++ Num.putN (u64 N))
    simp only [txS, nuS, vaS, ruS, kb, List.append_assoc, List.append_nil]
theorem cmq15 (i : Int) (t n : List UInt8) (v w : VD.T) (N : Int) (o : OD.T) (r : RD.T) : (bytM (15, i, t, n, v, w, N, o, r)).2 = (cmN (15, i, t, n, v, w, N, o, r)).2 ∧ ((bytM (15, i, t, n, v, w, N, o, r)).2 = true → (bytM (15, i, t, n, v, w, N, o, r)).1 = encR (15, i, t, n, v, w, N, o, r)) := by
  rw [show bytM (15, i, t, n, v, w, N, o, r) = allS (putM (15, i, t, n, v, w, N, o, r)) (IntKind.wrap .u8 15) [116, 107] from rfl]
  refine ⟨?_, fun h => ?_⟩
  · rw [allS_2]
    show ((txS t false).2 && ((nuS N 1 2).2 && true)) = (nameS t && (decide (N = 1) || decide (N = 2)))
    simp only [tx_f, tx_e, nu_i, nu_k, nu_m, va_f, va_t, ru_f, Bool.and_true, Bool.and_assoc]
  · rw [allS_1 h]
    show byl [IntKind.wrap .u8 15] ++ ((txS t false).1 ++ ((nuS N 1 2).1 ++ [])) = kb 15 ++ (Num.putT t ++ Num.putN (u64 N))
    simp only [txS, nuS, vaS, ruS, kb, List.append_assoc, List.append_nil]
theorem cmq16 (i : Int) (t n : List UInt8) (v w : VD.T) (N : Int) (o : OD.T) (r : RD.T) : (bytM (16, i, t, n, v, w, N, o, r)).2 = (cmN (16, i, t, n, v, w, N, o, r)).2 ∧ ((bytM (16, i, t, n, v, w, N, o, r)).2 = true → (bytM (16, i, t, n, v, w, N, o, r)).1 = encR (16, i, t, n, v, w, N, o, r)) := by
  rw [show bytM (16, i, t, n, v, w, N, o, r) = allS (putM (16, i, t, n, v, w, N, o, r)) (IntKind.wrap .u8 16) [114] from rfl]
  refine ⟨?_, fun h => ?_⟩
  · rw [allS_2]
    show ((ruS r).2 && true) = (formS r && decide (r.1 = 0) && decide (r.2.2.2.2.2.2.2 = 0))
    simp only [tx_f, tx_e, nu_i, nu_k, nu_m, va_f, va_t, ru_f, Bool.and_true, Bool.and_assoc]
  · rw [allS_1 h]
    show byl [IntKind.wrap .u8 16] ++ ((ruS r).1 ++ []) = kb 16 ++ encS r
    simp only [txS, nuS, vaS, ruS, kb, List.append_assoc, List.append_nil]
theorem cmq17 (i : Int) (t n : List UInt8) (v w : VD.T) (N : Int) (o : OD.T) (r : RD.T) : (bytM (17, i, t, n, v, w, N, o, r)).2 = (cmN (17, i, t, n, v, w, N, o, r)).2 ∧ ((bytM (17, i, t, n, v, w, N, o, r)).2 = true → (bytM (17, i, t, n, v, w, N, o, r)).1 = encR (17, i, t, n, v, w, N, o, r)) := by
  rw [show bytM (17, i, t, n, v, w, N, o, r) = allS (putM (17, i, t, n, v, w, N, o, r)) (IntKind.wrap .u8 17) [109] from rfl]
  refine ⟨?_, fun h => ?_⟩
  · rw [allS_2]
    show ((nuS N 0 1000000).2 && true) = (decide (0 ≤ N) && decide (N ≤ 1000000))
    simp only [tx_f, tx_e, nu_i, nu_k, nu_m, va_f, va_t, ru_f, Bool.and_true, Bool.and_assoc]
  · rw [allS_1 h]
    show byl [IntKind.wrap .u8 17] ++ ((nuS N 0 1000000).1 ++ []) = kb 17 ++ Num.putN (u64 N)
    simp only [txS, nuS, vaS, ruS, kb, List.append_assoc, List.append_nil]
theorem cmq18 (i : Int) (t n : List UInt8) (v w : VD.T) (N : Int) (o : OD.T) (r : RD.T) : (bytM (18, i, t, n, v, w, N, o, r)).2 = (cmN (18, i, t, n, v, w, N, o, r)).2 ∧ ((bytM (18, i, t, n, v, w, N, o, r)).2 = true → (bytM (18, i, t, n, v, w, N, o, r)).1 = encR (18, i, t, n, v, w, N, o, r)) := by
  rw [show bytM (18, i, t, n, v, w, N, o, r) = allS (putM (18, i, t, n, v, w, N, o, r)) (IntKind.wrap .u8 18) [116, 110] from rfl]
  refine ⟨?_, fun h => ?_⟩
  · rw [allS_2]
    show ((txS t false).2 && ((txS n false).2 && true)) = (nameS t && nameS n)
    simp only [tx_f, tx_e, nu_i, nu_k, nu_m, va_f, va_t, ru_f, Bool.and_true, Bool.and_assoc]
  · rw [allS_1 h]
    show byl [IntKind.wrap .u8 18] ++ ((txS t false).1 ++ ((txS n false).1 ++ [])) = kb 18 ++ (Num.putT t ++ Num.putT n)
    simp only [txS, nuS, vaS, ruS, kb, List.append_assoc, List.append_nil]
theorem cmq19 (i : Int) (t n : List UInt8) (v w : VD.T) (N : Int) (o : OD.T) (r : RD.T) : (bytM (19, i, t, n, v, w, N, o, r)).2 = (cmN (19, i, t, n, v, w, N, o, r)).2 ∧ ((bytM (19, i, t, n, v, w, N, o, r)).2 = true → (bytM (19, i, t, n, v, w, N, o, r)).1 = encR (19, i, t, n, v, w, N, o, r)) := by
  rw [show bytM (19, i, t, n, v, w, N, o, r) = allS (putM (19, i, t, n, v, w, N, o, r)) (IntKind.wrap .u8 19) [116, 110] from rfl]
  refine ⟨?_, fun h => ?_⟩
  · rw [allS_2]
    show ((txS t false).2 && ((txS n false).2 && true)) = (nameS t && nameS n)
    simp only [tx_f, tx_e, nu_i, nu_k, nu_m, va_f, va_t, ru_f, Bool.and_true, Bool.and_assoc]
  · rw [allS_1 h]
    show byl [IntKind.wrap .u8 19] ++ ((txS t false).1 ++ ((txS n false).1 ++ [])) = kb 19 ++ (Num.putT t ++ Num.putT n)
    simp only [txS, nuS, vaS, ruS, kb, List.append_assoc, List.append_nil]
theorem cmq20 (i : Int) (t n : List UInt8) (v w : VD.T) (N : Int) (o : OD.T) (r : RD.T) : (bytM (20, i, t, n, v, w, N, o, r)).2 = (cmN (20, i, t, n, v, w, N, o, r)).2 ∧ ((bytM (20, i, t, n, v, w, N, o, r)).2 = true → (bytM (20, i, t, n, v, w, N, o, r)).1 = encR (20, i, t, n, v, w, N, o, r)) := by
  rw [show bytM (20, i, t, n, v, w, N, o, r) = allS (putM (20, i, t, n, v, w, N, o, r)) (IntKind.wrap .u8 20) [] from rfl]
  refine ⟨?_, fun h => ?_⟩
  · rw [allS_2]
    rfl
  · rw [allS_1 h]
    show byl [IntKind.wrap .u8 20] ++ [] = kb 20
    simp only [txS, nuS, vaS, ruS, kb, List.append_assoc, List.append_nil]
/-- the form and the bytes, of any command -/
theorem cmq (m : MD.T) : (goodM m = ((bytM m).2 && MD.eqb (proM m) m) → goodM m = refgood m) ∧ ((bytM m).2 = true → (bytM m).1 = encR m) := by
  obtain ⟨k, i, t, n, v, w, N, o, r⟩ := m
  have hk : ∀ k' : Int, k' = k → (k' < 1 ∨ 21 ≤ k') ∨ k' = 1 ∨ k' = 2 ∨ k' = 3 ∨ k' = 4 ∨ k' = 5 ∨ k' = 6 ∨ k' = 7 ∨ k' = 8 ∨ k' = 9 ∨ k' = 10 ∨ k' = 11 ∨ k' = 12 ∨ k' = 13 ∨ k' = 14 ∨ k' = 15 ∨ k' = 16 ∨ k' = 17 ∨ k' = 18 ∨ k' = 19 ∨ k' = 20 := fun k' _ => by omega
  rcases hk k rfl with h | rfl | rfl | rfl | rfl | rfl | rfl | rfl | rfl | rfl | rfl | rfl | rfl | rfl | rfl | rfl | rfl | rfl | rfl | rfl | rfl
  · have hu : knownM k = false := by
      have : ∀ k' : Int, (k' < 1 ∨ 21 ≤ k') → knownM k' = false := fun k' h => by simp [knownM]; omega
      exact this k h
    have hb : bytM (k, i, t, n, v, w, N, o, r) = ([], false) := if_pos hu
    have hn : ∀ k' : Int, (k' < 1 ∨ 21 ≤ k') → ¬ k' = 1 ∧ ¬ k' = 2 ∧ ¬ k' = 3 ∧ ¬ k' = 4 ∧ ¬ k' = 5 ∧ ¬ k' = 6 ∧ ¬ k' = 7 ∧ ¬ k' = 8 ∧ ¬ k' = 9 ∧ ¬ k' = 10 ∧ ¬ k' = 11 ∧ ¬ k' = 12 ∧ ¬ k' = 13 ∧ ¬ k' = 14 ∧ ¬ k' = 15 ∧ ¬ k' = 16 ∧ ¬ k' = 17 ∧ ¬ k' = 18 ∧ ¬ k' = 19 ∧ ¬ k' = 20 := fun k' _ => by omega
    obtain ⟨a1, a2, a3, a4, a5, a6, a7, a8, a9, a10, a11, a12, a13, a14, a15, a16, a17, a18, a19, a20⟩ := hn k h
    have hc : (cmN (k, i, t, n, v, w, N, o, r)).2 = false := by
      have : cmN (k, i, t, n, v, w, N, o, r) = (m0 k, false) := by simp [cmN, a1, a2, a3, a4, a5, a6, a7, a8, a9, a10, a11, a12, a13, a14, a15, a16, a17, a18, a19, a20]
      rw [this]
    refine ⟨fun h => ?_, fun h => ?_⟩
    · rw [h, hb]; unfold refgood; rw [hc]; rfl
    · rw [hb] at h; cases h
  · exact ⟨fun h => by rw [h, (cmq1 i t n v w N o r).1]; rfl, (cmq1 i t n v w N o r).2⟩
  · exact ⟨fun h => by rw [h, (cmq2 i t n v w N o r).1]; rfl, (cmq2 i t n v w N o r).2⟩
  · exact ⟨fun h => by rw [h, (cmq3 i t n v w N o r).1]; rfl, (cmq3 i t n v w N o r).2⟩
  · exact ⟨fun h => by rw [h, (cmq4 i t n v w N o r).1]; rfl, (cmq4 i t n v w N o r).2⟩
  · exact ⟨fun h => by rw [h, (cmq5 i t n v w N o r).1]; rfl, (cmq5 i t n v w N o r).2⟩
  · have hb : bytM (6, i, t, n, v, w, N, o, r) = allS (putM (6, i, t, n, v, w, N, o, r)) (IntKind.wrap .u8 6) [111] := rfl
    have h2 : (bytM (6, i, t, n, v, w, N, o, r)).2 = (chgS o).2 := by
      rw [hb, allS_2]
      show ((chgS o).2 && true) = _
      rw [Bool.and_true]
    obtain ⟨q1, q2⟩ := opq o
    refine ⟨fun h => ?_, fun h => ?_⟩
    · rw [h, h2]
      unfold refgood
      show ((chgS o).2 && MD.eqb (sO (m0 6) (proO OD.df o)) (6, i, t, n, v, w, N, o, r)) = (goodO o && MD.eqb (sO (m0 6) o) (6, i, t, n, v, w, N, o, r))
      unfold goodO
      cases hc : (chgS o).2 with
      | false => rw [← q1, hc]; rfl
      | true =>
        rw [← q1, hc, ← (q2 hc).2, Bool.eq_iff_iff]
        simp only [Bool.true_and, Bool.and_eq_true, D.eqb_iff]
        constructor
        · intro e
          have e2 : proO OD.df o = o := congrArg mOp e
          exact ⟨e2, by rw [e2] at e; exact e⟩
        · rintro ⟨e1, e2⟩
          rw [e1]; exact e2
    · rw [hb, allS_1 (by rw [← hb]; exact h)]
      show byl [IntKind.wrap .u8 6] ++ ((chgS o).1 ++ []) = kb 6 ++ encRO o
      rw [h2] at h
      rw [(q2 h).1, List.append_nil]
      rfl
  · exact ⟨fun h => by rw [h, (cmq7 i t n v w N o r).1]; rfl, (cmq7 i t n v w N o r).2⟩
  · exact ⟨fun h => by rw [h, (cmq8 i t n v w N o r).1]; rfl, (cmq8 i t n v w N o r).2⟩
  · exact ⟨fun h => by rw [h, (cmq9 i t n v w N o r).1]; rfl, (cmq9 i t n v w N o r).2⟩
  · exact ⟨fun h => by rw [h, (cmq10 i t n v w N o r).1]; rfl, (cmq10 i t n v w N o r).2⟩
  · exact ⟨fun h => by rw [h, (cmq11 i t n v w N o r).1]; rfl, (cmq11 i t n v w N o r).2⟩
  · exact ⟨fun h => by rw [h, (cmq12 i t n v w N o r).1]; rfl, (cmq12 i t n v w N o r).2⟩
  · exact ⟨fun h => by rw [h, (cmq13 i t n v w N o r).1]; rfl, (cmq13 i t n v w N o r).2⟩
  · exact ⟨fun h => by rw [h, (cmq14 i t n v w N o r).1]; rfl, (cmq14 i t n v w N o r).2⟩
  · exact ⟨fun h => by rw [h, (cmq15 i t n v w N o r).1]; rfl, (cmq15 i t n v w N o r).2⟩
  · exact ⟨fun h => by rw [h, (cmq16 i t n v w N o r).1]; rfl, (cmq16 i t n v w N o r).2⟩
  · exact ⟨fun h => by rw [h, (cmq17 i t n v w N o r).1]; rfl, (cmq17 i t n v w N o r).2⟩
  · exact ⟨fun h => by rw [h, (cmq18 i t n v w N o r).1]; rfl, (cmq18 i t n v w N o r).2⟩
  · exact ⟨fun h => by rw [h, (cmq19 i t n v w N o r).1]; rfl, (cmq19 i t n v w N o r).2⟩
  · exact ⟨fun h => by rw [h, (cmq20 i t n v w N o r).1]; rfl, (cmq20 i t n v w N o r).2⟩
theorem good_eq {m : MD.T} (hm : SmC m) : goodM m = refgood m := (cmq m).1 (good_pro hm)
theorem enc_eq {m : MD.T} (h : goodM m = true) : (bytM m).1 = encR m := by
  unfold goodM at h
  rw [Bool.and_eq_true] at h
  exact (cmq m).2 h.1
end Go.Proofs.YtmdjonckcapkeaaGreatDoor
