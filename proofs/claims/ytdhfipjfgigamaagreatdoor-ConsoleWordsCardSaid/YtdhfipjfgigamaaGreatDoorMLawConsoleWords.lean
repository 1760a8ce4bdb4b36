/- The walk of the law ConsoleWords. Own work. -/
import Derived.Test.YtdhfipjfgigamaaGreatDoorPart8
set_option linter.unusedVariables false
set_option maxRecDepth 100000
namespace Go.Proofs.YtdhfipjfgigamaaGreatDoor.Con
open Go Go.RowKit Go.Lib OE

abbrev tGet : List UInt8 := [103, 101, 116]
def badL (n : List UInt8) : List (List UInt8) := [[103, 101, 116, 32, 32] ++ n, [32] ++ sp tGet n, sp tGet n ++ [32], [103, 101, 116, 32, 48] ++ n, [103, 101, 116, 32, 43] ++ n, [103, 101, 116, 32, 45] ++ n, [71, 101, 116, 32] ++ n, [103, 101, 116] ++ n, sp tGet n ++ [32, 49], [103, 101, 116], [103, 101, 116, 32], [103, 101, 116, 32, 48, 120] ++ n, [103, 101, 116, 32, 57, 57, 57, 57, 57, 57, 57, 57, 57, 57, 57, 57, 57, 57, 57, 57, 57, 57, 57]]
theorem num_no {s : List UInt8} (h : numPre s = false) : numR s = -1 := by
  unfold numR numOk
  rw [h]; rfl
theorem get_no {s : List UInt8} (h : numR s = -1) : finR (twoS tGet s) = none := by
  show finR (mI (m0 7) (numR s), decide (0 ≤ numR s)) = none
  rw [h]
  exact fin_no _ rfl
theorem get_bad {s : List UInt8} (hb : noB s) (h : numPre s = false) : parseS (sp tGet s) = none := by
  rw [parse_R, w_sp _ (by unfold noB; decide), w_one hb]
  exact get_no (num_no h)
theorem noB_cons {c : UInt8} {s : List UInt8} (hc : c ≠ 32) (h : noB s) : noB (c :: s) := fun d hd => by
  rcases List.mem_cons.1 hd with rfl | hd
  · exact hc
  · exact h d hd
theorem bad_all {n : List UInt8} (hb : noB n) (hne : n ≠ []) : ∀ l ∈ badL n, parseS l = none := by
  have hg : noB tGet := by unfold noB; decide
  have he : noB [] := fun _ h => by cases h
  have h0 : ∀ r : List UInt8, r ≠ [] → numPre (48 :: r) = false := fun r hr => by
    unfold numPre
    have : decide (1 < (48 :: r).length) = true := decide_eq_true (by rw [List.length_cons]; have := List.length_pos_iff.2 hr; omega)
    rw [this]
    simp
  intro l hl
  unfold badL at hl
  simp only [List.mem_cons, List.not_mem_nil, or_false] at hl
  rcases hl with rfl | rfl | rfl | rfl | rfl | rfl | rfl | rfl | rfl | rfl | rfl | rfl | rfl
  · show parseS (sp tGet (sp [] n)) = none
    rw [parse_R, w_sp _ hg, w_sp _ he, w_one hb]; rfl
  · show parseS (sp [] (sp tGet n)) = none
    rw [parse_R, w_sp _ he, w_sp _ hg, w_one hb]; rfl
  · rw [show sp tGet n ++ [32] = sp tGet (sp n []) by simp [sp]]
    rw [parse_R, w_sp _ hg, w_sp _ hb, w_one he]; rfl
  · exact get_bad (noB_cons (by decide) hb) (h0 n hne)
  · exact get_bad (s := 43 :: n) (noB_cons (by decide) hb) (by unfold numPre; rw [List.all_cons, show digitB 43 = false from rfl]; simp)
  · exact get_bad (s := 45 :: n) (noB_cons (by decide) hb) (by unfold numPre; rw [List.all_cons, show digitB 45 = false from rfl]; simp)
  · show parseS (sp [71, 101, 116] n) = none
    rw [parse_R, w_sp _ (by unfold noB; decide), w_one hb]; rfl
  · show parseS (103 :: 101 :: 116 :: n) = none
    rw [parse_R, w_one (noB_cons (by decide) (noB_cons (by decide) (noB_cons (by decide) hb)))]
    rfl
  · rw [show sp tGet n ++ [32, 49] = sp tGet (sp n [49]) by simp [sp]]
    rw [parse_R, w_sp _ hg, w_sp _ hb, w_one (by unfold noB; decide)]; rfl
  · rw [parse_R]; kernel_rfl
  · exact get_bad (s := []) he rfl
  · exact get_bad (s := 48 :: 120 :: n) (noB_cons (by decide) (noB_cons (by decide) hb)) (h0 _ (by simp))
  · rw [parse_R]; kernel_rfl
theorem bad_len {n : List UInt8} (h : n.length ≤ 20) : ∀ l ∈ badL n, l.length ≤ 100000 := by
  intro l hl
  unfold badL sp at hl
  simp only [List.mem_cons, List.not_mem_nil, or_false] at hl
  rcases hl with rfl | rfl | rfl | rfl | rfl | rfl | rfl | rfl | rfl | rfl | rfl | rfl | rfl <;> simp <;> omega
def gC (id : Int) : MD.T := mI (m0 7) id
theorem row_ConsoleWords (id : Int) (wi : (Lit.int .u32 id).wf = true) (s : Int) (ws : (Lit.int .u8 s).wf = true) :
    FnD Tryz.prog 7 [.c (.int .u32 id), .c (.int .u8 s)] (· = .c (.bool (.sym true))) := by
  have hi : 0 ≤ id ∧ id ≤ 4294967295 := by simpa [Lit.wf, IntKind.min, IntKind.max, IntKind.bits, IntKind.signed] using wi
  have h8 : 0 ≤ s ∧ s ≤ 255 := by simpa [Lit.wf, IntKind.min, IntKind.max, IntKind.bits, IntKind.signed] using ws
  have hw : IntKind.wrap .i64 id = id := wr64 _ (by omega) (by omega)
  have hw8 : IntKind.wrap .i64 s = s := wr64 _ (by omega) (by omega)
  have hok : okId id = true := by unfold okId; rw [decide_eq_true hi.1, decide_eq_true (by omega)]; rfl
  have hg : refgood (gC id) = true := (gd_get id).trans hok
  obtain ⟨hp, _⟩ := b_get id ⟨hi.1, by omega⟩ hg
  have hp : parseS (sp tGet (itoa id)) = some (gC id) := by rw [parse_R]; exact hp
  have hil := itoa_len (n := id) (by omega) (by omega)
  have hsh := parse_sh (by show ((tGet ++ 32 :: itoa id).length) ≤ 20000; rw [List.length_append, List.length_cons]; show 3 + ((itoa id).length + 1) ≤ 20000; omega) hp
  have hl := line_back hsh.sm hp
  obtain ⟨c, t, hc, _⟩ := itoa_head id
  have hne : itoa id ≠ [] := by rw [hc]; simp
  have hlen : 1 ≤ (itoa id).length := List.length_pos_iff.2 hne
  have hbad := bad_all (nb_itoa id) hne
  have hbl := bad_len hil
  refine fn0 Tryz.func7 rfl rfl rfl ?_
  conv => whnf
  rw [hw]
  have hll : (sp tGet (itoa id)).length = (itoa id).length + 4 := by show ((tGet ++ 32 :: itoa id).length) = _; rw [List.length_append, List.length_cons]; show 3 + ((itoa id).length + 1) = _; omega
  refine call1 (console_Line' (gC id) hsh (line_ok hl)) rfl ?_
  conv => whnf
  refine call1 (console_Parse' (sp tGet (itoa id)) (by omega) (parse_ok hp)) rfl ?_
  conv => whnf
  refine callg0 (fun _ => keep_Cmd (gC id) (gC id)) rfl ?_
  conv => whnf
  rw [eq_same]
  refine fk (by simp; omega) ?_
  conv => whnf
  refine ⟨⟨by omega, by omega⟩, ?_⟩
  rw [show List.drop (Int.toNat 4) (List.take (sp tGet (itoa id)).length (sp tGet (itoa id))) = itoa id by rw [List.take_of_length_le (Nat.le_refl _)]; rfl]
  conv => whnf
  iterate 10
    refine ⟨by simp; omega, ?_⟩
    conv => whnf
  intro _
  conv => whnf
  rw [hw8]
  have hq : s.tmod 13 = ((s.toNat % 13 : Nat) : Int) := by
    obtain ⟨k, rfl⟩ : ∃ k : Nat, s = (k : Int) := ⟨s.toNat, by omega⟩
    rfl
  have hk : s.toNat % 13 < (badL (itoa id)).length := Nat.mod_lt _ (by decide)
  have hgm : gt (d := .str) (badL (itoa id)) (s.tmod 13) ∈ badL (itoa id) := by
    rw [hq, gt_nat (d := .str) (badL (itoa id)) _ hk]
    exact List.getElem_mem hk
  refine ⟨by show (13 : Int) ≠ 0; decide, ?_⟩
  conv => whnf
  intro _
  conv => whnf
  refine ⟨by show 0 ≤ s.tmod 13 ∧ s.tmod 13 < 13; rw [hq]; omega, ?_⟩
  conv => whnf
  refine ⟨by show 0 ≤ s.tmod 13 ∧ s.tmod 13 < 13; rw [hq]; omega, ?_⟩
  conv => whnf
  refine call1 (console_Parse' (gt (d := .str) (badL (itoa id)) (s.tmod 13)) (hbl _ hgm) (parse_no (hbad _ hgm))) rfl ?_
  conv => whnf
  refine callg0 (fun _ => console_wakes) rfl ?_
  conv => whnf
  rfl
end Go.Proofs.YtdhfipjfgigamaaGreatDoor.Con
