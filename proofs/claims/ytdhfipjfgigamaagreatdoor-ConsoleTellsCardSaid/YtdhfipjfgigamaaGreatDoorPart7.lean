/- Several texts of the proof, one behind the other; put together by a program of the session (mrg.py). Own work. -/
import Derived.WalkKit
import Derived.BigCall
import Derived.LoopTactic
import Derived.Test.YtdhfipjfgigamaaGreatDoorPart6
/- The program's table of forms is the reference's cases; there and back. Printed by a program of the session (gencontab.py). Own work. -/
set_option linter.unusedVariables false
set_option maxRecDepth 100000
namespace Go.Proofs.YtdhfipjfgigamaaGreatDoor.Con
open Go Go.RowKit Go.Lib OE

theorem eq_same (m : MD.T) : MD.eqb m m = true := (D.eqb_iff MD m m).2 rfl
theorem gd_of {m : MD.T} {c : Bool} (h : cmN m = (m, c)) : refgood m = c := by
  unfold refgood; rw [h, eq_same]; simp
theorem gdO_of {o : OD.T} {c : Bool} (h : opN o = (o, c)) : refgood (opM o) = c := by
  have h1 : goodO o = c := by
    unfold goodO; rw [h, show OD.eqb o o = true from (D.eqb_iff OD o o).2 rfl]; simp
  rw [← h1]
  exact gd_of rfl
theorem num_cases (a : List UInt8) : ((numP a).2 = true ∧ (numP a).1 = numR a ∧ decide (0 ≤ numR a) = true) ∨ ((numP a).2 = false ∧ decide (0 ≤ numR a) = false) := by
  obtain ⟨h1, h2, h3⟩ := numP_ok a
  cases h : (numP a).2 with
  | true => exact .inl ⟨rfl, h2 h, decide_eq_true (h3.1 h)⟩
  | false => exact .inr ⟨rfl, decide_eq_false fun g => by rw [h3.2 g] at h; cases h⟩
theorem val_cases (a : List UInt8) : ((valS a).2 = true ∧ (valS a).1 = (valR a).1 ∧ (valR a).2 = true) ∨ ((valS a).2 = false ∧ (valR a).2 = false) := by
  obtain ⟨h1, h2⟩ := val_eq a
  cases h : (valS a).2 with
  | true => exact .inl ⟨rfl, h2 h, by rw [← h1, h]⟩
  | false => exact .inr ⟨rfl, by rw [← h1, h]⟩
theorem txt_cases (a : List UInt8) : ((!decide (a = [])) = true ∧ a ≠ []) ∨ ((!decide (a = [])) = false ∧ a = []) := by
  by_cases h : a = []
  · exact .inr ⟨by simp [h], h⟩
  · exact .inl ⟨by simp [h], h⟩
def tryG (p : MD.T × Bool) : Option MD.T := if p.2 = true then (if refgood p.1 = true then some p.1 else none) else none
theorem rA_cons {m m' : MD.T} {f : UInt8} {fs : List UInt8} {w : List UInt8} {ws : List (List UInt8)} {ok : Bool} (h : readM m f.toNat w = (m', ok)) : tryG (readAll m (f :: fs) (w :: ws)) = if ok = true then tryG (readAll m' fs ws) else none := by
  show tryG (if (readM m f.toNat w).2 = true then readAll (readM m f.toNat w).1 fs ws else ((readM m f.toNat w).1, false)) = _
  rw [h]
  cases ok <;> rfl
theorem tryG_end (m : MD.T) (fs : List UInt8) : tryG (readAll m fs []) = if refgood m = true then some m else none := by
  cases fs <;> rfl
theorem fin_end (m : MD.T) {b : Bool} (h : b = true) : finR (m, b) = if refgood m = true then some m else none := by
  subst h
  unfold finR
  by_cases g : refgood m = true <;> simp [g]
theorem fin_no (m : MD.T) {b : Bool} (h : b = false) : finR (m, b) = none := by subst h; rfl
theorem fin_bad {m : MD.T} {b : Bool} (h : refgood m = false) : finR (m, b) = none := by
  unfold finR
  simp [h]
theorem tryF_none {x : FD.T} {ws : List (List UInt8)} (h1 : x.2.2.2.length + 1 ≠ ws.length) (h2 : x.2.2.2.length ≠ ws.length) : tryF x ws = none := by
  unfold tryF okL
  rw [decide_eq_false h1, decide_eq_false h2]
  rfl
theorem fin_some {p : MD.T × Bool} {d : MD.T} (h : finR p = some d) : p.2 = true ∧ d = p.1 ∧ refgood d = true := by
  unfold finR at h
  split at h
  · rename_i g
    cases h
    exact ⟨g.1, rfl, g.2⟩
  · cases h
theorem finG (m : MD.T) (h : refgood m = true) {b : Bool} (hb : b = true) : finR (m, b) = some m := by rw [fin_end m hb, if_pos h]
theorem name_nil : nameS [] = false := rfl
theorem joinW_cons (w a : List UInt8) (r : List (List UInt8)) : joinW (w :: a :: r) = sp w (joinW (a :: r)) := by
  unfold joinW join sp
  rw [List.intercalate_cons_cons]
  simp
theorem joinW_one (a : List UInt8) : joinW [a] = a := by simp [joinW, join, List.intercalate]
theorem join_words : ∀ s : List UInt8, joinW (wordsL s) = s
  | [] => rfl
  | c :: s => by
    have ih := join_words s
    unfold wordsL
    by_cases h : c = 32
    · rw [if_pos h, h]
      cases hw : wordsL s with
      | nil => exact absurd hw (wordsL_ne s)
      | cons w ws => rw [joinW_cons, ← hw, ih]; rfl
    · rw [if_neg h]
      cases hw : wordsL s with
      | nil => exact absurd hw (wordsL_ne s)
      | cons w ws =>
        rw [hw] at ih
        cases ws with
        | nil => rw [joinW_one] at ih ⊢; rw [ih]
        | cons a r =>
          rw [joinW_cons] at ih ⊢
          rw [← ih]
          rfl

theorem gd_save (a : List UInt8) : refgood (mNm (m0 4) a) = (nameS a) := gd_of rfl
theorem gd_back (a : List UInt8) : refgood (mNm (m0 5) a) = (nameS a) := gd_of rfl
theorem gd_node (a : List UInt8) : refgood (opM (oT (o0 1) a)) = (nameS a) := gdO_of rfl
theorem gd_edge (a : List UInt8) (b : Int) (c : Int) : refgood (opM (oE (oF (oT (o0 3) a) b) c)) = (nameS a && okId b && okId c) := gdO_of rfl
theorem gd_set (a : Int) (b : List UInt8) (c : VD.T) : refgood (opM (oVl (oN (oI (o0 5) a) b) c)) = (okId a && nameS b && okVal c) := gdO_of rfl
theorem gd_scan (a : List UInt8) : refgood (mT (m0 11) a) = (nameS a) := gd_of rfl
theorem gd_find (a : List UInt8) (b : List UInt8) (c : VD.T) : refgood (mVl (mNm (mT (m0 12) a) b) c) = (nameS a && nameS b && goodV c) := gd_of rfl
theorem gd_range (a : List UInt8) (b : List UInt8) (c : VD.T) (d : VD.T) : refgood (mW (mVl (mNm (mT (m0 13) a) b) c) d) = (nameS a && nameS b && okVal c && okVal d) := gd_of rfl
theorem gd_type (a : List UInt8) (b : Int) : refgood (mM (mT (m0 14) a) b) = (nameS a && (decide (b = 1) || decide (b = 2))) := gd_of rfl
theorem gd_notype (a : List UInt8) (b : Int) : refgood (mM (mT (m0 15) a) b) = (nameS a && (decide (b = 1) || decide (b = 2))) := gd_of rfl
theorem gd_unique (a : List UInt8) (b : List UInt8) : refgood (ruM (rN (rT (rule0 1) a) b)) = (nameS a && nameS b) := (gd_of rfl).trans (by simp [formS, ruM, mRule, mR, rN, rT, rule0, RD, D.df] <;> rfl)
theorem gd_exists (a : List UInt8) (b : List UInt8) : refgood (ruM (rN (rT (rule0 2) a) b)) = (nameS a && nameS b) := (gd_of rfl).trans (by simp [formS, ruM, mRule, mR, rN, rT, rule0, RD, D.df] <;> rfl)
theorem gd_ends (a : List UInt8) (b : List UInt8) (c : List UInt8) : refgood (ruM (rG (rF (rT (rule0 3) a) b) c)) = (nameS a && (nameS b && nameS c)) := (gd_of rfl).trans (by simp [formS, ruM, mRule, mR, rT, rF, rG, rule0, RD, D.df] <;> rfl)
theorem gd_most (a : List UInt8) (b : Int) : refgood (ruM (rM (rT (rule0 4) a) b)) = (nameS a && (decide (0 ≤ b) && decide (b ≤ 1024))) := (gd_of rfl).trans (by simp [formS, ruM, mRule, mR, rT, rM, rule0, RD, D.df] <;> rfl)
theorem gd_index (a : List UInt8) (b : List UInt8) : refgood (mNm (mT (m0 18) a) b) = (nameS a && nameS b) := gd_of rfl
theorem gd_noindex (a : List UInt8) (b : List UInt8) : refgood (mNm (mT (m0 19) a) b) = (nameS a && nameS b) := gd_of rfl
theorem t_begin : ∀ r : List (List UInt8), tryF ([98, 101, 103, 105, 110], 1, 0, []) ([98, 101, 103, 105, 110] :: r) = finR (ofR ([98, 101, 103, 105, 110] :: r))
  | [] => by
    show (if refgood (m0 1) = true then some (m0 1) else none) = _
    exact (fin_end (m0 1) (b := true) rfl).symm
  | [a] => rfl
  | [a, b] => rfl
  | [a, b, c] => rfl
  | [a, b, c, d] => rfl
  | a :: b :: c :: d :: e :: r => (tryF_none (by simp) (by simp)).trans rfl
theorem t_commit : ∀ r : List (List UInt8), tryF ([99, 111, 109, 109, 105, 116], 2, 0, []) ([99, 111, 109, 109, 105, 116] :: r) = finR (ofR ([99, 111, 109, 109, 105, 116] :: r))
  | [] => by
    show (if refgood (m0 2) = true then some (m0 2) else none) = _
    exact (fin_end (m0 2) (b := true) rfl).symm
  | [a] => rfl
  | [a, b] => rfl
  | [a, b, c] => rfl
  | [a, b, c, d] => rfl
  | a :: b :: c :: d :: e :: r => (tryF_none (by simp) (by simp)).trans rfl
theorem t_abort : ∀ r : List (List UInt8), tryF ([97, 98, 111, 114, 116], 3, 0, []) ([97, 98, 111, 114, 116] :: r) = finR (ofR ([97, 98, 111, 114, 116] :: r))
  | [] => by
    show (if refgood (m0 3) = true then some (m0 3) else none) = _
    exact (fin_end (m0 3) (b := true) rfl).symm
  | [a] => rfl
  | [a, b] => rfl
  | [a, b, c] => rfl
  | [a, b, c, d] => rfl
  | a :: b :: c :: d :: e :: r => (tryF_none (by simp) (by simp)).trans rfl
theorem t_catalog : ∀ r : List (List UInt8), tryF ([99, 97, 116, 97, 108, 111, 103], 20, 0, []) ([99, 97, 116, 97, 108, 111, 103] :: r) = finR (ofR ([99, 97, 116, 97, 108, 111, 103] :: r))
  | [] => by
    show (if refgood (m0 20) = true then some (m0 20) else none) = _
    exact (fin_end (m0 20) (b := true) rfl).symm
  | [a] => rfl
  | [a, b] => rfl
  | [a, b, c] => rfl
  | [a, b, c, d] => rfl
  | a :: b :: c :: d :: e :: r => (tryF_none (by simp) (by simp)).trans rfl
theorem t_save : ∀ r : List (List UInt8), tryF ([115, 97, 118, 101], 4, 0, [110]) ([115, 97, 118, 101] :: r) = finR (ofR ([115, 97, 118, 101] :: r))
  | [] => rfl
  | [a] => by
    show tryG (readAll (freshM ([115, 97, 118, 101], 4, 0, [110])) [110] [a]) = _
    rw [rA_cons (ok := !decide (a = [])) rfl]
    rw [tryG_end]
    show (if (!decide (a = [])) = true then (if refgood (mNm (m0 4) a) = true then some (mNm (m0 4) a) else none) else none) = finR (mNm (m0 4) a, true)
    rcases txt_cases a with ⟨ha, ga⟩ | ⟨ha, ga⟩
    rotate_left
    · rw [show finR _ = none from fin_bad (by rw [gd_save, ga]; simp [name_nil])]; simp [ga]
    rw [if_pos ha]
    exact (fin_end _ (by rfl)).symm
  | [a, b] => rfl
  | [a, b, c] => rfl
  | [a, b, c, d] => rfl
  | a :: b :: c :: d :: e :: r => (tryF_none (by simp) (by simp)).trans rfl
theorem t_back : ∀ r : List (List UInt8), tryF ([98, 97, 99, 107], 5, 0, [110]) ([98, 97, 99, 107] :: r) = finR (ofR ([98, 97, 99, 107] :: r))
  | [] => rfl
  | [a] => by
    show tryG (readAll (freshM ([98, 97, 99, 107], 5, 0, [110])) [110] [a]) = _
    rw [rA_cons (ok := !decide (a = [])) rfl]
    rw [tryG_end]
    show (if (!decide (a = [])) = true then (if refgood (mNm (m0 5) a) = true then some (mNm (m0 5) a) else none) else none) = finR (mNm (m0 5) a, true)
    rcases txt_cases a with ⟨ha, ga⟩ | ⟨ha, ga⟩
    rotate_left
    · rw [show finR _ = none from fin_bad (by rw [gd_back, ga]; simp [name_nil])]; simp [ga]
    rw [if_pos ha]
    exact (fin_end _ (by rfl)).symm
  | [a, b] => rfl
  | [a, b, c] => rfl
  | [a, b, c, d] => rfl
  | a :: b :: c :: d :: e :: r => (tryF_none (by simp) (by simp)).trans rfl
theorem t_node : ∀ r : List (List UInt8), tryF ([110, 111, 100, 101], 6, 1, [116]) ([110, 111, 100, 101] :: r) = finR (ofR ([110, 111, 100, 101] :: r))
  | [] => rfl
  | [a] => by
    show tryG (readAll (freshM ([110, 111, 100, 101], 6, 1, [116])) [116] [a]) = _
    rw [rA_cons (ok := !decide (a = [])) rfl]
    rw [tryG_end]
    show (if (!decide (a = [])) = true then (if refgood (opM (oT (o0 1) a)) = true then some (opM (oT (o0 1) a)) else none) else none) = finR (opM (oT (o0 1) a), true)
    rcases txt_cases a with ⟨ha, ga⟩ | ⟨ha, ga⟩
    rotate_left
    · rw [show finR _ = none from fin_bad (by rw [gd_node, ga]; simp [name_nil])]; simp [ga]
    rw [if_pos ha]
    exact (fin_end _ (by rfl)).symm
  | [a, b] => rfl
  | [a, b, c] => rfl
  | [a, b, c, d] => rfl
  | a :: b :: c :: d :: e :: r => (tryF_none (by simp) (by simp)).trans rfl
theorem t_drop : ∀ r : List (List UInt8), tryF ([100, 114, 111, 112], 6, 2, [105]) ([100, 114, 111, 112] :: r) = finR (ofR ([100, 114, 111, 112] :: r))
  | [] => rfl
  | [a] => by
    show tryG (readAll (freshM ([100, 114, 111, 112], 6, 2, [105])) [105] [a]) = _
    rw [rA_cons (ok := (numP a).2) rfl]
    rw [tryG_end]
    show (if ((numP a).2) = true then (if refgood (opM (oI (o0 2) (numP a).1)) = true then some (opM (oI (o0 2) (numP a).1)) else none) else none) = finR (opM (oI (o0 2) (numR a)), decide (0 ≤ numR a))
    rcases num_cases a with ⟨ha, ga, ka⟩ | ⟨ha, ka⟩
    rotate_left
    · rw [show finR (opM (oI (o0 2) (numR a)), decide (0 ≤ numR a)) = none from fin_no _ (by rw [ka] <;> simp), ha]; simp
    rw [if_pos ha]
    rw [ga]
    exact (fin_end _ (by exact ka)).symm
  | [a, b] => rfl
  | [a, b, c] => rfl
  | [a, b, c, d] => rfl
  | a :: b :: c :: d :: e :: r => (tryF_none (by simp) (by simp)).trans rfl
theorem t_cascade : ∀ r : List (List UInt8), tryF ([99, 97, 115, 99, 97, 100, 101], 6, 2, [105]) ([99, 97, 115, 99, 97, 100, 101] :: r) = finR (ofR ([99, 97, 115, 99, 97, 100, 101] :: r))
  | [] => rfl
  | [a] => by
    show tryG (readAll (freshM ([99, 97, 115, 99, 97, 100, 101], 6, 2, [105])) [105] [a]) = _
    rw [rA_cons (ok := (numP a).2) rfl]
    rw [tryG_end]
    show (if ((numP a).2) = true then (if refgood (opM (oC (oI (o0 2) (numP a).1) true)) = true then some (opM (oC (oI (o0 2) (numP a).1) true)) else none) else none) = finR (opM (oC (oI (o0 2) (numR a)) true), decide (0 ≤ numR a))
    rcases num_cases a with ⟨ha, ga, ka⟩ | ⟨ha, ka⟩
    rotate_left
    · rw [show finR (opM (oC (oI (o0 2) (numR a)) true), decide (0 ≤ numR a)) = none from fin_no _ (by rw [ka] <;> simp), ha]; simp
    rw [if_pos ha]
    rw [ga]
    exact (fin_end _ (by exact ka)).symm
  | [a, b] => rfl
  | [a, b, c] => rfl
  | [a, b, c, d] => rfl
  | a :: b :: c :: d :: e :: r => (tryF_none (by simp) (by simp)).trans rfl
theorem t_edge : ∀ r : List (List UInt8), tryF ([101, 100, 103, 101], 6, 3, [116, 97, 98]) ([101, 100, 103, 101] :: r) = finR (ofR ([101, 100, 103, 101] :: r))
  | [] => rfl
  | [a] => rfl
  | [a, b] => rfl
  | [a, b, c] => by
    show tryG (readAll (freshM ([101, 100, 103, 101], 6, 3, [116, 97, 98])) [116, 97, 98] [a, b, c]) = _
    rw [rA_cons (ok := !decide (a = [])) rfl]
    rw [rA_cons (ok := (numP b).2) rfl]
    rw [rA_cons (ok := (numP c).2) rfl]
    rw [tryG_end]
    show (if (!decide (a = [])) = true then (if ((numP b).2) = true then (if ((numP c).2) = true then (if refgood (opM (oE (oF (oT (o0 3) a) (numP b).1) (numP c).1)) = true then some (opM (oE (oF (oT (o0 3) a) (numP b).1) (numP c).1)) else none) else none) else none) else none) = finR (opM (oE (oF (oT (o0 3) a) (numR b)) (numR c)), decide (0 ≤ numR b) && decide (0 ≤ numR c))
    rcases txt_cases a with ⟨ha, ga⟩ | ⟨ha, ga⟩
    rotate_left
    · rw [show finR _ = none from fin_bad (by rw [gd_edge, ga]; simp [name_nil])]; simp [ga]
    rcases num_cases b with ⟨hb, gb, kb⟩ | ⟨hb, kb⟩
    rotate_left
    · rw [show finR (opM (oE (oF (oT (o0 3) a) (numR b)) (numR c)), decide (0 ≤ numR b) && decide (0 ≤ numR c)) = none from fin_no _ (by rw [kb] <;> simp), hb]; simp
    rcases num_cases c with ⟨hc, gc, kc⟩ | ⟨hc, kc⟩
    rotate_left
    · rw [show finR (opM (oE (oF (oT (o0 3) a) (numR b)) (numR c)), decide (0 ≤ numR b) && decide (0 ≤ numR c)) = none from fin_no _ (by rw [kc] <;> simp), hc]; simp
    rw [if_pos ha, if_pos hb, if_pos hc]
    rw [gb, gc]
    exact (fin_end _ (by rw [kb, kc]; rfl)).symm
  | [a, b, c, d] => rfl
  | a :: b :: c :: d :: e :: r => (tryF_none (by simp) (by simp)).trans rfl
theorem t_cut : ∀ r : List (List UInt8), tryF ([99, 117, 116], 6, 4, [105]) ([99, 117, 116] :: r) = finR (ofR ([99, 117, 116] :: r))
  | [] => rfl
  | [a] => by
    show tryG (readAll (freshM ([99, 117, 116], 6, 4, [105])) [105] [a]) = _
    rw [rA_cons (ok := (numP a).2) rfl]
    rw [tryG_end]
    show (if ((numP a).2) = true then (if refgood (opM (oI (o0 4) (numP a).1)) = true then some (opM (oI (o0 4) (numP a).1)) else none) else none) = finR (opM (oI (o0 4) (numR a)), decide (0 ≤ numR a))
    rcases num_cases a with ⟨ha, ga, ka⟩ | ⟨ha, ka⟩
    rotate_left
    · rw [show finR (opM (oI (o0 4) (numR a)), decide (0 ≤ numR a)) = none from fin_no _ (by rw [ka] <;> simp), ha]; simp
    rw [if_pos ha]
    rw [ga]
    exact (fin_end _ (by exact ka)).symm
  | [a, b] => rfl
  | [a, b, c] => rfl
  | [a, b, c, d] => rfl
  | a :: b :: c :: d :: e :: r => (tryF_none (by simp) (by simp)).trans rfl
theorem t_set : ∀ r : List (List UInt8), tryF ([115, 101, 116], 6, 5, [105, 110, 118]) ([115, 101, 116] :: r) = finR (ofR ([115, 101, 116] :: r))
  | [] => rfl
  | [a] => rfl
  | [a, b] => rfl
  | [a, b, c] => by
    show tryG (readAll (freshM ([115, 101, 116], 6, 5, [105, 110, 118])) [105, 110, 118] [a, b, c]) = _
    rw [rA_cons (ok := (numP a).2) rfl]
    rw [rA_cons (ok := !decide (b = [])) rfl]
    rw [rA_cons (ok := (valS c).2) rfl]
    rw [tryG_end]
    show (if ((numP a).2) = true then (if (!decide (b = [])) = true then (if ((valS c).2) = true then (if refgood (opM (oVl (oN (oI (o0 5) (numP a).1) b) (valS c).1)) = true then some (opM (oVl (oN (oI (o0 5) (numP a).1) b) (valS c).1)) else none) else none) else none) else none) = finR (opM (oVl (oN (oI (o0 5) (numR a)) b) (valR c).1), decide (0 ≤ numR a) && (valR c).2)
    rcases num_cases a with ⟨ha, ga, ka⟩ | ⟨ha, ka⟩
    rotate_left
    · rw [show finR (opM (oVl (oN (oI (o0 5) (numR a)) b) (valR c).1), decide (0 ≤ numR a) && (valR c).2) = none from fin_no _ (by rw [ka] <;> simp), ha]; simp
    rcases txt_cases b with ⟨hb, gb⟩ | ⟨hb, gb⟩
    rotate_left
    · rw [show finR _ = none from fin_bad (by rw [gd_set, gb]; simp [name_nil])]; simp [gb]
    rcases val_cases c with ⟨hc, gc, kc⟩ | ⟨hc, kc⟩
    rotate_left
    · rw [show finR (opM (oVl (oN (oI (o0 5) (numR a)) b) (valR c).1), decide (0 ≤ numR a) && (valR c).2) = none from fin_no _ (by rw [kc] <;> simp), hc]; simp
    rw [if_pos ha, if_pos hb, if_pos hc]
    rw [ga, gc]
    exact (fin_end _ (by rw [ka, kc]; rfl)).symm
  | [a, b, c, d] => rfl
  | a :: b :: c :: d :: e :: r => (tryF_none (by simp) (by simp)).trans rfl
theorem t_get : ∀ r : List (List UInt8), tryF ([103, 101, 116], 7, 0, [105]) ([103, 101, 116] :: r) = finR (ofR ([103, 101, 116] :: r))
  | [] => rfl
  | [a] => by
    show tryG (readAll (freshM ([103, 101, 116], 7, 0, [105])) [105] [a]) = _
    rw [rA_cons (ok := (numP a).2) rfl]
    rw [tryG_end]
    show (if ((numP a).2) = true then (if refgood (mI (m0 7) (numP a).1) = true then some (mI (m0 7) (numP a).1) else none) else none) = finR (mI (m0 7) (numR a), decide (0 ≤ numR a))
    rcases num_cases a with ⟨ha, ga, ka⟩ | ⟨ha, ka⟩
    rotate_left
    · rw [show finR (mI (m0 7) (numR a), decide (0 ≤ numR a)) = none from fin_no _ (by rw [ka] <;> simp), ha]; simp
    rw [if_pos ha]
    rw [ga]
    exact (fin_end _ (by exact ka)).symm
  | [a, b] => rfl
  | [a, b, c] => rfl
  | [a, b, c, d] => rfl
  | a :: b :: c :: d :: e :: r => (tryF_none (by simp) (by simp)).trans rfl
theorem t_arc : ∀ r : List (List UInt8), tryF ([97, 114, 99], 8, 0, [105]) ([97, 114, 99] :: r) = finR (ofR ([97, 114, 99] :: r))
  | [] => rfl
  | [a] => by
    show tryG (readAll (freshM ([97, 114, 99], 8, 0, [105])) [105] [a]) = _
    rw [rA_cons (ok := (numP a).2) rfl]
    rw [tryG_end]
    show (if ((numP a).2) = true then (if refgood (mI (m0 8) (numP a).1) = true then some (mI (m0 8) (numP a).1) else none) else none) = finR (mI (m0 8) (numR a), decide (0 ≤ numR a))
    rcases num_cases a with ⟨ha, ga, ka⟩ | ⟨ha, ka⟩
    rotate_left
    · rw [show finR (mI (m0 8) (numR a), decide (0 ≤ numR a)) = none from fin_no _ (by rw [ka] <;> simp), ha]; simp
    rw [if_pos ha]
    rw [ga]
    exact (fin_end _ (by exact ka)).symm
  | [a, b] => rfl
  | [a, b, c] => rfl
  | [a, b, c, d] => rfl
  | a :: b :: c :: d :: e :: r => (tryF_none (by simp) (by simp)).trans rfl
theorem t_out : ∀ r : List (List UInt8), tryF ([111, 117, 116], 9, 0, [105, 101]) ([111, 117, 116] :: r) = finR (ofR ([111, 117, 116] :: r))
  | [] => rfl
  | [a] => by
    show tryG (readAll (freshM ([111, 117, 116], 9, 0, [105, 101])) [105, 101] [a]) = _
    rw [rA_cons (ok := (numP a).2) rfl]
    rw [tryG_end]
    show (if ((numP a).2) = true then (if refgood (mI (m0 9) (numP a).1) = true then some (mI (m0 9) (numP a).1) else none) else none) = finR (mI (m0 9) (numR a), decide (0 ≤ numR a))
    rcases num_cases a with ⟨ha, ga, ka⟩ | ⟨ha, ka⟩
    rotate_left
    · rw [show finR (mI (m0 9) (numR a), decide (0 ≤ numR a)) = none from fin_no _ (by rw [ka] <;> simp), ha]; simp
    rw [if_pos ha]
    rw [ga]
    exact (fin_end _ (by exact ka)).symm
  | [a, b] => by
    show tryG (readAll (freshM ([111, 117, 116], 9, 0, [105, 101])) [105, 101] [a, b]) = _
    rw [rA_cons (ok := (numP a).2) rfl]
    rw [rA_cons (ok := !decide (b = [])) rfl]
    rw [tryG_end]
    show (if ((numP a).2) = true then (if (!decide (b = [])) = true then (if refgood (mT (mI (m0 9) (numP a).1) b) = true then some (mT (mI (m0 9) (numP a).1) b) else none) else none) else none) = finR (mT (mI (m0 9) (numR a)) b, decide (0 ≤ numR a) && !decide (b = []))
    rcases num_cases a with ⟨ha, ga, ka⟩ | ⟨ha, ka⟩
    rotate_left
    · rw [show finR (mT (mI (m0 9) (numR a)) b, decide (0 ≤ numR a) && !decide (b = [])) = none from fin_no _ (by rw [ka] <;> simp), ha]; simp
    rcases txt_cases b with ⟨hb, gb⟩ | ⟨hb, gb⟩
    rotate_left
    · rw [show finR (mT (mI (m0 9) (numR a)) b, decide (0 ≤ numR a) && !decide (b = [])) = none from fin_no _ (by rw [hb] <;> simp), hb]; simp
    rw [if_pos ha, if_pos hb]
    rw [ga]
    exact (fin_end _ (by rw [ka, hb]; rfl)).symm
  | [a, b, c] => rfl
  | [a, b, c, d] => rfl
  | a :: b :: c :: d :: e :: r => (tryF_none (by simp) (by simp)).trans rfl
theorem t_in : ∀ r : List (List UInt8), tryF ([105, 110], 10, 0, [105, 101]) ([105, 110] :: r) = finR (ofR ([105, 110] :: r))
  | [] => rfl
  | [a] => by
    show tryG (readAll (freshM ([105, 110], 10, 0, [105, 101])) [105, 101] [a]) = _
    rw [rA_cons (ok := (numP a).2) rfl]
    rw [tryG_end]
    show (if ((numP a).2) = true then (if refgood (mI (m0 10) (numP a).1) = true then some (mI (m0 10) (numP a).1) else none) else none) = finR (mI (m0 10) (numR a), decide (0 ≤ numR a))
    rcases num_cases a with ⟨ha, ga, ka⟩ | ⟨ha, ka⟩
    rotate_left
    · rw [show finR (mI (m0 10) (numR a), decide (0 ≤ numR a)) = none from fin_no _ (by rw [ka] <;> simp), ha]; simp
    rw [if_pos ha]
    rw [ga]
    exact (fin_end _ (by exact ka)).symm
  | [a, b] => by
    show tryG (readAll (freshM ([105, 110], 10, 0, [105, 101])) [105, 101] [a, b]) = _
    rw [rA_cons (ok := (numP a).2) rfl]
    rw [rA_cons (ok := !decide (b = [])) rfl]
    rw [tryG_end]
    show (if ((numP a).2) = true then (if (!decide (b = [])) = true then (if refgood (mT (mI (m0 10) (numP a).1) b) = true then some (mT (mI (m0 10) (numP a).1) b) else none) else none) else none) = finR (mT (mI (m0 10) (numR a)) b, decide (0 ≤ numR a) && !decide (b = []))
    rcases num_cases a with ⟨ha, ga, ka⟩ | ⟨ha, ka⟩
    rotate_left
    · rw [show finR (mT (mI (m0 10) (numR a)) b, decide (0 ≤ numR a) && !decide (b = [])) = none from fin_no _ (by rw [ka] <;> simp), ha]; simp
    rcases txt_cases b with ⟨hb, gb⟩ | ⟨hb, gb⟩
    rotate_left
    · rw [show finR (mT (mI (m0 10) (numR a)) b, decide (0 ≤ numR a) && !decide (b = [])) = none from fin_no _ (by rw [hb] <;> simp), hb]; simp
    rw [if_pos ha, if_pos hb]
    rw [ga]
    exact (fin_end _ (by rw [ka, hb]; rfl)).symm
  | [a, b, c] => rfl
  | [a, b, c, d] => rfl
  | a :: b :: c :: d :: e :: r => (tryF_none (by simp) (by simp)).trans rfl
theorem t_scan : ∀ r : List (List UInt8), tryF ([115, 99, 97, 110], 11, 0, [116]) ([115, 99, 97, 110] :: r) = finR (ofR ([115, 99, 97, 110] :: r))
  | [] => rfl
  | [a] => by
    show tryG (readAll (freshM ([115, 99, 97, 110], 11, 0, [116])) [116] [a]) = _
    rw [rA_cons (ok := !decide (a = [])) rfl]
    rw [tryG_end]
    show (if (!decide (a = [])) = true then (if refgood (mT (m0 11) a) = true then some (mT (m0 11) a) else none) else none) = finR (mT (m0 11) a, true)
    rcases txt_cases a with ⟨ha, ga⟩ | ⟨ha, ga⟩
    rotate_left
    · rw [show finR _ = none from fin_bad (by rw [gd_scan, ga]; simp [name_nil])]; simp [ga]
    rw [if_pos ha]
    exact (fin_end _ (by rfl)).symm
  | [a, b] => rfl
  | [a, b, c] => rfl
  | [a, b, c, d] => rfl
  | a :: b :: c :: d :: e :: r => (tryF_none (by simp) (by simp)).trans rfl
theorem t_find : ∀ r : List (List UInt8), tryF ([102, 105, 110, 100], 12, 0, [116, 110, 118]) ([102, 105, 110, 100] :: r) = finR (ofR ([102, 105, 110, 100] :: r))
  | [] => rfl
  | [a] => rfl
  | [a, b] => rfl
  | [a, b, c] => by
    show tryG (readAll (freshM ([102, 105, 110, 100], 12, 0, [116, 110, 118])) [116, 110, 118] [a, b, c]) = _
    rw [rA_cons (ok := !decide (a = [])) rfl]
    rw [rA_cons (ok := !decide (b = [])) rfl]
    rw [rA_cons (ok := (valS c).2) rfl]
    rw [tryG_end]
    show (if (!decide (a = [])) = true then (if (!decide (b = [])) = true then (if ((valS c).2) = true then (if refgood (mVl (mNm (mT (m0 12) a) b) (valS c).1) = true then some (mVl (mNm (mT (m0 12) a) b) (valS c).1) else none) else none) else none) else none) = finR (mVl (mNm (mT (m0 12) a) b) (valR c).1, (valR c).2)
    rcases txt_cases a with ⟨ha, ga⟩ | ⟨ha, ga⟩
    rotate_left
    · rw [show finR _ = none from fin_bad (by rw [gd_find, ga]; simp [name_nil])]; simp [ga]
    rcases txt_cases b with ⟨hb, gb⟩ | ⟨hb, gb⟩
    rotate_left
    · rw [show finR _ = none from fin_bad (by rw [gd_find, gb]; simp [name_nil])]; simp [gb]
    rcases val_cases c with ⟨hc, gc, kc⟩ | ⟨hc, kc⟩
    rotate_left
    · rw [show finR (mVl (mNm (mT (m0 12) a) b) (valR c).1, (valR c).2) = none from fin_no _ (by rw [kc] <;> simp), hc]; simp
    rw [if_pos ha, if_pos hb, if_pos hc]
    rw [gc]
    exact (fin_end _ (by exact kc)).symm
  | [a, b, c, d] => rfl
  | a :: b :: c :: d :: e :: r => (tryF_none (by simp) (by simp)).trans rfl
theorem t_range : ∀ r : List (List UInt8), tryF ([114, 97, 110, 103, 101], 13, 0, [116, 110, 118, 119]) ([114, 97, 110, 103, 101] :: r) = finR (ofR ([114, 97, 110, 103, 101] :: r))
  | [] => rfl
  | [a] => rfl
  | [a, b] => rfl
  | [a, b, c] => rfl
  | [a, b, c, d] => by
    show tryG (readAll (freshM ([114, 97, 110, 103, 101], 13, 0, [116, 110, 118, 119])) [116, 110, 118, 119] [a, b, c, d]) = _
    rw [rA_cons (ok := !decide (a = [])) rfl]
    rw [rA_cons (ok := !decide (b = [])) rfl]
    rw [rA_cons (ok := (valS c).2) rfl]
    rw [rA_cons (ok := (valS d).2) rfl]
    rw [tryG_end]
    show (if (!decide (a = [])) = true then (if (!decide (b = [])) = true then (if ((valS c).2) = true then (if ((valS d).2) = true then (if refgood (mW (mVl (mNm (mT (m0 13) a) b) (valS c).1) (valS d).1) = true then some (mW (mVl (mNm (mT (m0 13) a) b) (valS c).1) (valS d).1) else none) else none) else none) else none) else none) = finR (mW (mVl (mNm (mT (m0 13) a) b) (valR c).1) (valR d).1, (valR c).2 && (valR d).2)
    rcases txt_cases a with ⟨ha, ga⟩ | ⟨ha, ga⟩
    rotate_left
    · rw [show finR _ = none from fin_bad (by rw [gd_range, ga]; simp [name_nil])]; simp [ga]
    rcases txt_cases b with ⟨hb, gb⟩ | ⟨hb, gb⟩
    rotate_left
    · rw [show finR _ = none from fin_bad (by rw [gd_range, gb]; simp [name_nil])]; simp [gb]
    rcases val_cases c with ⟨hc, gc, kc⟩ | ⟨hc, kc⟩
    rotate_left
    · rw [show finR (mW (mVl (mNm (mT (m0 13) a) b) (valR c).1) (valR d).1, (valR c).2 && (valR d).2) = none from fin_no _ (by rw [kc] <;> simp), hc]; simp
    rcases val_cases d with ⟨hd, gd, kd⟩ | ⟨hd, kd⟩
    rotate_left
    · rw [show finR (mW (mVl (mNm (mT (m0 13) a) b) (valR c).1) (valR d).1, (valR c).2 && (valR d).2) = none from fin_no _ (by rw [kd] <;> simp), hd]; simp
    rw [if_pos ha, if_pos hb, if_pos hc, if_pos hd]
    rw [gc, gd]
    exact (fin_end _ (by rw [kc, kd]; rfl)).symm
  | a :: b :: c :: d :: e :: r => (tryF_none (by simp) (by simp)).trans rfl
theorem t_type : ∀ r : List (List UInt8), tryF ([116, 121, 112, 101], 14, 0, [116, 107]) ([116, 121, 112, 101] :: r) = finR (ofR ([116, 121, 112, 101] :: r))
  | [] => rfl
  | [a] => rfl
  | [a, b] => by
    show tryG (readAll (freshM ([116, 121, 112, 101], 14, 0, [116, 107])) [116, 107] [a, b]) = _
    rw [rA_cons (ok := !decide (a = [])) rfl]
    rw [rA_cons (ok := (numP b).2) rfl]
    rw [tryG_end]
    show (if (!decide (a = [])) = true then (if ((numP b).2) = true then (if refgood (mM (mT (m0 14) a) (numP b).1) = true then some (mM (mT (m0 14) a) (numP b).1) else none) else none) else none) = finR (mM (mT (m0 14) a) (numR b), decide (0 ≤ numR b))
    rcases txt_cases a with ⟨ha, ga⟩ | ⟨ha, ga⟩
    rotate_left
    · rw [show finR _ = none from fin_bad (by rw [gd_type, ga]; simp [name_nil])]; simp [ga]
    rcases num_cases b with ⟨hb, gb, kb⟩ | ⟨hb, kb⟩
    rotate_left
    · rw [show finR (mM (mT (m0 14) a) (numR b), decide (0 ≤ numR b)) = none from fin_no _ (by rw [kb] <;> simp), hb]; simp
    rw [if_pos ha, if_pos hb]
    rw [gb]
    exact (fin_end _ (by exact kb)).symm
  | [a, b, c] => rfl
  | [a, b, c, d] => rfl
  | a :: b :: c :: d :: e :: r => (tryF_none (by simp) (by simp)).trans rfl
theorem t_notype : ∀ r : List (List UInt8), tryF ([110, 111, 116, 121, 112, 101], 15, 0, [116, 107]) ([110, 111, 116, 121, 112, 101] :: r) = finR (ofR ([110, 111, 116, 121, 112, 101] :: r))
  | [] => rfl
  | [a] => rfl
  | [a, b] => by
    show tryG (readAll (freshM ([110, 111, 116, 121, 112, 101], 15, 0, [116, 107])) [116, 107] [a, b]) = _
    rw [rA_cons (ok := !decide (a = [])) rfl]
    rw [rA_cons (ok := (numP b).2) rfl]
    rw [tryG_end]
    show (if (!decide (a = [])) = true then (if ((numP b).2) = true then (if refgood (mM (mT (m0 15) a) (numP b).1) = true then some (mM (mT (m0 15) a) (numP b).1) else none) else none) else none) = finR (mM (mT (m0 15) a) (numR b), decide (0 ≤ numR b))
    rcases txt_cases a with ⟨ha, ga⟩ | ⟨ha, ga⟩
    rotate_left
    · rw [show finR _ = none from fin_bad (by rw [gd_notype, ga]; simp [name_nil])]; simp [ga]
    rcases num_cases b with ⟨hb, gb, kb⟩ | ⟨hb, kb⟩
    rotate_left
    · rw [show finR (mM (mT (m0 15) a) (numR b), decide (0 ≤ numR b)) = none from fin_no _ (by rw [kb] <;> simp), hb]; simp
    rw [if_pos ha, if_pos hb]
    rw [gb]
    exact (fin_end _ (by exact kb)).symm
  | [a, b, c] => rfl
  | [a, b, c, d] => rfl
  | a :: b :: c :: d :: e :: r => (tryF_none (by simp) (by simp)).trans rfl
theorem t_unique : ∀ r : List (List UInt8), tryF ([117, 110, 105, 113, 117, 101], 16, 1, [116, 110]) ([117, 110, 105, 113, 117, 101] :: r) = finR (ofR ([117, 110, 105, 113, 117, 101] :: r))
  | [] => rfl
  | [a] => rfl
  | [a, b] => by
    show tryG (readAll (freshM ([117, 110, 105, 113, 117, 101], 16, 1, [116, 110])) [116, 110] [a, b]) = _
    rw [rA_cons (ok := !decide (a = [])) rfl]
    rw [rA_cons (ok := !decide (b = [])) rfl]
    rw [tryG_end]
    show (if (!decide (a = [])) = true then (if (!decide (b = [])) = true then (if refgood (ruM (rN (rT (rule0 1) a) b)) = true then some (ruM (rN (rT (rule0 1) a) b)) else none) else none) else none) = finR (ruM (rN (rT (rule0 1) a) b), true)
    rcases txt_cases a with ⟨ha, ga⟩ | ⟨ha, ga⟩
    rotate_left
    · rw [show finR _ = none from fin_bad (by rw [gd_unique, ga]; simp [name_nil])]; simp [ga]
    rcases txt_cases b with ⟨hb, gb⟩ | ⟨hb, gb⟩
    rotate_left
    · rw [show finR _ = none from fin_bad (by rw [gd_unique, gb]; simp [name_nil])]; simp [gb]
    rw [if_pos ha, if_pos hb]
    exact (fin_end _ (by rfl)).symm
  | [a, b, c] => rfl
  | [a, b, c, d] => rfl
  | a :: b :: c :: d :: e :: r => (tryF_none (by simp) (by simp)).trans rfl
theorem t_exists : ∀ r : List (List UInt8), tryF ([101, 120, 105, 115, 116, 115], 16, 2, [116, 110]) ([101, 120, 105, 115, 116, 115] :: r) = finR (ofR ([101, 120, 105, 115, 116, 115] :: r))
  | [] => rfl
  | [a] => rfl
  | [a, b] => by
    show tryG (readAll (freshM ([101, 120, 105, 115, 116, 115], 16, 2, [116, 110])) [116, 110] [a, b]) = _
    rw [rA_cons (ok := !decide (a = [])) rfl]
    rw [rA_cons (ok := !decide (b = [])) rfl]
    rw [tryG_end]
    show (if (!decide (a = [])) = true then (if (!decide (b = [])) = true then (if refgood (ruM (rN (rT (rule0 2) a) b)) = true then some (ruM (rN (rT (rule0 2) a) b)) else none) else none) else none) = finR (ruM (rN (rT (rule0 2) a) b), true)
    rcases txt_cases a with ⟨ha, ga⟩ | ⟨ha, ga⟩
    rotate_left
    · rw [show finR _ = none from fin_bad (by rw [gd_exists, ga]; simp [name_nil])]; simp [ga]
    rcases txt_cases b with ⟨hb, gb⟩ | ⟨hb, gb⟩
    rotate_left
    · rw [show finR _ = none from fin_bad (by rw [gd_exists, gb]; simp [name_nil])]; simp [gb]
    rw [if_pos ha, if_pos hb]
    exact (fin_end _ (by rfl)).symm
  | [a, b, c] => rfl
  | [a, b, c, d] => rfl
  | a :: b :: c :: d :: e :: r => (tryF_none (by simp) (by simp)).trans rfl
theorem t_ends : ∀ r : List (List UInt8), tryF ([101, 110, 100, 115], 16, 3, [116, 102, 103]) ([101, 110, 100, 115] :: r) = finR (ofR ([101, 110, 100, 115] :: r))
  | [] => rfl
  | [a] => rfl
  | [a, b] => rfl
  | [a, b, c] => by
    show tryG (readAll (freshM ([101, 110, 100, 115], 16, 3, [116, 102, 103])) [116, 102, 103] [a, b, c]) = _
    rw [rA_cons (ok := !decide (a = [])) rfl]
    rw [rA_cons (ok := !decide (b = [])) rfl]
    rw [rA_cons (ok := !decide (c = [])) rfl]
    rw [tryG_end]
    show (if (!decide (a = [])) = true then (if (!decide (b = [])) = true then (if (!decide (c = [])) = true then (if refgood (ruM (rG (rF (rT (rule0 3) a) b) c)) = true then some (ruM (rG (rF (rT (rule0 3) a) b) c)) else none) else none) else none) else none) = finR (ruM (rG (rF (rT (rule0 3) a) b) c), true)
    rcases txt_cases a with ⟨ha, ga⟩ | ⟨ha, ga⟩
    rotate_left
    · rw [show finR _ = none from fin_bad (by rw [gd_ends, ga]; simp [name_nil])]; simp [ga]
    rcases txt_cases b with ⟨hb, gb⟩ | ⟨hb, gb⟩
    rotate_left
    · rw [show finR _ = none from fin_bad (by rw [gd_ends, gb]; simp [name_nil])]; simp [gb]
    rcases txt_cases c with ⟨hc, gc⟩ | ⟨hc, gc⟩
    rotate_left
    · rw [show finR _ = none from fin_bad (by rw [gd_ends, gc]; simp [name_nil])]; simp [gc]
    rw [if_pos ha, if_pos hb, if_pos hc]
    exact (fin_end _ (by rfl)).symm
  | [a, b, c, d] => rfl
  | a :: b :: c :: d :: e :: r => (tryF_none (by simp) (by simp)).trans rfl
theorem t_most : ∀ r : List (List UInt8), tryF ([109, 111, 115, 116], 16, 4, [116, 107]) ([109, 111, 115, 116] :: r) = finR (ofR ([109, 111, 115, 116] :: r))
  | [] => rfl
  | [a] => rfl
  | [a, b] => by
    show tryG (readAll (freshM ([109, 111, 115, 116], 16, 4, [116, 107])) [116, 107] [a, b]) = _
    rw [rA_cons (ok := !decide (a = [])) rfl]
    rw [rA_cons (ok := (numP b).2) rfl]
    rw [tryG_end]
    show (if (!decide (a = [])) = true then (if ((numP b).2) = true then (if refgood (ruM (rM (rT (rule0 4) a) (numP b).1)) = true then some (ruM (rM (rT (rule0 4) a) (numP b).1)) else none) else none) else none) = finR (ruM (rM (rT (rule0 4) a) (numR b)), decide (0 ≤ numR b))
    rcases txt_cases a with ⟨ha, ga⟩ | ⟨ha, ga⟩
    rotate_left
    · rw [show finR _ = none from fin_bad (by rw [gd_most, ga]; simp [name_nil])]; simp [ga]
    rcases num_cases b with ⟨hb, gb, kb⟩ | ⟨hb, kb⟩
    rotate_left
    · rw [show finR (ruM (rM (rT (rule0 4) a) (numR b)), decide (0 ≤ numR b)) = none from fin_no _ (by rw [kb] <;> simp), hb]; simp
    rw [if_pos ha, if_pos hb]
    rw [gb]
    exact (fin_end _ (by exact kb)).symm
  | [a, b, c] => rfl
  | [a, b, c, d] => rfl
  | a :: b :: c :: d :: e :: r => (tryF_none (by simp) (by simp)).trans rfl
theorem t_norule : ∀ r : List (List UInt8), tryF ([110, 111, 114, 117, 108, 101], 17, 0, [107]) ([110, 111, 114, 117, 108, 101] :: r) = finR (ofR ([110, 111, 114, 117, 108, 101] :: r))
  | [] => rfl
  | [a] => by
    show tryG (readAll (freshM ([110, 111, 114, 117, 108, 101], 17, 0, [107])) [107] [a]) = _
    rw [rA_cons (ok := (numP a).2) rfl]
    rw [tryG_end]
    show (if ((numP a).2) = true then (if refgood (mM (m0 17) (numP a).1) = true then some (mM (m0 17) (numP a).1) else none) else none) = finR (mM (m0 17) (numR a), decide (0 ≤ numR a))
    rcases num_cases a with ⟨ha, ga, ka⟩ | ⟨ha, ka⟩
    rotate_left
    · rw [show finR (mM (m0 17) (numR a), decide (0 ≤ numR a)) = none from fin_no _ (by rw [ka] <;> simp), ha]; simp
    rw [if_pos ha]
    rw [ga]
    exact (fin_end _ (by exact ka)).symm
  | [a, b] => rfl
  | [a, b, c] => rfl
  | [a, b, c, d] => rfl
  | a :: b :: c :: d :: e :: r => (tryF_none (by simp) (by simp)).trans rfl
theorem t_index : ∀ r : List (List UInt8), tryF ([105, 110, 100, 101, 120], 18, 0, [116, 110]) ([105, 110, 100, 101, 120] :: r) = finR (ofR ([105, 110, 100, 101, 120] :: r))
  | [] => rfl
  | [a] => rfl
  | [a, b] => by
    show tryG (readAll (freshM ([105, 110, 100, 101, 120], 18, 0, [116, 110])) [116, 110] [a, b]) = _
    rw [rA_cons (ok := !decide (a = [])) rfl]
    rw [rA_cons (ok := !decide (b = [])) rfl]
    rw [tryG_end]
    show (if (!decide (a = [])) = true then (if (!decide (b = [])) = true then (if refgood (mNm (mT (m0 18) a) b) = true then some (mNm (mT (m0 18) a) b) else none) else none) else none) = finR (mNm (mT (m0 18) a) b, true)
    rcases txt_cases a with ⟨ha, ga⟩ | ⟨ha, ga⟩
    rotate_left
    · rw [show finR _ = none from fin_bad (by rw [gd_index, ga]; simp [name_nil])]; simp [ga]
    rcases txt_cases b with ⟨hb, gb⟩ | ⟨hb, gb⟩
    rotate_left
    · rw [show finR _ = none from fin_bad (by rw [gd_index, gb]; simp [name_nil])]; simp [gb]
    rw [if_pos ha, if_pos hb]
    exact (fin_end _ (by rfl)).symm
  | [a, b, c] => rfl
  | [a, b, c, d] => rfl
  | a :: b :: c :: d :: e :: r => (tryF_none (by simp) (by simp)).trans rfl
theorem t_noindex : ∀ r : List (List UInt8), tryF ([110, 111, 105, 110, 100, 101, 120], 19, 0, [116, 110]) ([110, 111, 105, 110, 100, 101, 120] :: r) = finR (ofR ([110, 111, 105, 110, 100, 101, 120] :: r))
  | [] => rfl
  | [a] => rfl
  | [a, b] => by
    show tryG (readAll (freshM ([110, 111, 105, 110, 100, 101, 120], 19, 0, [116, 110])) [116, 110] [a, b]) = _
    rw [rA_cons (ok := !decide (a = [])) rfl]
    rw [rA_cons (ok := !decide (b = [])) rfl]
    rw [tryG_end]
    show (if (!decide (a = [])) = true then (if (!decide (b = [])) = true then (if refgood (mNm (mT (m0 19) a) b) = true then some (mNm (mT (m0 19) a) b) else none) else none) else none) = finR (mNm (mT (m0 19) a) b, true)
    rcases txt_cases a with ⟨ha, ga⟩ | ⟨ha, ga⟩
    rotate_left
    · rw [show finR _ = none from fin_bad (by rw [gd_noindex, ga]; simp [name_nil])]; simp [ga]
    rcases txt_cases b with ⟨hb, gb⟩ | ⟨hb, gb⟩
    rotate_left
    · rw [show finR _ = none from fin_bad (by rw [gd_noindex, gb]; simp [name_nil])]; simp [gb]
    rw [if_pos ha, if_pos hb]
    exact (fin_end _ (by rfl)).symm
  | [a, b, c] => rfl
  | [a, b, c, d] => rfl
  | a :: b :: c :: d :: e :: r => (tryF_none (by simp) (by simp)).trans rfl
theorem pF_none : ∀ {xs : List FD.T} {ws : List (List UInt8)}, (∀ x ∈ xs, x.1 ≠ ws.headD []) → pF xs ws = none
  | [], _, _ => rfl
  | x :: xs, ws, h => by
    unfold pF
    rw [if_neg (h x (List.mem_cons_self ..))]
    exact pF_none fun y hy => h y (List.mem_cons_of_mem _ hy)
theorem pF_find : ∀ {xs : List FD.T} {ws : List (List UInt8)}, (xs.map (·.1)).Nodup → pF xs ws = (match xs.find? (fun x => decide (x.1 = ws.headD [])) with | some x => tryF x ws | none => none)
  | [], _, _ => rfl
  | x :: xs, ws, h => by
    rw [List.map_cons, List.nodup_cons] at h
    unfold pF
    by_cases g : x.1 = ws.headD []
    · rw [if_pos g, List.find?_cons_of_pos (by simpa using g)]
      have : pF xs ws = none := pF_none fun y hy e => h.1 (by rw [g, ← e]; exact List.mem_map_of_mem hy)
      rw [this]
      show (match tryF x ws with | some m => some m | none => none) = tryF x ws
      cases tryF x ws <;> rfl
    · rw [if_neg g, List.find?_cons_of_neg (by simpa using g)]
      exact pF_find h.2
theorem forms_nodup : (formsL.map (·.1)).Nodup := by decide
theorem no_form {w : List UInt8} (h : formsL.find? (fun x => decide (x.1 = w)) = none) (r : List (List UInt8)) : finR (ofR (w :: r)) = none := by
  have hn : ∀ x ∈ formsL, ¬ x.1 = w := fun x hx => by simpa using List.find?_eq_none.1 h x hx
  have n_begin : ¬ w = [98, 101, 103, 105, 110] := fun e => hn ([98, 101, 103, 105, 110], 1, 0, []) (by decide) e.symm
  have n_commit : ¬ w = [99, 111, 109, 109, 105, 116] := fun e => hn ([99, 111, 109, 109, 105, 116], 2, 0, []) (by decide) e.symm
  have n_abort : ¬ w = [97, 98, 111, 114, 116] := fun e => hn ([97, 98, 111, 114, 116], 3, 0, []) (by decide) e.symm
  have n_catalog : ¬ w = [99, 97, 116, 97, 108, 111, 103] := fun e => hn ([99, 97, 116, 97, 108, 111, 103], 20, 0, []) (by decide) e.symm
  have n_save : ¬ w = [115, 97, 118, 101] := fun e => hn ([115, 97, 118, 101], 4, 0, [110]) (by decide) e.symm
  have n_back : ¬ w = [98, 97, 99, 107] := fun e => hn ([98, 97, 99, 107], 5, 0, [110]) (by decide) e.symm
  have n_node : ¬ w = [110, 111, 100, 101] := fun e => hn ([110, 111, 100, 101], 6, 1, [116]) (by decide) e.symm
  have n_drop : ¬ w = [100, 114, 111, 112] := fun e => hn ([100, 114, 111, 112], 6, 2, [105]) (by decide) e.symm
  have n_cascade : ¬ w = [99, 97, 115, 99, 97, 100, 101] := fun e => hn ([99, 97, 115, 99, 97, 100, 101], 6, 2, [105]) (by decide) e.symm
  have n_edge : ¬ w = [101, 100, 103, 101] := fun e => hn ([101, 100, 103, 101], 6, 3, [116, 97, 98]) (by decide) e.symm
  have n_cut : ¬ w = [99, 117, 116] := fun e => hn ([99, 117, 116], 6, 4, [105]) (by decide) e.symm
  have n_set : ¬ w = [115, 101, 116] := fun e => hn ([115, 101, 116], 6, 5, [105, 110, 118]) (by decide) e.symm
  have n_get : ¬ w = [103, 101, 116] := fun e => hn ([103, 101, 116], 7, 0, [105]) (by decide) e.symm
  have n_arc : ¬ w = [97, 114, 99] := fun e => hn ([97, 114, 99], 8, 0, [105]) (by decide) e.symm
  have n_out : ¬ w = [111, 117, 116] := fun e => hn ([111, 117, 116], 9, 0, [105, 101]) (by decide) e.symm
  have n_in : ¬ w = [105, 110] := fun e => hn ([105, 110], 10, 0, [105, 101]) (by decide) e.symm
  have n_scan : ¬ w = [115, 99, 97, 110] := fun e => hn ([115, 99, 97, 110], 11, 0, [116]) (by decide) e.symm
  have n_find : ¬ w = [102, 105, 110, 100] := fun e => hn ([102, 105, 110, 100], 12, 0, [116, 110, 118]) (by decide) e.symm
  have n_range : ¬ w = [114, 97, 110, 103, 101] := fun e => hn ([114, 97, 110, 103, 101], 13, 0, [116, 110, 118, 119]) (by decide) e.symm
  have n_type : ¬ w = [116, 121, 112, 101] := fun e => hn ([116, 121, 112, 101], 14, 0, [116, 107]) (by decide) e.symm
  have n_notype : ¬ w = [110, 111, 116, 121, 112, 101] := fun e => hn ([110, 111, 116, 121, 112, 101], 15, 0, [116, 107]) (by decide) e.symm
  have n_unique : ¬ w = [117, 110, 105, 113, 117, 101] := fun e => hn ([117, 110, 105, 113, 117, 101], 16, 1, [116, 110]) (by decide) e.symm
  have n_exists : ¬ w = [101, 120, 105, 115, 116, 115] := fun e => hn ([101, 120, 105, 115, 116, 115], 16, 2, [116, 110]) (by decide) e.symm
  have n_ends : ¬ w = [101, 110, 100, 115] := fun e => hn ([101, 110, 100, 115], 16, 3, [116, 102, 103]) (by decide) e.symm
  have n_most : ¬ w = [109, 111, 115, 116] := fun e => hn ([109, 111, 115, 116], 16, 4, [116, 107]) (by decide) e.symm
  have n_norule : ¬ w = [110, 111, 114, 117, 108, 101] := fun e => hn ([110, 111, 114, 117, 108, 101], 17, 0, [107]) (by decide) e.symm
  have n_index : ¬ w = [105, 110, 100, 101, 120] := fun e => hn ([105, 110, 100, 101, 120], 18, 0, [116, 110]) (by decide) e.symm
  have n_noindex : ¬ w = [110, 111, 105, 110, 100, 101, 120] := fun e => hn ([110, 111, 105, 110, 100, 101, 120], 19, 0, [116, 110]) (by decide) e.symm
  match r with
  | [] => simp only [ofR]; rw [if_neg n_begin, if_neg n_commit, if_neg n_abort, if_neg n_catalog]; rfl
  | [a] => simp only [ofR, twoS]; rw [if_neg n_save, if_neg n_back, if_neg n_node, if_neg n_drop, if_neg n_cascade, if_neg n_cut, if_neg n_get, if_neg n_arc, if_neg n_out, if_neg n_in, if_neg n_scan, if_neg n_norule]; rfl
  | [a, b] => simp only [ofR, threeS]; rw [if_neg n_out, if_neg n_in, if_neg n_type, if_neg n_notype, if_neg n_unique, if_neg n_exists, if_neg n_most, if_neg n_index, if_neg n_noindex]; rfl
  | [a, b, c] => simp only [ofR, fourS]; rw [if_neg n_edge, if_neg n_set, if_neg n_find, if_neg n_ends]; rfl
  | [a, b, c, d] => simp only [ofR]; rw [if_neg n_range]; rfl
  | a :: b :: c :: d :: e :: r => rfl
theorem parse_of {ws : List (List UInt8)} (hne : ws ≠ []) : pF formsL ws = finR (ofR ws) := by
  rw [pF_find forms_nodup]
  cases ws with
  | nil => exact absurd rfl hne
  | cons w r =>
    show (match formsL.find? (fun x => decide (x.1 = w)) with | some x => tryF x (w :: r) | none => none) = _
    cases hf : formsL.find? (fun x => decide (x.1 = w)) with
    | none => exact (no_form hf r).symm
    | some x =>
      have hw : x.1 = w := by simpa using List.find?_some hf
      have hx : x ∈ formsL := List.mem_of_find?_eq_some hf
      subst hw
      simp only [formsL, List.mem_cons, List.not_mem_nil, or_false] at hx
      rcases hx with rfl | rfl | rfl | rfl | rfl | rfl | rfl | rfl | rfl | rfl | rfl | rfl | rfl | rfl | rfl | rfl | rfl | rfl | rfl | rfl | rfl | rfl | rfl | rfl | rfl | rfl | rfl | rfl
      · exact t_begin r
      · exact t_commit r
      · exact t_abort r
      · exact t_catalog r
      · exact t_save r
      · exact t_back r
      · exact t_node r
      · exact t_drop r
      · exact t_cascade r
      · exact t_edge r
      · exact t_cut r
      · exact t_set r
      · exact t_get r
      · exact t_arc r
      · exact t_out r
      · exact t_in r
      · exact t_scan r
      · exact t_find r
      · exact t_range r
      · exact t_type r
      · exact t_notype r
      · exact t_unique r
      · exact t_exists r
      · exact t_ends r
      · exact t_most r
      · exact t_norule r
      · exact t_index r
      · exact t_noindex r
theorem parse_R (line : List UInt8) : parseS line = finR (ofR (wordsL line)) := parse_of (wordsL_ne line)
end Go.Proofs.YtdhfipjfgigamaaGreatDoor.Con
/- The walks of the reference's bytes of commands. Printed by genwenc.py. Own work. -/
set_option linter.unusedVariables false
set_option maxRecDepth 100000
namespace Go.Proofs.YtdhfipjfgigamaaGreatDoor
open Go Go.RowKit OE

/-- a change's bytes -/
def encRO (o : OD.T) : List UInt8 :=
  if (o.1 : Int) = 1 then kb o.1 ++ Num.putT o.2.2.1
  else if (o.1 : Int) = 2 then kb o.1 ++ Num.putN (u64 o.2.1) ++ (if o.2.2.2.2.2.2.2 = true then kb 1 else kb 0)
  else if (o.1 : Int) = 3 then kb o.1 ++ Num.putT o.2.2.1 ++ Num.putN (u64 o.2.2.2.1) ++ Num.putN (u64 o.2.2.2.2.1)
  else if (o.1 : Int) = 4 then kb o.1 ++ Num.putN (u64 o.2.1)
  else kb o.1 ++ Num.putN (u64 o.2.1) ++ Num.putT o.2.2.2.2.2.1 ++ encV (oV o)
/-- a command's bytes, but for the fields that it has not -/
def encR (m : MD.T) : List UInt8 :=
  if (m.1 : Int) = 4 ∨ (m.1 : Int) = 5 then kb m.1 ++ Num.putT (mName m)
  else if (m.1 : Int) = 6 then kb m.1 ++ encRO (mOp m)
  else if (m.1 : Int) = 7 ∨ (m.1 : Int) = 8 then kb m.1 ++ Num.putN (u64 m.2.1)
  else if (m.1 : Int) = 9 ∨ (m.1 : Int) = 10 then kb m.1 ++ (Num.putN (u64 m.2.1) ++ Num.putT (mType m))
  else if (m.1 : Int) = 11 then kb m.1 ++ Num.putT (mType m)
  else if (m.1 : Int) = 12 then kb m.1 ++ (Num.putT (mType m) ++ Num.putT (mName m) ++ encV (mV m))
  else if (m.1 : Int) = 13 then kb m.1 ++ (Num.putT (mType m) ++ Num.putT (mName m) ++ encV (mV m) ++ encV (mTo m))
  else if (m.1 : Int) = 14 ∨ (m.1 : Int) = 15 then kb m.1 ++ (Num.putT (mType m) ++ Num.putN (u64 (mN m)))
  else if (m.1 : Int) = 16 then kb m.1 ++ encS (mRule m)
  else if (m.1 : Int) = 17 then kb m.1 ++ Num.putN (u64 (mN m))
  else if (m.1 : Int) = 18 ∨ (m.1 : Int) = 19 then kb m.1 ++ (Num.putT (mType m) ++ Num.putT (mName m))
  else kb m.1
end Go.Proofs.YtdhfipjfgigamaaGreatDoor
/- Commands' bytes, field by field: what is put is got; no program in sight. Own work. -/
set_option linter.unusedVariables false
set_option maxRecDepth 100000
namespace Go.Proofs.YtdhfipjfgigamaaGreatDoor
open Go Go.RowKit OE

theorem tx_get {t : List UInt8} {e : Bool} (h : (txS t e).2 = true) {s p r : List UInt8} {k : Int} (hs : s = p ++ (txS t e).1 ++ r) (hk : k = p.length) : Num.getT s k 16 = some (t, (txS t e).1.length) := by
  have hl : t.length ≤ 16 := by
    simp only [txS, Bool.or_eq_true, Bool.and_eq_true, decide_eq_true_eq] at h
    rcases h with h | h
    · exact nameS_len h
    · rw [h.2]; decide
  exact gtS_at p t r hl hs hk
theorem and_id (n : Nat) (h : n ≤ 4611686018427387903) : idN n = (n : Int) := by
  unfold idN
  have := u64_and_nat n 4611686018427387903 (by omega) (by omega)
  rw [show ((4611686018427387903 : Nat) : Int) = 4611686018427387903 from rfl] at this
  rw [this, show (4611686018427387903 : Nat) = 2 ^ 62 - 1 from rfl, Nat.and_two_pow_sub_one_eq_mod, Nat.mod_eq_of_lt (by omega), wr64 _ (by omega) (by omega)]
theorem nu_get {n a b : Int} (h : (nuS n a b).2 = true) (ha : 0 ≤ a) (hb : b ≤ 4611686018427387903) {s p r : List UInt8} {k : Int} (hs : s = p ++ (nuS n a b).1 ++ r) (hk : k = p.length) : Num.getN s k = some (n.toNat, (nuS n a b).1.length) ∧ 0 ≤ n ∧ n ≤ b := by
  simp only [nuS, Bool.and_eq_true, decide_eq_true_eq] at h
  have e : u64 n = n.toNat := u64_of (by omega) (by omega)
  refine ⟨?_, by omega, h.2⟩
  unfold nuS at hs ⊢
  rw [e] at hs ⊢
  rw [hs, hk]
  exact Num.getN_put n.toNat p r (by omega)
theorem nu_id {n a b : Int} (h : (nuS n a b).2 = true) (ha : 0 ≤ a) (hb : b ≤ 4611686018427387903) {s p r : List UInt8} {k : Int} (hs : s = p ++ (nuS n a b).1 ++ r) (hk : k = p.length) : idN (nS s k).1 = n ∧ (nS s k).2 = (nuS n a b).1.length ∧ (Num.getN s k).isSome = true := by
  obtain ⟨g, g0, g1⟩ := nu_get h ha hb hs hk
  have e : nS s k = (n.toNat, (nuS n a b).1.length) := by unfold nS; rw [g]; rfl
  refine ⟨?_, by rw [e], by rw [g]; rfl⟩
  rw [e]
  show idN n.toNat = n
  rw [and_id _ (by omega)]
  omega
theorem va_form {v : VD.T} (h : encV v ≠ []) : blankV v = true ∨ goodV v = true := by
  unfold encV at h
  split at h
  · exact .inl (by assumption)
  · split at h
    · exact .inr (by assumption)
    · exact (h rfl).elim
theorem va_get {v : VD.T} {e : Bool} (hv : Wf VD v) (h : (vaS v e).2 = true) {s p r : List UInt8} {k : Int} (hs : s = p ++ (vaS v e).1 ++ r) (hk : k = p.length) : decV s k = some (v, (vaS v e).1.length) := by
  simp only [vaS, Bool.and_eq_true, Bool.not_eq_true', decide_eq_false_iff_not] at h
  exact decV_enc hv (va_form h.1) p r hs hk
theorem back1p (r : RD.T) (h : okS r = true) (p q : List UInt8) {s : List UInt8} {k : Int} (hs : s = p ++ encS r ++ q) (hk : k = p.length) : decS s k = some (r, (encS r).length) := by
  subst hk
  obtain ⟨i0, i1, k0, k1, n0, n1, s0, s1, t0, t1, t2, t3⟩ := okR h
  have k1 : r.2.1 ≤ 1000000 := Int.le_trans k1 (by decide)
  have n1 : r.2.2.2.2.2.2.1 ≤ 1000000 := Int.le_trans n1 (by decide)
  have s1 : r.2.2.2.2.2.2.2 ≤ 1000000 := Int.le_trans s1 (by decide)
  have k0 : 0 ≤ r.2.1 := Int.le_trans (by decide) k0
  have e : encS r = bytS r := by unfold encS; rw [if_pos h]
  rw [e] at hs ⊢
  have hd : decP s (p.length : Int) = some (r, (bytS r).length) := by
    obtain ⟨x1, x2, x3, x4, x5, x6, x7, x8⟩ := r
    dsimp only at *
    unfold bytS at hs ⊢
    dsimp only at hs ⊢
    have y1 := Int.toNat_of_nonneg i0
    have y2 := Int.toNat_of_nonneg k0
    have y7 := Int.toNat_of_nonneg n0
    have y8 := Int.toNat_of_nonneg s0
    have g1 := gnS_at (s := s) (k := p.length) p x1.toNat (Num.putN x2.toNat ++ Num.putN x8.toNat ++ Num.putN x7.toNat ++ Num.putT x3 ++ Num.putT x4 ++ Num.putT x5 ++ Num.putT x6 ++ q) (toNat_le _ i1) (by rw [hs]; simp only [List.append_assoc]) rfl
    have g2 := gnS_at (s := s) (k := p.length + ((Num.putN x1.toNat).length : Int)) (p ++ Num.putN x1.toNat) x2.toNat (Num.putN x8.toNat ++ Num.putN x7.toNat ++ Num.putT x3 ++ Num.putT x4 ++ Num.putT x5 ++ Num.putT x6 ++ q) (toNat_le _ k1) (by rw [hs]; simp only [List.append_assoc]) (by simp only [List.length_append]; omega)
    have g3 := gnS_at (s := s) (k := p.length + ((Num.putN x1.toNat).length : Int) + ((Num.putN x2.toNat).length : Int)) (p ++ Num.putN x1.toNat ++ Num.putN x2.toNat) x8.toNat (Num.putN x7.toNat ++ Num.putT x3 ++ Num.putT x4 ++ Num.putT x5 ++ Num.putT x6 ++ q) (toNat_le _ s1) (by rw [hs]; simp only [List.append_assoc]) (by simp only [List.length_append]; omega)
    have g4 := gnS_at (s := s) (k := p.length + ((Num.putN x1.toNat).length : Int) + ((Num.putN x2.toNat).length : Int) + ((Num.putN x8.toNat).length : Int)) (p ++ Num.putN x1.toNat ++ Num.putN x2.toNat ++ Num.putN x8.toNat) x7.toNat (Num.putT x3 ++ Num.putT x4 ++ Num.putT x5 ++ Num.putT x6 ++ q) (toNat_le _ n1) (by rw [hs]; simp only [List.append_assoc]) (by simp only [List.length_append]; omega)
    have g5 := gtS_at (s := s) (k := p.length + ((Num.putN x1.toNat).length : Int) + ((Num.putN x2.toNat).length : Int) + ((Num.putN x8.toNat).length : Int) + ((Num.putN x7.toNat).length : Int)) (p ++ Num.putN x1.toNat ++ Num.putN x2.toNat ++ Num.putN x8.toNat ++ Num.putN x7.toNat) x3 (Num.putT x4 ++ Num.putT x5 ++ Num.putT x6 ++ q) t0 (by rw [hs]; simp only [List.append_assoc]) (by simp only [List.length_append]; omega)
    have g6 := gtS_at (s := s) (k := p.length + ((Num.putN x1.toNat).length : Int) + ((Num.putN x2.toNat).length : Int) + ((Num.putN x8.toNat).length : Int) + ((Num.putN x7.toNat).length : Int) + ((Num.putT x3).length : Int)) (p ++ Num.putN x1.toNat ++ Num.putN x2.toNat ++ Num.putN x8.toNat ++ Num.putN x7.toNat ++ Num.putT x3) x4 (Num.putT x5 ++ Num.putT x6 ++ q) t1 (by rw [hs]; simp only [List.append_assoc]) (by simp only [List.length_append]; omega)
    have g7 := gtS_at (s := s) (k := p.length + ((Num.putN x1.toNat).length : Int) + ((Num.putN x2.toNat).length : Int) + ((Num.putN x8.toNat).length : Int) + ((Num.putN x7.toNat).length : Int) + ((Num.putT x3).length : Int) + ((Num.putT x4).length : Int)) (p ++ Num.putN x1.toNat ++ Num.putN x2.toNat ++ Num.putN x8.toNat ++ Num.putN x7.toNat ++ Num.putT x3 ++ Num.putT x4) x5 (Num.putT x6 ++ q) t2 (by rw [hs]; simp only [List.append_assoc]) (by simp only [List.length_append]; omega)
    have g8 := gtS_at (s := s) (k := p.length + ((Num.putN x1.toNat).length : Int) + ((Num.putN x2.toNat).length : Int) + ((Num.putN x8.toNat).length : Int) + ((Num.putN x7.toNat).length : Int) + ((Num.putT x3).length : Int) + ((Num.putT x4).length : Int) + ((Num.putT x5).length : Int)) (p ++ Num.putN x1.toNat ++ Num.putN x2.toNat ++ Num.putN x8.toNat ++ Num.putN x7.toNat ++ Num.putT x3 ++ Num.putT x4 ++ Num.putT x5) x6 q t3 (by rw [hs]; simp only [List.append_assoc]) (by simp only [List.length_append]; omega)
    simp only [decP, g1, g2, g3, g4, g5, g6, g7, g8, List.length_append]
    rw [y1, y2, y7, y8]
  simp only [decS, hd, h, if_true]
theorem ru_ok {r : RD.T} (h : (ruS r).2 = true) : okS r = true ∧ r.1 = 0 ∧ r.2.2.2.2.2.2.2 = 0 := by
  simp only [ruS, Bool.and_eq_true, decide_eq_true_eq] at h
  refine ⟨Decidable.byContradiction fun hn => ?_, h.1.2, h.2⟩
  have := h.1.1
  rw [show errS r = 11 from if_neg hn] at this
  cases this
theorem ru_get {r : RD.T} (h : (ruS r).2 = true) {s p q : List UInt8} {k : Int} (hs : s = p ++ (ruS r).1 ++ q) (hk : k = p.length) : decS s k = some (r, (ruS r).1.length) :=
  back1p r (ru_ok h).1 p q hs hk

/-! a change's fields -/
def setO (x : OD.T) (f : Int) (o : OD.T) : OD.T :=
  if f = 116 ∨ f = 101 then oT x o.2.2.1
  else if f = 110 then oN x o.2.2.2.2.2.1
  else if f = 105 then oI x o.2.1
  else if f = 97 then oF x o.2.2.2.1
  else if f = 98 then oE x o.2.2.2.2.1
  else if f = 118 ∨ f = 119 then oVl x (oV o)
  else oC x o.2.2.2.2.2.2.2
theorem gO_put {o : OD.T} (hv : Wf VD (oV o)) (x : OD.T) {f : Int} (h : (putO o f).2 = true) {s p r : List UInt8} {k : Int} (hs : s = p ++ (putO o f).1 ++ r) (hk : k = p.length) : gO x f s k = (setO x f o, ((putO o f).1.length : Int), true) := by
  unfold gO setO
  generalize hq : putO o f = q at h hs
  unfold putO at hq
  by_cases h1 : f = 116 ∨ f = 101
  · rw [if_pos h1] at hq ⊢; rw [if_pos h1]; subst hq
    have g := tx_get h hs hk
    unfold tS; rw [g]; rfl
  rw [if_neg h1] at hq ⊢; rw [if_neg h1]
  by_cases h2 : f = 110
  · rw [if_pos h2] at hq ⊢; rw [if_pos h2]; subst hq
    have g := tx_get h hs hk
    unfold tS; rw [g]; rfl
  rw [if_neg h2] at hq ⊢; rw [if_neg h2]
  by_cases h3 : f = 105
  · rw [if_pos h3] at hq ⊢; rw [if_pos h3]; subst hq
    obtain ⟨g1, g2, g3⟩ := nu_id h (by decide) (by decide) hs hk
    rw [g1, g2, g3]
  rw [if_neg h3] at hq ⊢; rw [if_neg h3]
  by_cases h4 : f = 97
  · rw [if_pos h4] at hq ⊢; rw [if_pos h4]; subst hq
    obtain ⟨g1, g2, g3⟩ := nu_id h (by decide) (by decide) hs hk
    rw [g1, g2, g3]
  rw [if_neg h4] at hq ⊢; rw [if_neg h4]
  by_cases h5 : f = 98
  · rw [if_pos h5] at hq ⊢; rw [if_pos h5]; subst hq
    obtain ⟨g1, g2, g3⟩ := nu_id h (by decide) (by decide) hs hk
    rw [g1, g2, g3]
  rw [if_neg h5] at hq ⊢; rw [if_neg h5]
  by_cases h6 : f = 118 ∨ f = 119
  · rw [if_pos h6] at hq ⊢; rw [if_pos h6]; subst hq
    have g := va_get hv h hs hk
    unfold vS'; rw [g]; rfl
  rw [if_neg h6] at hq ⊢; rw [if_neg h6]
  have hb : ∃ b : UInt8, q.1 = [b] ∧ decide ((b.toNat : Int) = 1) = o.2.2.2.2.2.2.2 := by
    subst hq
    cases hc : o.2.2.2.2.2.2.2 with
    | true => exact ⟨1, by simp, by decide⟩
    | false => exact ⟨0, by simp, by decide⟩
  obtain ⟨b, hb, hc⟩ := hb
  rw [hb] at hs ⊢
  have hbt := bt_at' p b r (s := s) (k := k) (by rw [hs]; simp) hk
  rw [if_pos (by rw [hs, hk]; simp; omega), hbt, hc]
  rfl
/-! a command's fields -/
theorem fld_put {G : MD.T → Int → Int → MD.T × Int × Bool} {P : Int → List UInt8 × Bool} {S : MD.T → Int → MD.T} {s : List UInt8}
    (hG : ∀ (a : MD.T) (f : Int) (p r : List UInt8) (k : Int), (P f).2 = true → s = p ++ (P f).1 ++ r → k = p.length → G a f k = (S a f, ((P f).1.length : Int), true)) :
    ∀ (l : List UInt8) (a : MD.T) (p r : List UInt8) (k z : Int), (∀ f ∈ l, (P f.toNat).2 = true) → s = p ++ l.flatMap (fun f => (P f.toNat).1) ++ r → k + z = p.length → fldS G l a k z = (l.foldl (fun a f => S a f.toNat) a, z + ((l.flatMap fun f => (P f.toNat).1).length : Int), true)
  | [], a, p, r, k, z, _, _, _ => by simp [fldS]
  | f :: l, a, p, r, k, z, h, hs, hk => by
    have h1 := hG a f.toNat p (l.flatMap (fun f => (P f.toNat).1) ++ r) (k + z) (h f List.mem_cons_self) (by rw [hs]; simp only [List.flatMap_cons, List.append_assoc]) hk
    unfold fldS
    rw [h1, if_pos rfl]
    rw [fld_put hG l _ (p ++ (P f.toNat).1) r k _ (fun g hg => h g (List.mem_cons_of_mem _ hg)) (by rw [hs]; simp only [List.flatMap_cons, List.append_assoc]) (by rw [List.length_append]; dsimp only; omega)]
    simp only [List.flatMap_cons, List.length_append, List.foldl_cons]
    congr 2
    omega
def proO (a : OD.T) (o : OD.T) : OD.T := (gt (d := .str) opsL o.1).foldl (fun x f => setO x f.toNat o) (oK a o.1)
theorem fold_sO (o : OD.T) : ∀ (l : List UInt8) (m : MD.T), l.foldl (fun (a : MD.T) f => sO a (setO (mOp a) f.toNat o)) m = sO m (l.foldl (fun x f => setO x f.toNat o) (mOp m))
  | [], m => rfl
  | f :: l, m => by
    simp only [List.foldl_cons]
    rw [fold_sO o l]
    rfl
theorem bt_first (k : Int) (h0 : 0 ≤ k) (h1 : k < 256) (p r : List UInt8) : bt (p ++ byl [IntKind.wrap .u8 k] ++ r) p.length = k := by
  have e : byl [IntKind.wrap .u8 k] = [UInt8.ofNat k.toNat] := by
    have h : IntKind.wrap .u8 k = k := by rw [wru8]; omega
    show [UInt8.ofNat (IntKind.wrap .u8 k).toNat] = _
    rw [h]
  rw [e, bt_at' p (UInt8.ofNat k.toNat) r (by simp) rfl]
  simp
  omega
theorem chg_form {o : OD.T} (h : (chgS o).2 = true) : ∃ K : Int, o.1 = K ∧ 0 ≤ K ∧ K < 6 ∧ (∀ f ∈ gt (d := .str) opsL K, (putO o f.toNat).2 = true) ∧ (chgS o).1 = byl [IntKind.wrap .u8 K] ++ (gt (d := .str) opsL K).flatMap fun f => (putO o f.toNat).1 := by
  unfold chgS at h ⊢
  split at h
  · cases h
  rename_i hc
  rw [if_neg hc]
  have h0 : 0 ≤ (o.1 : Int) := Int.not_lt.1 fun h => hc (.inl h)
  have h1 : (o.1 : Int) < 6 := Int.not_le.1 fun h => hc (.inr (.inl h))
  unfold allS at h ⊢
  split at h
  · rename_i hall
    rw [if_pos hall]
    exact ⟨o.1, rfl, h0, h1, List.all_eq_true.1 hall, rfl⟩
  · cases h
theorem ch_put {o : OD.T} (hv : Wf VD (oV o)) (m : MD.T) (h : (chgS o).2 = true) {s p r : List UInt8} {k : Int} (hs : s = p ++ (chgS o).1 ++ r) (hk : k = p.length) : chR s m k = (sO m (proO (mOp m) o), ((chgS o).1.length : Int), true) := by
  obtain ⟨K, hK, h0, h1, h2, h3⟩ := chg_form h
  have hP : proO (mOp m) o = (gt (d := .str) opsL K).foldl (fun x f => setO x f.toNat o) (oK (mOp m) K) := by unfold proO; rw [hK]
  rw [h3] at hs ⊢
  have hl : (byl [IntKind.wrap .u8 K]).length = 1 := rfl
  have hb : bt s k = K := by
    have := bt_first K h0 (by omega) p ((gt (d := .str) opsL K).flatMap (fun f => (putO o f.toNat).1) ++ r)
    rw [hs, hk, ← List.append_assoc, List.append_assoc (p ++ byl [IntKind.wrap .u8 K])]
    exact this
  have hf := fld_put (G := goM s) (P := putO o) (S := fun a f => sO a (setO (mOp a) f o)) (s := s) (fun a f p r k h hs hk => by
    unfold goM
    rw [gO_put hv (mOp a) h hs hk]) (gt (d := .str) opsL K) (sO m (oK (mOp m) K)) (p ++ byl [IntKind.wrap .u8 K]) r (k + 1) 0 h2 (by rw [hs]; simp only [List.append_assoc]) (by rw [List.length_append, hl, hk]; omega)
  have hlen : k < s.length := by rw [hs, hk]; simp only [List.length_append, hl]; omega
  unfold chR
  rw [hb, if_neg (by omega), hf, fold_sO, hP]
  simp only [List.length_append, hl]
  have e : (0 : Int) + (((gt (d := .str) opsL K).flatMap fun f => (putO o f.toNat).1).length : Int) + 1 = ((1 + ((gt (d := .str) opsL K).flatMap fun f => (putO o f.toNat).1).length : Nat) : Int) := by omega
  rw [e]
  rfl
def setM (a : MD.T) (f : Int) (m : MD.T) : MD.T :=
  if f = 116 ∨ f = 101 then mT a (mType m)
  else if f = 110 then mNm a (mName m)
  else if f = 105 then mI a m.2.1
  else if f = 118 ∨ f = 119 then mVl a (mV m)
  else if f = 120 then mW a (mTo m)
  else if f = 107 ∨ f = 109 then mM a (mN m)
  else if f = 114 then mR a (mRule m)
  else sO a (proO (mOp a) (mOp m))
theorem mi_id {n : Int} (h0 : 0 ≤ n) (h1 : n ≤ 1000000) : miN n.toNat = n := by
  unfold miN
  rw [if_neg (by omega), wr64 _ (by omega) (by omega)]
  omega
theorem nu_mi {n a b : Int} (h : (nuS n a b).2 = true) (ha : 0 ≤ a) (hb : b ≤ 1000000) {s p r : List UInt8} {k : Int} (hs : s = p ++ (nuS n a b).1 ++ r) (hk : k = p.length) : miN (nS s k).1 = n ∧ (nS s k).2 = (nuS n a b).1.length ∧ (Num.getN s k).isSome = true := by
  obtain ⟨g, g0, g1⟩ := nu_get h ha (by omega) hs hk
  have e : nS s k = (n.toNat, (nuS n a b).1.length) := by unfold nS; rw [g]; rfl
  refine ⟨?_, by rw [e], by rw [g]; rfl⟩
  rw [e]
  exact mi_id g0 (by omega)
theorem gM_put {m : MD.T} (hm : SmC m) (a : MD.T) {f : Int} (h : (putM m f).2 = true) {s p r : List UInt8} {k : Int} (hs : s = p ++ (putM m f).1 ++ r) (hk : k = p.length) : gM s a f k = (setM a f m, ((putM m f).1.length : Int), true) := by
  unfold gM setM
  generalize hq : putM m f = q at h hs
  unfold putM at hq
  by_cases h1 : f = 116 ∨ f = 101
  · rw [if_pos h1] at hq ⊢; rw [if_pos h1]; subst hq
    have g := tx_get h hs hk
    unfold tS; rw [g]; rfl
  rw [if_neg h1] at hq ⊢; rw [if_neg h1]
  by_cases h2 : f = 110
  · rw [if_pos h2] at hq ⊢; rw [if_pos h2]; subst hq
    have g := tx_get h hs hk
    unfold tS; rw [g]; rfl
  rw [if_neg h2] at hq ⊢; rw [if_neg h2]
  by_cases h3 : f = 105
  · rw [if_pos h3] at hq ⊢; rw [if_pos h3]; subst hq
    obtain ⟨g1, g2, g3⟩ := nu_id h (by decide) (by decide) hs hk
    rw [g1, g2, g3]
  rw [if_neg h3] at hq ⊢; rw [if_neg h3]
  by_cases h6 : f = 118 ∨ f = 119
  · rw [if_pos h6] at hq ⊢; rw [if_pos h6]; subst hq
    have g := va_get hm.v h hs hk
    unfold vS'; rw [g]; rfl
  rw [if_neg h6] at hq ⊢; rw [if_neg h6]
  by_cases h7 : f = 120
  · rw [if_pos h7] at hq ⊢; rw [if_pos h7]; subst hq
    have g := va_get hm.to h hs hk
    unfold vS'; rw [g]; rfl
  rw [if_neg h7] at hq ⊢; rw [if_neg h7]
  by_cases h8 : f = 107
  · rw [if_pos h8] at hq; rw [if_pos (.inl h8), if_pos (.inl h8)]; subst hq
    obtain ⟨g1, g2, g3⟩ := nu_mi h (by decide) (by decide) hs hk
    rw [g1, g2, g3]
  rw [if_neg h8] at hq
  by_cases h9 : f = 109
  · rw [if_pos h9] at hq; rw [if_pos (.inr h9), if_pos (.inr h9)]; subst hq
    obtain ⟨g1, g2, g3⟩ := nu_mi h (by decide) (by decide) hs hk
    rw [g1, g2, g3]
  have h89 : ¬ (f = 107 ∨ f = 109) := fun h => h.elim h8 h9
  rw [if_neg h9] at hq
  rw [if_neg h89, if_neg h89]
  by_cases h10 : f = 114
  · rw [if_pos h10] at hq ⊢; rw [if_pos h10]; subst hq
    have g := ru_get h hs hk
    unfold rS'; rw [g]; rfl
  rw [if_neg h10] at hq ⊢; rw [if_neg h10]
  subst hq
  exact ch_put hm.ov a h hs hk
/-- what a command's bytes are read as: its kind's fields alone -/
def proM (m : MD.T) : MD.T := (gt (d := .str) cmdL m.1).foldl (fun a f => setM a f.toNat m) (m0 m.1)
theorem byt_form {m : MD.T} (h : (bytM m).2 = true) : ∃ K : Int, m.1 = K ∧ 1 ≤ K ∧ K < 21 ∧ (∀ f ∈ gt (d := .str) cmdL K, (putM m f.toNat).2 = true) ∧ (bytM m).1 = byl [IntKind.wrap .u8 K] ++ (gt (d := .str) cmdL K).flatMap fun f => (putM m f.toNat).1 := by
  unfold bytM at h ⊢
  split at h
  · cases h
  rename_i hc
  rw [if_neg hc]
  have hk : knownM m.1 = true := by
    cases hh : knownM m.1 with
    | true => rfl
    | false => exact (hc hh).elim
  have hk : 1 ≤ (m.1 : Int) ∧ (m.1 : Int) < 21 := by simpa [knownM] using hk
  unfold allS at h ⊢
  split at h
  · rename_i hall
    rw [if_pos hall]
    exact ⟨m.1, rfl, hk.1, hk.2, List.all_eq_true.1 hall, rfl⟩
  · cases h
theorem read_put {m : MD.T} (hm : SmC m) (h : (bytM m).2 = true) : readS (bytM m).1 = (proM m, true) := by
  obtain ⟨K, hK, h0, h1, h2, h3⟩ := byt_form h
  have hP : proM m = (gt (d := .str) cmdL K).foldl (fun a f => setM a f.toNat m) (m0 K) := by unfold proM; rw [hK]
  have hl : (byl [IntKind.wrap .u8 K]).length = 1 := rfl
  generalize (bytM m).1 = s at h3
  have hb : bt s 0 = K := by
    have := bt_first K (by omega) (by omega) [] ((gt (d := .str) cmdL K).flatMap (fun f => (putM m f.toNat).1))
    rw [h3]; exact this
  have hf := fld_put (G := gM s) (P := putM m) (S := fun a f => setM a f m) (s := s) (fun a f p r k h hs hk => gM_put hm a h hs hk) (gt (d := .str) cmdL K) (m0 K) (byl [IntKind.wrap .u8 K]) [] 1 0 h2 (by rw [h3]; simp) (by rw [hl]; rfl)
  have hc : ¬ (s = [] ∨ knownM (bt s 0) = false) := by
    rintro (e | e)
    · have := congrArg List.length h3
      rw [e, List.length_append, hl] at this
      simp at this
      omega
    · rw [hb] at e
      have : knownM K = true := by simp [knownM]; omega
      rw [this] at e; cases e
  unfold readS
  rw [if_neg hc, hb, hf, hP]
theorem good_pro {m : MD.T} (hm : SmC m) : goodM m = ((bytM m).2 && MD.eqb (proM m) m) := by
  unfold goodM
  cases h : (bytM m).2 with
  | false => rfl
  | true => rw [read_put hm h]; rfl
end Go.Proofs.YtdhfipjfgigamaaGreatDoor
/- The reference's form and bytes of commands are the program's. Printed by genwgood.py. Own work. -/
set_option linter.unusedVariables false
set_option linter.unusedSimpArgs false
set_option maxRecDepth 100000
namespace Go.Proofs.YtdhfipjfgigamaaGreatDoor
open Go Go.RowKit OE

theorem allS_2 (P : Int → List UInt8 × Bool) (k : Int) (l : List UInt8) : (allS P k l).2 = l.all fun f => (P f.toNat).2 := by
  unfold allS
  cases h : (l.all fun f => (P f.toNat).2) <;> simp
theorem allS_1 {P : Int → List UInt8 × Bool} {k : Int} {l : List UInt8} (h : (allS P k l).2 = true) : (allS P k l).1 = byl [k] ++ l.flatMap fun f => (P f.toNat).1 := by
  rw [allS_2] at h
  unfold allS
  rw [if_pos h]
theorem tx_f (t : List UInt8) : (txS t false).2 = nameS t := by simp [txS]
theorem tx_e (t : List UInt8) : (txS t true).2 = (decide (t = []) || nameS t) := by simp [txS, Bool.or_comm]
theorem nu_i (n : Int) : (nuS n 0 4611686018427387903).2 = okId n := rfl
theorem nu_k (n : Int) : (nuS n 1 2).2 = (decide (n = 1) || decide (n = 2)) := by
  rw [Bool.eq_iff_iff]; simp [nuS]; omega
theorem nu_m (n : Int) : (nuS n 0 1000000).2 = (decide (0 ≤ n) && decide (n ≤ 1000000)) := rfl
theorem good_kind {v : VD.T} (h : goodV v = true) : v.1 ≠ 0 := fun h0 => by
  unfold goodV at h
  rw [h0] at h
  simp at h
theorem enc_good {v : VD.T} (h : goodV v = true) : encV v ≠ [] := by
  have hb : ¬ blankV v = true := fun hb => by
    simp only [blankV, Bool.and_eq_true, decide_eq_true_eq] at hb
    exact good_kind h hb.1.1
  unfold encV
  rw [if_neg hb, if_pos h]
  split
  · exact fun e => by cases e
  · split <;> exact fun e => by cases e
theorem enc_blank {v : VD.T} (h : blankV v = true) : encV v ≠ [] := by
  unfold encV
  rw [if_pos h]
  exact fun e => by cases e
theorem va_f (v : VD.T) : (vaS v false).2 = goodV v := by
  rw [Bool.eq_iff_iff]
  simp only [vaS, Bool.false_or, Bool.and_eq_true, Bool.not_eq_true', decide_eq_false_iff_not]
  constructor
  · rintro ⟨h1, h2⟩
    rcases va_form h1 with h | h
    · simp only [blankV, Bool.and_eq_true, decide_eq_true_eq] at h
      exact (h2 h.1.1).elim
    · exact h
  · exact fun h => ⟨enc_good h, good_kind h⟩
theorem va_t (v : VD.T) : (vaS v true).2 = okVal v := by
  rw [Bool.eq_iff_iff]
  simp only [vaS, okVal, Bool.true_or, Bool.and_true, Bool.or_eq_true, Bool.not_eq_true', decide_eq_false_iff_not]
  constructor
  · exact fun h => (va_form h).symm
  · rintro (h | h)
    · exact enc_good h
    · exact enc_blank h
theorem ru_f (r : RD.T) : (ruS r).2 = (formS r && decide (r.1 = 0) && decide (r.2.2.2.2.2.2.2 = 0)) := by
  rw [Bool.eq_iff_iff]
  simp only [Bool.and_eq_true, decide_eq_true_eq]
  constructor
  · intro h
    obtain ⟨h1, h2, h3⟩ := ru_ok h
    simp only [okS, Bool.and_eq_true] at h1
    exact ⟨⟨h1.1.1.1.1, h2⟩, h3⟩
  · rintro ⟨⟨h1, h2⟩, h3⟩
    have ho : okS r = true := by simp [okS, h1, h2, h3]
    simp only [ruS, Bool.and_eq_true, decide_eq_true_eq]
    exact ⟨⟨if_pos ho, h2⟩, h3⟩
theorem opq1 (i : Int) (t : List UInt8) (f e : Int) (n : List UInt8) (v : VD.T) (c : Bool) : (chgS (1, i, t, f, e, n, v, c)).2 = (opN (1, i, t, f, e, n, v, c)).2 ∧ ((chgS (1, i, t, f, e, n, v, c)).2 = true → (chgS (1, i, t, f, e, n, v, c)).1 = encRO (1, i, t, f, e, n, v, c)) := by
  rw [show chgS (1, i, t, f, e, n, v, c) = allS (putO (1, i, t, f, e, n, v, c)) (IntKind.wrap .u8 1) [116] from rfl]
  refine ⟨?_, fun h => ?_⟩
  · rw [allS_2]
    show ((txS t false).2 && true) = nameS t
    simp only [tx_f, tx_e, nu_i, nu_k, nu_m, va_f, va_t, ru_f, Bool.and_true, Bool.and_assoc]
  · rw [allS_1 h]
    show byl [IntKind.wrap .u8 1] ++ ((txS t false).1 ++ []) = (kb 1 ++ Num.putT t)
    simp only [txS, nuS, vaS, ruS, kb, List.append_assoc, List.append_nil]
theorem opq3 (i : Int) (t : List UInt8) (f e : Int) (n : List UInt8) (v : VD.T) (c : Bool) : (chgS (3, i, t, f, e, n, v, c)).2 = (opN (3, i, t, f, e, n, v, c)).2 ∧ ((chgS (3, i, t, f, e, n, v, c)).2 = true → (chgS (3, i, t, f, e, n, v, c)).1 = encRO (3, i, t, f, e, n, v, c)) := by
  rw [show chgS (3, i, t, f, e, n, v, c) = allS (putO (3, i, t, f, e, n, v, c)) (IntKind.wrap .u8 3) [116, 97, 98] from rfl]
  refine ⟨?_, fun h => ?_⟩
  · rw [allS_2]
    show ((txS t false).2 && ((nuS f 0 4611686018427387903).2 && ((nuS e 0 4611686018427387903).2 && true))) = ((nameS t && okId f) && okId e)
    simp only [tx_f, tx_e, nu_i, nu_k, nu_m, va_f, va_t, ru_f, Bool.and_true, Bool.and_assoc]
  · rw [allS_1 h]
    show byl [IntKind.wrap .u8 3] ++ ((txS t false).1 ++ ((nuS f 0 4611686018427387903).1 ++ ((nuS e 0 4611686018427387903).1 ++ []))) = (((kb 3 ++ Num.putT t) ++ Num.putN (u64 f)) ++ Num.putN (u64 e))
    simp only [txS, nuS, vaS, ruS, kb, List.append_assoc, List.append_nil]
theorem opq4 (i : Int) (t : List UInt8) (f e : Int) (n : List UInt8) (v : VD.T) (c : Bool) : (chgS (4, i, t, f, e, n, v, c)).2 = (opN (4, i, t, f, e, n, v, c)).2 ∧ ((chgS (4, i, t, f, e, n, v, c)).2 = true → (chgS (4, i, t, f, e, n, v, c)).1 = encRO (4, i, t, f, e, n, v, c)) := by
  rw [show chgS (4, i, t, f, e, n, v, c) = allS (putO (4, i, t, f, e, n, v, c)) (IntKind.wrap .u8 4) [105] from rfl]
  refine ⟨?_, fun h => ?_⟩
  · rw [allS_2]
    show ((nuS i 0 4611686018427387903).2 && true) = okId i
    simp only [tx_f, tx_e, nu_i, nu_k, nu_m, va_f, va_t, ru_f, Bool.and_true, Bool.and_assoc]
  · rw [allS_1 h]
    show byl [IntKind.wrap .u8 4] ++ ((nuS i 0 4611686018427387903).1 ++ []) = (kb 4 ++ Num.putN (u64 i))
    simp only [txS, nuS, vaS, ruS, kb, List.append_assoc, List.append_nil]
theorem opq5 (i : Int) (t : List UInt8) (f e : Int) (n : List UInt8) (v : VD.T) (c : Bool) : (chgS (5, i, t, f, e, n, v, c)).2 = (opN (5, i, t, f, e, n, v, c)).2 ∧ ((chgS (5, i, t, f, e, n, v, c)).2 = true → (chgS (5, i, t, f, e, n, v, c)).1 = encRO (5, i, t, f, e, n, v, c)) := by
  rw [show chgS (5, i, t, f, e, n, v, c) = allS (putO (5, i, t, f, e, n, v, c)) (IntKind.wrap .u8 5) [105, 110, 119] from rfl]
  refine ⟨?_, fun h => ?_⟩
  · rw [allS_2]
    show ((nuS i 0 4611686018427387903).2 && ((txS n false).2 && ((vaS v true).2 && true))) = ((okId i && nameS n) && okVal v)
    simp only [tx_f, tx_e, nu_i, nu_k, nu_m, va_f, va_t, ru_f, Bool.and_true, Bool.and_assoc]
  · rw [allS_1 h]
    show byl [IntKind.wrap .u8 5] ++ ((nuS i 0 4611686018427387903).1 ++ ((txS n false).1 ++ ((vaS v true).1 ++ []))) = (((kb 5 ++ Num.putN (u64 i)) ++ Num.putT n) ++ encV v)
    simp only [txS, nuS, vaS, ruS, kb, List.append_assoc, List.append_nil]
theorem opq2 (i : Int) (t : List UInt8) (f e : Int) (n : List UInt8) (v : VD.T) (c : Bool) : (chgS (2, i, t, f, e, n, v, c)).2 = (opN (2, i, t, f, e, n, v, c)).2 ∧ ((chgS (2, i, t, f, e, n, v, c)).2 = true → (chgS (2, i, t, f, e, n, v, c)).1 = encRO (2, i, t, f, e, n, v, c)) := by
  rw [show chgS (2, i, t, f, e, n, v, c) = allS (putO (2, i, t, f, e, n, v, c)) (IntKind.wrap .u8 2) [105, 99] from rfl]
  refine ⟨?_, fun h => ?_⟩
  · rw [allS_2]
    cases c
    all_goals show ((nuS i 0 4611686018427387903).2 && (true && true)) = okId i
    all_goals simp only [nu_i, Bool.and_true]
  · rw [allS_1 h]
    cases c
    · show byl [IntKind.wrap .u8 2] ++ ((nuS i 0 4611686018427387903).1 ++ (kb 0 ++ [])) = kb 2 ++ Num.putN (u64 i) ++ kb 0
      simp only [nuS, kb, List.append_assoc, List.append_nil]
    · show byl [IntKind.wrap .u8 2] ++ ((nuS i 0 4611686018427387903).1 ++ (kb 1 ++ [])) = kb 2 ++ Num.putN (u64 i) ++ kb 1
      simp only [nuS, kb, List.append_assoc, List.append_nil]
theorem opq (o : OD.T) : (chgS o).2 = (opN o).2 ∧ ((chgS o).2 = true → (chgS o).1 = encRO o ∧ proO OD.df o = (opN o).1) := by
  obtain ⟨k, i, t, f, e, n, v, c⟩ := o
  have hk : ∀ k' : Int, k' = k → (k' < 0 ∨ 6 ≤ k' ∨ k' = 0) ∨ k' = 1 ∨ k' = 2 ∨ k' = 3 ∨ k' = 4 ∨ k' = 5 := fun k' _ => by omega
  rcases hk k rfl with h | rfl | rfl | rfl | rfl | rfl
  · have hc : (chgS (k, i, t, f, e, n, v, c)).2 = false := by
      rw [show chgS (k, i, t, f, e, n, v, c) = ([], false) from if_pos (by
        rcases h with h | h | h
        · exact .inl h
        · exact .inr (.inl h)
        · exact .inr (.inr (by rw [show (k, i, t, f, e, n, v, c).1 = k from rfl, h]; rfl)))]
    have ho : (opN (k, i, t, f, e, n, v, c)).2 = false := by
      have hn : ∀ k' : Int, (k' < 0 ∨ 6 ≤ k' ∨ k' = 0) → ¬ k' = 1 ∧ ¬ k' = 2 ∧ ¬ k' = 3 ∧ ¬ k' = 4 ∧ ¬ k' = 5 := fun k' _ => by omega
      obtain ⟨n1, n2, n3, n4, n5⟩ := hn k h
      unfold opN
      rw [if_neg n1, if_neg n2, if_neg n3, if_neg n4, if_neg n5]
    rw [hc, ho]
    exact ⟨rfl, fun h => by cases h⟩
  · exact ⟨(opq1 i t f e n v c).1, fun h => ⟨(opq1 i t f e n v c).2 h, rfl⟩⟩
  · exact ⟨(opq2 i t f e n v c).1, fun h => ⟨(opq2 i t f e n v c).2 h, rfl⟩⟩
  · exact ⟨(opq3 i t f e n v c).1, fun h => ⟨(opq3 i t f e n v c).2 h, rfl⟩⟩
  · exact ⟨(opq4 i t f e n v c).1, fun h => ⟨(opq4 i t f e n v c).2 h, rfl⟩⟩
  · exact ⟨(opq5 i t f e n v c).1, fun h => ⟨(opq5 i t f e n v c).2 h, rfl⟩⟩
theorem cmq1 (i : Int) (t n : List UInt8) (v w : VD.T) (N : Int) (o : OD.T) (r : RD.T) : (bytM (1, i, t, n, v, w, N, o, r)).2 = (cmN (1, i, t, n, v, w, N, o, r)).2 ∧ ((bytM (1, i, t, n, v, w, N, o, r)).2 = true → (bytM (1, i, t, n, v, w, N, o, r)).1 = encR (1, i, t, n, v, w, N, o, r)) := by
  rw [show bytM (1, i, t, n, v, w, N, o, r) = allS (putM (1, i, t, n, v, w, N, o, r)) (IntKind.wrap .u8 1) [] from rfl]
  refine ⟨?_, fun h => ?_⟩
  · rw [allS_2]
    rfl
  · rw [allS_1 h]
    show byl [IntKind.wrap .u8 1] ++ [] = kb 1
    simp only [txS, nuS, vaS, ruS, kb, List.append_assoc, List.append_nil]
theorem cmq2 (i : Int) (t n : List UInt8) (v w : VD.T) (N : Int) (o : OD.T) (r : RD.T) : (bytM (2, i, t, n, v, w, N, o, r)).2 = (cmN (2, i, t, n, v, w, N, o, r)).2 ∧ ((bytM (2, i, t, n, v, w, N, o, r)).2 = true → (bytM (2, i, t, n, v, w, N, o, r)).1 = encR (2, i, t, n, v, w, N, o, r)) := by
  rw [show bytM (2, i, t, n, v, w, N, o, r) = allS (putM (2, i, t, n, v, w, N, o, r)) (IntKind.wrap .u8 2) [] from rfl]
  refine ⟨?_, fun h => ?_⟩
  · rw [allS_2]
    rfl
  · rw [allS_1 h]
    show byl [IntKind.wrap .u8 2] ++ [] = kb 2
    simp only [txS, nuS, vaS, ruS, kb, List.append_assoc, List.append_nil]
theorem cmq3 (i : Int) (t n : List UInt8) (v w : VD.T) (N : Int) (o : OD.T) (r : RD.T) : (bytM (3, i, t, n, v, w, N, o, r)).2 = (cmN (3, i, t, n, v, w, N, o, r)).2 ∧ ((bytM (3, i, t, n, v, w, N, o, r)).2 = true → (bytM (3, i, t, n, v, w, N, o, r)).1 = encR (3, i, t, n, v, w, N, o, r)) := by
  rw [show bytM (3, i, t, n, v, w, N, o, r) = allS (putM (3, i, t, n, v, w, N, o, r)) (IntKind.wrap .u8 3) [] from rfl]
  refine ⟨?_, fun h => ?_⟩
  · rw [allS_2]
    rfl
  · rw [allS_1 h]
    show byl [IntKind.wrap .u8 3] ++ [] = kb 3
    simp only [txS, nuS, vaS, ruS, kb, List.append_assoc, List.append_nil]
theorem cmq4 (i : Int) (t n : List UInt8) (v w : VD.T) (N : Int) (o : OD.T) (r : RD.T) : (bytM (4, i, t, n, v, w, N, o, r)).2 = (cmN (4, i, t, n, v, w, N, o, r)).2 ∧ ((bytM (4, i, t, n, v, w, N, o, r)).2 = true → (bytM (4, i, t, n, v, w, N, o, r)).1 = encR (4, i, t, n, v, w, N, o, r)) := by
  rw [show bytM (4, i, t, n, v, w, N, o, r) = allS (putM (4, i, t, n, v, w, N, o, r)) (IntKind.wrap .u8 4) [110] from rfl]
  refine ⟨?_, fun h => ?_⟩
  · rw [allS_2]
    show ((txS n false).2 && true) = nameS n
    simp only [tx_f, tx_e, nu_i, nu_k, nu_m, va_f, va_t, ru_f, Bool.and_true, Bool.and_assoc]
  · rw [allS_1 h]
    show byl [IntKind.wrap .u8 4] ++ ((txS n false).1 ++ []) = kb 4 ++ Num.putT n
    simp only [txS, nuS, vaS, ruS, kb, List.append_assoc, List.append_nil]
theorem cmq5 (i : Int) (t n : List UInt8) (v w : VD.T) (N : Int) (o : OD.T) (r : RD.T) : (bytM (5, i, t, n, v, w, N, o, r)).2 = (cmN (5, i, t, n, v, w, N, o, r)).2 ∧ ((bytM (5, i, t, n, v, w, N, o, r)).2 = true → (bytM (5, i, t, n, v, w, N, o, r)).1 = encR (5, i, t, n, v, w, N, o, r)) := by
  rw [show bytM (5, i, t, n, v, w, N, o, r) = allS (putM (5, i, t, n, v, w, N, o, r)) (IntKind.wrap .u8 5) [110] from rfl]
  refine ⟨?_, fun h => ?_⟩
  · rw [allS_2]
    show ((txS n false).2 && true) = nameS n
    simp only [tx_f, tx_e, nu_i, nu_k, nu_m, va_f, va_t, ru_f, Bool.and_true, Bool.and_assoc]
  · rw [allS_1 h]
    show byl [IntKind.wrap .u8 5] ++ ((txS n false).1 ++ []) = kb 5 ++ Num.putT n
    simp only [txS, nuS, vaS, ruS, kb, List.append_assoc, List.append_nil]
theorem cmq7 (i : Int) (t n : List UInt8) (v w : VD.T) (N : Int) (o : OD.T) (r : RD.T) : (bytM (7, i, t, n, v, w, N, o, r)).2 = (cmN (7, i, t, n, v, w, N, o, r)).2 ∧ ((bytM (7, i, t, n, v, w, N, o, r)).2 = true → (bytM (7, i, t, n, v, w, N, o, r)).1 = encR (7, i, t, n, v, w, N, o, r)) := by
  rw [show bytM (7, i, t, n, v, w, N, o, r) = allS (putM (7, i, t, n, v, w, N, o, r)) (IntKind.wrap .u8 7) [105] from rfl]
  refine ⟨?_, fun h => ?_⟩
  · rw [allS_2]
    show ((nuS i 0 4611686018427387903).2 && true) = okId i
    simp only [tx_f, tx_e, nu_i, nu_k, nu_m, va_f, va_t, ru_f, Bool.and_true, Bool.and_assoc]
  · rw [allS_1 h]
    show byl [IntKind.wrap .u8 7] ++ ((nuS i 0 4611686018427387903).1 ++ []) = kb 7 ++ Num.putN (u64 i)
    simp only [txS, nuS, vaS, ruS, kb, List.append_assoc, List.append_nil]
theorem cmq8 (i : Int) (t n : List UInt8) (v w : VD.T) (N : Int) (o : OD.T) (r : RD.T) : (bytM (8, i, t, n, v, w, N, o, r)).2 = (cmN (8, i, t, n, v, w, N, o, r)).2 ∧ ((bytM (8, i, t, n, v, w, N, o, r)).2 = true → (bytM (8, i, t, n, v, w, N, o, r)).1 = encR (8, i, t, n, v, w, N, o, r)) := by
  rw [show bytM (8, i, t, n, v, w, N, o, r) = allS (putM (8, i, t, n, v, w, N, o, r)) (IntKind.wrap .u8 8) [105] from rfl]
  refine ⟨?_, fun h => ?_⟩
  · rw [allS_2]
    show ((nuS i 0 4611686018427387903).2 && true) = okId i
    simp only [tx_f, tx_e, nu_i, nu_k, nu_m, va_f, va_t, ru_f, Bool.and_true, Bool.and_assoc]
  · rw [allS_1 h]
    show byl [IntKind.wrap .u8 8] ++ ((nuS i 0 4611686018427387903).1 ++ []) = kb 8 ++ Num.putN (u64 i)
    simp only [txS, nuS, vaS, ruS, kb, List.append_assoc, List.append_nil]
theorem cmq9 (i : Int) (t n : List UInt8) (v w : VD.T) (N : Int) (o : OD.T) (r : RD.T) : (bytM (9, i, t, n, v, w, N, o, r)).2 = (cmN (9, i, t, n, v, w, N, o, r)).2 ∧ ((bytM (9, i, t, n, v, w, N, o, r)).2 = true → (bytM (9, i, t, n, v, w, N, o, r)).1 = encR (9, i, t, n, v, w, N, o, r)) := by
  rw [show bytM (9, i, t, n, v, w, N, o, r) = allS (putM (9, i, t, n, v, w, N, o, r)) (IntKind.wrap .u8 9) [105, 101] from rfl]
  refine ⟨?_, fun h => ?_⟩
  · rw [allS_2]
    show ((nuS i 0 4611686018427387903).2 && ((txS t true).2 && true)) = (okId i && (decide (t = []) || nameS t))
    simp only [tx_f, tx_e, nu_i, nu_k, nu_m, va_f, va_t, ru_f, Bool.and_true, Bool.and_assoc]
  · rw [allS_1 h]
    show byl [IntKind.wrap .u8 9] ++ ((nuS i 0 4611686018427387903).1 ++ ((txS t true).1 ++ [])) = kb 9 ++ (Num.putN (u64 i) ++ Num.putT t)
    simp only [txS, nuS, vaS, ruS, kb, List.append_assoc, List.append_nil]
theorem cmq10 (i : Int) (t n : List UInt8) (v w : VD.T) (N : Int) (o : OD.T) (r : RD.T) : (bytM (10, i, t, n, v, w, N, o, r)).2 = (cmN (10, i, t, n, v, w, N, o, r)).2 ∧ ((bytM (10, i, t, n, v, w, N, o, r)).2 = true → (bytM (10, i, t, n, v, w, N, o, r)).1 = encR (10, i, t, n, v, w, N, o, r)) := by
  rw [show bytM (10, i, t, n, v, w, N, o, r) = allS (putM (10, i, t, n, v, w, N, o, r)) (IntKind.wrap .u8 10) [105, 101] from rfl]
  refine ⟨?_, fun h => ?_⟩
  · rw [allS_2]
    show ((nuS i 0 4611686018427387903).2 && ((txS t true).2 && true)) = (okId i && (decide (t = []) || nameS t))
    simp only [tx_f, tx_e, nu_i, nu_k, nu_m, va_f, va_t, ru_f, Bool.and_true, Bool.and_assoc]
  · rw [allS_1 h]
    show byl [IntKind.wrap .u8 10] ++ ((nuS i 0 4611686018427387903).1 ++ ((txS t true).1 ++ [])) = kb 10 ++ (Num.putN (u64 i) ++ Num.putT t)
    simp only [txS, nuS, vaS, ruS, kb, List.append_assoc, List.append_nil]
theorem cmq11 (i : Int) (t n : List UInt8) (v w : VD.T) (N : Int) (o : OD.T) (r : RD.T) : (bytM (11, i, t, n, v, w, N, o, r)).2 = (cmN (11, i, t, n, v, w, N, o, r)).2 ∧ ((bytM (11, i, t, n, v, w, N, o, r)).2 = true → (bytM (11, i, t, n, v, w, N, o, r)).1 = encR (11, i, t, n, v, w, N, o, r)) := by
  rw [show bytM (11, i, t, n, v, w, N, o, r) = allS (putM (11, i, t, n, v, w, N, o, r)) (IntKind.wrap .u8 11) [116] from rfl]
  refine ⟨?_, fun h => ?_⟩
  · rw [allS_2]
    show ((txS t false).2 && true) = nameS t
    simp only [tx_f, tx_e, nu_i, nu_k, nu_m, va_f, va_t, ru_f, Bool.and_true, Bool.and_assoc]
  · rw [allS_1 h]
    show byl [IntKind.wrap .u8 11] ++ ((txS t false).1 ++ []) = kb 11 ++ Num.putT t
    simp only [txS, nuS, vaS, ruS, kb, List.append_assoc, List.append_nil]
theorem cmq12 (i : Int) (t n : List UInt8) (v w : VD.T) (N : Int) (o : OD.T) (r : RD.T) : (bytM (12, i, t, n, v, w, N, o, r)).2 = (cmN (12, i, t, n, v, w, N, o, r)).2 ∧ ((bytM (12, i, t, n, v, w, N, o, r)).2 = true → (bytM (12, i, t, n, v, w, N, o, r)).1 = encR (12, i, t, n, v, w, N, o, r)) := by
  rw [show bytM (12, i, t, n, v, w, N, o, r) = allS (putM (12, i, t, n, v, w, N, o, r)) (IntKind.wrap .u8 12) [116, 110, 118] from rfl]
  refine ⟨?_, fun h => ?_⟩
  · rw [allS_2]
    show ((txS t false).2 && ((txS n false).2 && ((vaS v false).2 && true))) = ((nameS t && nameS n) && goodV v)
    simp only [tx_f, tx_e, nu_i, nu_k, nu_m, va_f, va_t, ru_f, Bool.and_true, Bool.and_assoc]
  · rw [allS_1 h]
    show byl [IntKind.wrap .u8 12] ++ ((txS t false).1 ++ ((txS n false).1 ++ ((vaS v false).1 ++ []))) = kb 12 ++ ((Num.putT t ++ Num.putT n) ++ encV v)
    simp only [txS, nuS, vaS, ruS, kb, List.append_assoc, List.append_nil]
theorem cmq13 (i : Int) (t n : List UInt8) (v w : VD.T) (N : Int) (o : OD.T) (r : RD.T) : (bytM (13, i, t, n, v, w, N, o, r)).2 = (cmN (13, i, t, n, v, w, N, o, r)).2 ∧ ((bytM (13, i, t, n, v, w, N, o, r)).2 = true → (bytM (13, i, t, n, v, w, N, o, r)).1 = encR (13, i, t, n, v, w, N, o, r)) := by
  rw [show bytM (13, i, t, n, v, w, N, o, r) = allS (putM (13, i, t, n, v, w, N, o, r)) (IntKind.wrap .u8 13) [116, 110, 119, 120] from rfl]
  refine ⟨?_, fun h => ?_⟩
  · rw [allS_2]
    show ((txS t false).2 && ((txS n false).2 && ((vaS v true).2 && ((vaS w true).2 && true)))) = (((nameS t && nameS n) && okVal v) && okVal w)
    simp only [tx_f, tx_e, nu_i, nu_k, nu_m, va_f, va_t, ru_f, Bool.and_true, Bool.and_assoc]
  · rw [allS_1 h]
    show byl [IntKind.wrap .u8 13] ++ ((txS t false).1 ++ ((txS n false).1 ++ ((vaS v true).1 ++ ((vaS w true).1 ++ [])))) = kb 13 ++ (((Num.putT t ++ Num.putT n) ++ encV v) ++ encV w)
    simp only [txS, nuS, vaS, ruS, kb, List.append_assoc, List.append_nil]
theorem cmq14 (i : Int) (t n : List UInt8) (v w : VD.T) (N : Int) (o : OD.T) (r : RD.T) : (bytM (14, i, t, n, v, w, N, o, r)).2 = (cmN (14, i, t, n, v, w, N, o, r)).2 ∧ ((bytM (14, i, t, n, v, w, N, o, r)).2 = true → (bytM (14, i, t, n, v, w, N, o, r)).1 = encR (14, i, t, n, v, w, N, o, r)) := by
  rw [show bytM (14, i, t, n, v, w, N, o, r) = allS (putM (14, i, t, n, v, w, N, o, r)) (IntKind.wrap .u8 14) [116, 107] from rfl]
  refine ⟨?_, fun h => ?_⟩
  · rw [allS_2]
    show ((txS t false).2 && ((nuS N 1 2).2 && true)) = (nameS t && (decide (N = 1) || decide (N = 2)))
    simp only [tx_f, tx_e, nu_i, nu_k, nu_m, va_f, va_t, ru_f, Bool.and_true, Bool.and_assoc]
  · rw [allS_1 h]
    show byl [IntKind.wrap .u8 14] ++ ((txS t false).1 ++ ((nuS N 1 2).1 ++ [])) = kb 14 ++ (Num.putT t ++ Num.putN (u64 N))
    simp only [txS, nuS, vaS, ruS, kb, List.append_assoc, List.append_nil]
theorem cmq15 (i : Int) (t n : List UInt8) (v w : VD.T) (N : Int) (o : OD.T) (r : RD.T) : (bytM (15, i, t, n, v, w, N, o, r)).2 = (cmN (15, i, t, n, v, w, N, o, r)).2 ∧ ((bytM (15, i, t, n, v, w, N, o, r)).2 = true → (bytM (15, i, t, n, v, w, N, o, r)).1 = encR (15, i, t, n, v, w, N, o, r)) := by
  rw [show bytM (15, i, t, n, v, w, N, o, r) = allS (putM (15, i, t, n, v, w, N, o, r)) (IntKind.wrap .u8 15) [116, 107] from rfl]
  refine ⟨?_, fun h => ?_⟩
  · rw [allS_2]
    show ((txS t false).2 && ((nuS N 1 2).2 && true)) = (nameS t && (decide (N = 1) || decide (N = 2)))
    simp only [tx_f, tx_e, nu_i, nu_k, nu_m, va_f, va_t, ru_f, Bool.and_true, Bool.and_assoc]
  · rw [allS_1 h]
    show byl [IntKind.wrap .u8 15] ++ ((txS t false).1 ++ ((nuS N 1 2).1 ++ [])) = kb 15 ++ (Num.putT t ++ Num.putN (u64 N))
    simp only [txS, nuS, vaS, ruS, kb, List.append_assoc, List.append_nil]
theorem cmq16 (i : Int) (t n : List UInt8) (v w : VD.T) (N : Int) (o : OD.T) (r : RD.T) : (bytM (16, i, t, n, v, w, N, o, r)).2 = (cmN (16, i, t, n, v, w, N, o, r)).2 ∧ ((bytM (16, i, t, n, v, w, N, o, r)).2 = true → (bytM (16, i, t, n, v, w, N, o, r)).1 = encR (16, i, t, n, v, w, N, o, r)) := by
  rw [show bytM (16, i, t, n, v, w, N, o, r) = allS (putM (16, i, t, n, v, w, N, o, r)) (IntKind.wrap .u8 16) [114] from rfl]
  refine ⟨?_, fun h => ?_⟩
  · rw [allS_2]
    show ((ruS r).2 && true) = (formS r && decide (r.1 = 0) && decide (r.2.2.2.2.2.2.2 = 0))
    simp only [tx_f, tx_e, nu_i, nu_k, nu_m, va_f, va_t, ru_f, Bool.and_true, Bool.and_assoc]
  · rw [allS_1 h]
    show byl [IntKind.wrap .u8 16] ++ ((ruS r).1 ++ []) = kb 16 ++ encS r
    simp only [txS, nuS, vaS, ruS, kb, List.append_assoc, List.append_nil]
theorem cmq17 (i : Int) (t n : List UInt8) (v w : VD.T) (N : Int) (o : OD.T) (r : RD.T) : (bytM (17, i, t, n, v, w, N, o, r)).2 = (cmN (17, i, t, n, v, w, N, o, r)).2 ∧ ((bytM (17, i, t, n, v, w, N, o, r)).2 = true → (bytM (17, i, t, n, v, w, N, o, r)).1 = encR (17, i, t, n, v, w, N, o, r)) := by
  rw [show bytM (17, i, t, n, v, w, N, o, r) = allS (putM (17, i, t, n, v, w, N, o, r)) (IntKind.wrap .u8 17) [109] from rfl]
  refine ⟨?_, fun h => ?_⟩
  · rw [allS_2]
    show ((nuS N 0 1000000).2 && true) = (decide (0 ≤ N) && decide (N ≤ 1000000))
    simp only [tx_f, tx_e, nu_i, nu_k, nu_m, va_f, va_t, ru_f, Bool.and_true, Bool.and_assoc]
  · rw [allS_1 h]
    show byl [IntKind.wrap .u8 17] ++ ((nuS N 0 1000000).1 ++ []) = kb 17 ++ Num.putN (u64 N)
    simp only [txS, nuS, vaS, ruS, kb, List.append_assoc, List.append_nil]
theorem cmq18 (i : Int) (t n : List UInt8) (v w : VD.T) (N : Int) (o : OD.T) (r : RD.T) : (bytM (18, i, t, n, v, w, N, o, r)).2 = (cmN (18, i, t, n, v, w, N, o, r)).2 ∧ ((bytM (18, i, t, n, v, w, N, o, r)).2 = true → (bytM (18, i, t, n, v, w, N, o, r)).1 = encR (18, i, t, n, v, w, N, o, r)) := by
  rw [show bytM (18, i, t, n, v, w, N, o, r) = allS (putM (18, i, t, n, v, w, N, o, r)) (IntKind.wrap .u8 18) [116, 110] from rfl]
  refine ⟨?_, fun h => ?_⟩
  · rw [allS_2]
    show ((txS t false).2 && ((txS n false).2 && true)) = (nameS t && nameS n)
    simp only [tx_f, tx_e, nu_i, nu_k, nu_m, va_f, va_t, ru_f, Bool.and_true, Bool.and_assoc]
  · rw [allS_1 h]
    show byl [IntKind.wrap .u8 18] ++ ((txS t false).1 ++ ((txS n false).1 ++ [])) = kb 18 ++ (Num.putT t ++ Num.putT n)
    simp only [txS, nuS, vaS, ruS, kb, List.append_assoc, List.append_nil]
theorem cmq19 (i : Int) (t n : List UInt8) (v w : VD.T) (N : Int) (o : OD.T) (r : RD.T) : (bytM (19, i, t, n, v, w, N, o, r)).2 = (cmN (19, i, t, n, v, w, N, o, r)).2 ∧ ((bytM (19, i, t, n, v, w, N, o, r)).2 = true → (bytM (19, i, t, n, v, w, N, o, r)).1 = encR (19, i, t, n, v, w, N, o, r)) := by
  rw [show bytM (19, i, t, n, v, w, N, o, r) = allS (putM (19, i, t, n, v, w, N, o, r)) (IntKind.wrap .u8 19) [116, 110] from rfl]
  refine ⟨?_, fun h => ?_⟩
  · rw [allS_2]
    show ((txS t false).2 && ((txS n false).2 && true)) = (nameS t && nameS n)
    simp only [tx_f, tx_e, nu_i, nu_k, nu_m, va_f, va_t, ru_f, Bool.and_true, Bool.and_assoc]
  · rw [allS_1 h]
    show byl [IntKind.wrap .u8 19] ++ ((txS t false).1 ++ ((txS n false).1 ++ [])) = kb 19 ++ (Num.putT t ++ Num.putT n)
    simp only [txS, nuS, vaS, ruS, kb, List.append_assoc, List.append_nil]
theorem cmq20 (i : Int) (t n : List UInt8) (v w : VD.T) (N : Int) (o : OD.T) (r : RD.T) : (bytM (20, i, t, n, v, w, N, o, r)).2 = (cmN (20, i, t, n, v, w, N, o, r)).2 ∧ ((bytM (20, i, t, n, v, w, N, o, r)).2 = true → (bytM (20, i, t, n, v, w, N, o, r)).1 = encR (20, i, t, n, v, w, N, o, r)) := by
  rw [show bytM (20, i, t, n, v, w, N, o, r) = allS (putM (20, i, t, n, v, w, N, o, r)) (IntKind.wrap .u8 20) [] from rfl]
  refine ⟨?_, fun h => ?_⟩
  · rw [allS_2]
    rfl
  · rw [allS_1 h]
    show byl [IntKind.wrap .u8 20] ++ [] = kb 20
    simp only [txS, nuS, vaS, ruS, kb, List.append_assoc, List.append_nil]
/-- the form and the bytes, of any command -/
theorem cmq (m : MD.T) : (goodM m = ((bytM m).2 && MD.eqb (proM m) m) → goodM m = refgood m) ∧ ((bytM m).2 = true → (bytM m).1 = encR m) := by
  obtain ⟨k, i, t, n, v, w, N, o, r⟩ := m
  have hk : ∀ k' : Int, k' = k → (k' < 1 ∨ 21 ≤ k') ∨ k' = 1 ∨ k' = 2 ∨ k' = 3 ∨ k' = 4 ∨ k' = 5 ∨ k' = 6 ∨ k' = 7 ∨ k' = 8 ∨ k' = 9 ∨ k' = 10 ∨ k' = 11 ∨ k' = 12 ∨ k' = 13 ∨ k' = 14 ∨ k' = 15 ∨ k' = 16 ∨ k' = 17 ∨ k' = 18 ∨ k' = 19 ∨ k' = 20 := fun k' _ => by omega
  rcases hk k rfl with h | rfl | rfl | rfl | rfl | rfl | rfl | rfl | rfl | rfl | rfl | rfl | rfl | rfl | rfl | rfl | rfl | rfl | rfl | rfl | rfl
  · have hu : knownM k = false := by
      have : ∀ k' : Int, (k' < 1 ∨ 21 ≤ k') → knownM k' = false := fun k' h => by simp [knownM]; omega
      exact this k h
    have hb : bytM (k, i, t, n, v, w, N, o, r) = ([], false) := if_pos hu
    have hn : ∀ k' : Int, (k' < 1 ∨ 21 ≤ k') → ¬ k' = 1 ∧ ¬ k' = 2 ∧ ¬ k' = 3 ∧ ¬ k' = 4 ∧ ¬ k' = 5 ∧ ¬ k' = 6 ∧ ¬ k' = 7 ∧ ¬ k' = 8 ∧ ¬ k' = 9 ∧ ¬ k' = 10 ∧ ¬ k' = 11 ∧ ¬ k' = 12 ∧ ¬ k' = 13 ∧ ¬ k' = 14 ∧ ¬ k' = 15 ∧ ¬ k' = 16 ∧ ¬ k' = 17 ∧ ¬ k' = 18 ∧ ¬ k' = 19 ∧ ¬ k' = 20 := fun k' _ => by omega
    obtain ⟨a1, a2, a3, a4, a5, a6, a7, a8, a9, a10, a11, a12, a13, a14, a15, a16, a17, a18, a19, a20⟩ := hn k h
    have hc : (cmN (k, i, t, n, v, w, N, o, r)).2 = false := by
      have : cmN (k, i, t, n, v, w, N, o, r) = (m0 k, false) := by simp [cmN, a1, a2, a3, a4, a5, a6, a7, a8, a9, a10, a11, a12, a13, a14, a15, a16, a17, a18, a19, a20]
      rw [this]
    refine ⟨fun h => ?_, fun h => ?_⟩
    · rw [h, hb]; unfold refgood; rw [hc]; rfl
    · rw [hb] at h; cases h
  · exact ⟨fun h => by rw [h, (cmq1 i t n v w N o r).1]; rfl, (cmq1 i t n v w N o r).2⟩
  · exact ⟨fun h => by rw [h, (cmq2 i t n v w N o r).1]; rfl, (cmq2 i t n v w N o r).2⟩
  · exact ⟨fun h => by rw [h, (cmq3 i t n v w N o r).1]; rfl, (cmq3 i t n v w N o r).2⟩
  · exact ⟨fun h => by rw [h, (cmq4 i t n v w N o r).1]; rfl, (cmq4 i t n v w N o r).2⟩
  · exact ⟨fun h => by rw [h, (cmq5 i t n v w N o r).1]; rfl, (cmq5 i t n v w N o r).2⟩
  · have hb : bytM (6, i, t, n, v, w, N, o, r) = allS (putM (6, i, t, n, v, w, N, o, r)) (IntKind.wrap .u8 6) [111] := rfl
    have h2 : (bytM (6, i, t, n, v, w, N, o, r)).2 = (chgS o).2 := by
      rw [hb, allS_2]
      show ((chgS o).2 && true) = _
      rw [Bool.and_true]
    obtain ⟨q1, q2⟩ := opq o
    refine ⟨fun h => ?_, fun h => ?_⟩
    · rw [h, h2]
      unfold refgood
      show ((chgS o).2 && MD.eqb (sO (m0 6) (proO OD.df o)) (6, i, t, n, v, w, N, o, r)) = (goodO o && MD.eqb (sO (m0 6) o) (6, i, t, n, v, w, N, o, r))
      unfold goodO
      cases hc : (chgS o).2 with
      | false => rw [← q1, hc]; rfl
      | true =>
        rw [← q1, hc, ← (q2 hc).2, Bool.eq_iff_iff]
        simp only [Bool.true_and, Bool.and_eq_true, D.eqb_iff]
        constructor
        · intro e
          have e2 : proO OD.df o = o := congrArg mOp e
          exact ⟨e2, by rw [e2] at e; exact e⟩
        · rintro ⟨e1, e2⟩
          rw [e1]; exact e2
    · rw [hb, allS_1 (by rw [← hb]; exact h)]
      show byl [IntKind.wrap .u8 6] ++ ((chgS o).1 ++ []) = kb 6 ++ encRO o
      rw [h2] at h
      rw [(q2 h).1, List.append_nil]
      rfl
  · exact ⟨fun h => by rw [h, (cmq7 i t n v w N o r).1]; rfl, (cmq7 i t n v w N o r).2⟩
  · exact ⟨fun h => by rw [h, (cmq8 i t n v w N o r).1]; rfl, (cmq8 i t n v w N o r).2⟩
  · exact ⟨fun h => by rw [h, (cmq9 i t n v w N o r).1]; rfl, (cmq9 i t n v w N o r).2⟩
  · exact ⟨fun h => by rw [h, (cmq10 i t n v w N o r).1]; rfl, (cmq10 i t n v w N o r).2⟩
  · exact ⟨fun h => by rw [h, (cmq11 i t n v w N o r).1]; rfl, (cmq11 i t n v w N o r).2⟩
  · exact ⟨fun h => by rw [h, (cmq12 i t n v w N o r).1]; rfl, (cmq12 i t n v w N o r).2⟩
  · exact ⟨fun h => by rw [h, (cmq13 i t n v w N o r).1]; rfl, (cmq13 i t n v w N o r).2⟩
  · exact ⟨fun h => by rw [h, (cmq14 i t n v w N o r).1]; rfl, (cmq14 i t n v w N o r).2⟩
  · exact ⟨fun h => by rw [h, (cmq15 i t n v w N o r).1]; rfl, (cmq15 i t n v w N o r).2⟩
  · exact ⟨fun h => by rw [h, (cmq16 i t n v w N o r).1]; rfl, (cmq16 i t n v w N o r).2⟩
  · exact ⟨fun h => by rw [h, (cmq17 i t n v w N o r).1]; rfl, (cmq17 i t n v w N o r).2⟩
  · exact ⟨fun h => by rw [h, (cmq18 i t n v w N o r).1]; rfl, (cmq18 i t n v w N o r).2⟩
  · exact ⟨fun h => by rw [h, (cmq19 i t n v w N o r).1]; rfl, (cmq19 i t n v w N o r).2⟩
  · exact ⟨fun h => by rw [h, (cmq20 i t n v w N o r).1]; rfl, (cmq20 i t n v w N o r).2⟩
theorem good_eq {m : MD.T} (hm : SmC m) : goodM m = refgood m := (cmq m).1 (good_pro hm)
end Go.Proofs.YtdhfipjfgigamaaGreatDoor
/- The walk of Parse. Own work. -/
set_option linter.unusedVariables false
set_option maxRecDepth 100000
namespace Go.Proofs.YtdhfipjfgigamaaGreatDoor.Con
open Go Go.RowKit Go.Lib OE

theorem words_len : ∀ (s : List UInt8), (wordsL s).length ≤ s.length + 1 ∧ ∀ w ∈ wordsL s, w.length ≤ s.length
  | [] => ⟨by decide, fun w h => by
    have h : w = [] := by simpa [wordsL] using h
    rw [h]; decide⟩
  | c :: s => by
    obtain ⟨h1, h2⟩ := words_len s
    unfold wordsL
    split
    · refine ⟨by rw [List.length_cons, List.length_cons]; omega, fun w hw => ?_⟩
      rcases List.mem_cons.1 hw with rfl | hw
      · exact Nat.zero_le _
      · exact Nat.le_succ_of_le (h2 w hw)
    · cases hw : wordsL s with
      | nil => exact absurd hw (wordsL_ne s)
      | cons w ws =>
        rw [hw] at h1 h2
        refine ⟨by rw [List.length_cons] at h1 ⊢; rw [List.length_cons]; omega, fun v hv => ?_⟩
        rcases List.mem_cons.1 hv with rfl | hv
        · have := h2 w (List.mem_cons_self ..)
          rw [List.length_cons, List.length_cons]; omega
        · exact Nat.le_succ_of_le (h2 v (List.mem_cons_of_mem _ hv))
theorem form_at {j : Nat} (h : j < 28) : ∃ x : FD.T, gt (d := FD) formsL (j : Int) = x ∧ formsL.drop j = x :: formsL.drop (j + 1) ∧ x ∈ formsL := by
  have hl : j < formsL.length := h
  refine ⟨formsL[j], gt_nat (d := FD) formsL j hl, List.drop_eq_getElem_cons hl, List.getElem_mem hl⟩
theorem forms_ok : ∀ x ∈ formsL, x.2.2.2.length ≤ 4 ∧ ∀ f ∈ x.2.2.2, fW f.toNat := by decide
theorem fresh_sm (x : FD.T) : SmC (freshM x) := by
  unfold freshM
  split
  · exact ⟨Nat.zero_le _, Nat.zero_le _, wf0, wf0, Nat.zero_le _, Nat.zero_le _, wf0⟩
  · split
    · exact ⟨Nat.zero_le _, Nat.zero_le _, wf0, wf0, Nat.zero_le _, Nat.zero_le _, wf0⟩
    · exact ⟨Nat.zero_le _, Nat.zero_le _, wf0, wf0, Nat.zero_le _, Nat.zero_le _, wf0⟩
theorem readAll_nil (m : MD.T) (fs : List UInt8) : readAll m fs [] = (m, true) := by cases fs <;> rfl
theorem pF_hit {x : FD.T} {xs : List FD.T} {ws : List (List UInt8)} {m : MD.T} (h : x.1 = ws.headD []) (hT : tryF x ws = some m) : pF (x :: xs) ws = some m := by
  show (if x.1 = ws.headD [] then (match tryF x ws with | some m => some m | none => pF xs ws) else pF xs ws) = some m
  rw [if_pos h, hT]
theorem lit64 {n : Int} (h0 : -9223372036854775808 ≤ n) (h1 : n ≤ 9223372036854775807) : (Lit.int .i64 n).wf = true := by
  simpa [Lit.wf, IntKind.min, IntKind.max, IntKind.bits, IntKind.signed] using ⟨h0, h1⟩
theorem unhex_le (t : List UInt8) : (unhex t).length ≤ t.length := by
  rw [unhex_len _ t (Nat.le_refl _)]; omega
theorem val_wf {s : List UInt8} (h : (valS s).2 = true) (hs : s.length ≤ 100000) : Wf VD (valS s).1 := by
  unfold valS at h ⊢
  split
  · exact wf0
  · split
    · exact ⟨by decide, by decide, Nat.zero_le _⟩
    · split
      · exact ⟨by decide, by decide, Nat.zero_le _⟩
      · split
        · split
          · refine ⟨lit64 (n := 3) (by decide) (by decide), lit64 (n := 0) (by decide) (by decide), ?_⟩
            have h1 := unhex_le s.tail
            have h2 : s.tail.length ≤ s.length := by rw [List.length_tail]; omega
            show (unhex s.tail).length ≤ _
            omega
          · exact wf0
        · rename_i h1 h2 h3 h4
          rw [if_neg h1, if_neg h2, if_neg h3, if_neg h4] at h
          obtain ⟨n, hn⟩ := Option.isSome_iff_exists.1 h
          obtain ⟨_, g1, g2⟩ := intV_some hn
          rw [pn_of hn]
          exact ⟨lit64 (n := 2) (by decide) (by decide), lit64 g1 g2, Nat.zero_le _⟩
def SP (p : MD.T × Bool) : Prop := p.2 = true → SmC p.1
theorem ite_sm {c : Prop} [Decidable c] {a b : MD.T × Bool} (ha : SP a) (hb : SP b) : SP (if c then a else b) := by
  split <;> assumption
theorem readM_sm {m : MD.T} {f : Int} {s : List UInt8} (hm : SmC m) (hs : s.length ≤ 100000) (h : (readM m f s).2 = true) : SmC (readM m f s).1 := by
  revert h
  show SP (readM m f s)
  unfold readM readV
  repeat' apply ite_sm
  all_goals intro h
  all_goals first
    | exact ⟨hm.ty, hm.nm, hm.v, hm.to, hm.oty, hm.onm, hm.ov⟩
    | exact ⟨hs, hm.nm, hm.v, hm.to, hm.oty, hm.onm, hm.ov⟩
    | exact ⟨hm.ty, hs, hm.v, hm.to, hm.oty, hm.onm, hm.ov⟩
    | exact ⟨hm.ty, hm.nm, val_wf h hs, hm.to, hm.oty, hm.onm, hm.ov⟩
    | exact ⟨hm.ty, hm.nm, hm.v, val_wf h hs, hm.oty, hm.onm, hm.ov⟩
    | exact ⟨hm.ty, hm.nm, hm.v, hm.to, hs, hm.onm, hm.ov⟩
    | exact ⟨hm.ty, hm.nm, hm.v, hm.to, hm.oty, hs, hm.ov⟩
    | exact ⟨hm.ty, hm.nm, hm.v, hm.to, hm.oty, hm.onm, val_wf h hs⟩
theorem console_Parse (line : List UInt8) (hl : line.length ≤ 100000) : FnD Tryz.prog 9 [.c (.str line)] (· = .tup [(true, mc (resM (parseS line))), (false, [.int .i64 (resE (parseS line))])]) := by
  obtain ⟨w1, w2⟩ := words_len line
  have w0 := wordsL_ne line
  show FnD _ _ _ (· = .tup [(true, mc (resM (pF formsL (wordsL line)))), (false, [.int .i64 (resE (pF formsL (wordsL line)))])])
  refine fn0 Tryz.func9 rfl rfl rfl ?_
  conv => whnf
  refine call1 (console_words line hl) rfl ?_
  conv => whnf
  generalize wordsL line = ws at w0 w1 w2 ⊢
  have hgt : gt (d := .str) ws 0 = ws.headD [] := by cases ws <;> rfl
  have hlen : 0 < ws.length := List.length_pos_iff.2 w0
  refine loop0 (α := Nat) (fun j => j ≤ 28 ∧ pF (formsL.drop j) ws = pF formsL ws) (fun j => ⟨[(2, .c (.ptr 0 0)), (4, .c (.dat .str ws)), (13, .arr FD formsL), (14, .c (.int .i64 j))], [(0, .cells 30 (mc MD.df))], 1⟩) (fun j => 28 - j) ⟨0, ⟨by decide, rfl⟩, ?_⟩ ?_
  · (conv => whnf); refine ⟨rfl, ?_, ?_, ?_⟩ <;> (repeat' apply And.intro) <;> first | exact trivial | rfl | exact wr_succ _ (by omega) | assumption | exact decide_eq_false (by assumption) | exact decide_eq_true (by assumption)
  rintro j ⟨hj, hI⟩
  conv => whnf
  refine ⟨fun c => ?_, fun c => ?_⟩
  · have c : j < 28 := by have := of_decide_eq_true c; omega
    obtain ⟨x, hx, hd, hm⟩ := form_at c
    rw [hd] at hI
    conv => whnf
    refine ⟨⟨by omega, by show (j : Int) < 28; omega⟩, ?_⟩
    rw [hx]
    conv => whnf
    refine any0 ?_
    conv => whnf
    refine ⟨⟨by omega, by omega⟩, ?_⟩
    rw [hgt]
    conv => whnf
    refine ⟨.inl (by kernel_rfl), after0 ?_⟩
    conv => whnf
    refine ⟨fun h => ?_, fun h => ?_⟩
    · have h : ¬ x.1 = ws.headD [] := by simpa using h
      conv => whnf
      refine ⟨j + 1, ⟨⟨by omega, ?_⟩, by omega⟩, ?_⟩
      · rw [← hI]
        show _ = (if x.1 = ws.headD [] then _ else pF (formsL.drop (j + 1)) ws)
        rw [if_neg h]
      · (conv => whnf); refine ⟨rfl, ?_, ?_, ?_⟩ <;> (repeat' apply And.intro) <;> first | exact trivial | rfl | exact wr_succ _ (by omega) | assumption | exact decide_eq_false (by assumption) | exact decide_eq_true (by assumption)
    have h : x.1 = ws.headD [] := by simpa using h
    conv => whnf
    refine call1 (console_fresh x) rfl ?_
    conv => whnf
    generalize hf : freshM x = fm
    intro _
    conv => whnf
    have hxl : x.2.2.2.length ≤ 4 ∧ ∀ f ∈ x.2.2.2, fW f.toNat := forms_ok x hm
    refine callg0 (fun _ => lib_HasSuffix x.2.2.2 [101] (by omega)) rfl ?_
    conv => whnf
    have hok : (decide (IntKind.wrap .i64 ((x.2.2.2.length : Int) - IntKind.wrap .i64 ((ws.length : Int) - 1)) = 0) || (decide (IntKind.wrap .i64 ((x.2.2.2.length : Int) - IntKind.wrap .i64 ((ws.length : Int) - 1)) = 1) && hasSuffix x.2.2.2 [101])) = okL x ws := by
      rw [wr64 ((ws.length : Int) - 1) (by omega) (by omega), wr64 _ (by omega) (by omega)]
      unfold okL
      rw [show decide ((x.2.2.2.length : Int) - ((ws.length : Int) - 1) = 0) = decide (x.2.2.2.length + 1 = ws.length) by apply decide_eq_decide.2; omega, show decide ((x.2.2.2.length : Int) - ((ws.length : Int) - 1) = 1) = decide (x.2.2.2.length = ws.length) by apply decide_eq_decide.2; omega]
    rw [hok]
    refine loop0 (α := Nat × MD.T × Bool) (fun q => q.1 + 1 ≤ ws.length ∧ (q.2.2 = true → SmC q.2.1) ∧ (okL x ws = true → readAll fm x.2.2.2 ws.tail = if q.2.2 = true then readAll q.2.1 (x.2.2.2.drop q.1) (ws.drop (q.1 + 1)) else (q.2.1, false)) ∧ (okL x ws = false → q.2.2 = false))
      (fun q => ⟨[(2, .c (.ptr 0 0)), (4, .c (.dat .str ws)), (6, .c (.ptr 1 0)), (7, .c (.ptr 2 0)), (9, .c (.bool (.sym q.2.2))), (10, .c (.int .i64 (q.1 + 1 : Nat))), (13, .arr FD formsL), (14, .c (.int .i64 j))], [(0, .cells 30 (mc MD.df)), (1, .cells 61 (fx x)), (2, .cells 30 (mc q.2.1))], 3⟩)
      (fun q => ws.length - q.1) ⟨(0, fm, okL x ws), ⟨hlen, fun _ => hf ▸ fresh_sm x, fun h => by rw [if_pos h, List.drop_zero, List.drop_one], fun h => h⟩, ?_⟩ ?_
    · (conv => whnf); refine ⟨rfl, ?_, ?_, ?_⟩ <;> (repeat' apply And.intro) <;> first | exact trivial | rfl | exact wr_succ _ (by omega) | assumption | exact decide_eq_false (by assumption) | exact decide_eq_true (by assumption)
    rintro ⟨i, m, ok⟩ ⟨k1, k2, k3, k4⟩
    dsimp only at k1 k2 k3 k4 ⊢
    conv => whnf
    intro _
    conv => whnf
    refine ⟨fun b => ?_, fun b => ?_⟩
    · rw [Bool.and_eq_true] at b
      obtain ⟨rfl, b⟩ := b
      have b : i + 1 < ws.length := by have := of_decide_eq_true b; omega
      have hO : okL x ws = true := by
        cases ho : okL x ws with
        | true => rfl
        | false => have := k4 ho; cases this
      have hi : i < x.2.2.2.length := by
        unfold okL at hO
        rw [Bool.or_eq_true, Bool.and_eq_true, decide_eq_true_eq, decide_eq_true_eq] at hO
        omega
      conv => whnf
      have hwi : IntKind.wrap .i64 (((i + 1 : Nat) : Int) - 1) = (i : Int) := (wr64 _ (by omega) (by omega)).trans (by omega)
      have hbt : bt x.2.2.2 (i : Int) = ((x.2.2.2[i]).toNat : Int) := bt_nat _ _ hi
      have hgw : gt (d := .str) ws ((i + 1 : Nat) : Int) = ws[i + 1] := gt_nat (d := .str) ws (i + 1) b
      have hwl : ws[i + 1].length ≤ 100000 := Nat.le_trans (w2 _ (List.getElem_mem b)) hl
      have hfw : fW ((x.2.2.2[i]).toNat : Int) := hxl.2 _ (List.getElem_mem hi)
      refine any0 ?_
      conv => whnf
      rw [hwi]
      refine ⟨⟨by omega, by omega⟩, ?_⟩
      rw [hbt]
      conv => whnf
      refine ⟨⟨by omega, by omega⟩, ?_⟩
      rw [hgw]
      conv => whnf
      refine callrp0 [2] rfl rfl rfl ((place_read m _ hfw _ hwl)) rfl rfl rfl rfl rfl rfl [] rfl rfl ?_
      conv => whnf
      refine ⟨.inl (by kernel_rfl), after0 ?_⟩
      conv => whnf
      refine ⟨(i + 1, (readM m (x.2.2.2[i]).toNat ws[i + 1]).1, (readM m (x.2.2.2[i]).toNat ws[i + 1]).2), ⟨⟨b, fun h => readM_sm (k2 rfl) hwl h, fun h => ?_, fun h => ?_⟩, by dsimp only; omega⟩, ?_⟩
      · rw [k3 h, if_pos rfl, List.drop_eq_getElem_cons hi, List.drop_eq_getElem_cons b]
        rfl
      · rw [hO] at h; cases h
      · (conv => whnf); refine ⟨rfl, ?_, ?_, ?_⟩ <;> (repeat' apply And.intro) <;> first | exact trivial | rfl | exact wr_succ _ (by omega) | assumption | exact decide_eq_false (by assumption) | exact decide_eq_true (by assumption)
    conv => whnf
    refine callg0 (fun h => wire_Good m (k2 h)) rfl ?_
    conv => whnf
    refine ⟨fun g => ?_, fun g => ?_⟩
    · rw [Bool.and_eq_true] at g
      obtain ⟨rfl, g⟩ := g
      have hT : tryF x ws = some m := by
        have b : ¬ i + 1 < ws.length := by
          intro hb
          rw [Bool.true_and] at b
          have := of_decide_eq_false b
          omega
        have hO : okL x ws = true := by
          cases ho : okL x ws with
          | true => rfl
          | false => have := k4 ho; cases this
        have hr := k3 hO
        rw [if_pos rfl, List.drop_of_length_le (by omega : ws.length ≤ i + 1), readAll_nil] at hr
        unfold tryF
        rw [if_pos hO, hf, hr]
        show (if true = true then (if refgood m = true then some m else none) else none) = some m
        rw [if_pos rfl, ← good_eq (k2 rfl), if_pos g]
      rw [← hI, pF_hit h hT]
      conv => whnf
      rfl
    · have hT : tryF x ws = none := by
        unfold tryF
        by_cases hO : okL x ws = true
        · rw [if_pos hO, hf, k3 hO]
          cases ok with
          | false => rfl
          | true =>
            have b : ¬ i + 1 < ws.length := by
              intro hb
              rw [Bool.true_and] at b
              have := of_decide_eq_false b
              omega
            rw [if_pos rfl, List.drop_of_length_le (by omega : ws.length ≤ i + 1), readAll_nil]
            rw [Bool.true_and, good_eq (k2 rfl)] at g
            show (if true = true then (if refgood m = true then some m else none) else none) = none
            rw [if_pos rfl, g]
            rfl
        · rw [if_neg hO]
      conv => whnf
      refine ⟨j + 1, ⟨⟨by omega, ?_⟩, by omega⟩, ?_⟩
      · rw [← hI]
        show _ = (if x.1 = ws.headD [] then (match tryF x ws with | some m => some m | none => pF (formsL.drop (j + 1)) ws) else pF (formsL.drop (j + 1)) ws)
        rw [if_pos h, hT]
      · (conv => whnf); refine ⟨rfl, ?_, ?_, ?_⟩ <;> (repeat' apply And.intro) <;> first | exact trivial | rfl | exact wr_succ _ (by omega) | assumption | exact decide_eq_false (by assumption) | exact decide_eq_true (by assumption)
  · have c : j = 28 := by have := of_decide_eq_false c; omega
    subst c
    conv => whnf
    rw [← hI]
    rfl
end Go.Proofs.YtdhfipjfgigamaaGreatDoor.Con
/- The walk of word: a value's word. After the kit's own walk of a Builder in a loop. Own work. -/
set_option linter.unusedVariables false
set_option maxRecDepth 1000000
namespace Go.Proofs.YtdhfipjfgigamaaGreatDoor.Con
open Go Go.RowKit Go.Lib OE

theorem hexS_len : ∀ s : List UInt8, (hexS s).length = 2 * s.length
  | [] => rfl
  | c :: r => by
    have := hexS_len r
    show (hexS r).length + 1 + 1 = 2 * (r.length + 1)
    omega
theorem hexS_app : ∀ a b : List UInt8, hexS (a ++ b) = hexS a ++ hexS b
  | [], b => rfl
  | c :: a, b => by
    show hexC _ :: hexC _ :: hexS (a ++ b) = _
    rw [hexS_app a b]; rfl
theorem dig_at (n : Nat) (h : n < (⟨#[48, 49, 50, 51, 52, 53, 54, 55, 56, 57, 97, 98, 99, 100, 101, 102]⟩ : ByteArray).size) : ((⟨#[48, 49, 50, 51, 52, 53, 54, 55, 56, 57, 97, 98, 99, 100, 101, 102]⟩ : ByteArray)[n]'h).toNat = (hexC n).toNat := by
  have : ∀ n : Fin 16, ((⟨#[48, 49, 50, 51, 52, 53, 54, 55, 56, 57, 97, 98, 99, 100, 101, 102]⟩ : ByteArray)[n.val]'n.isLt).toNat = (hexC n.val).toNat := by decide
  exact this ⟨n, h⟩
theorem add_byte (s : List UInt8) (j : Nat) (h : j < s.length) : Lib.byteCells (34 :: hexS (s.take (j + 1))) = Lib.byteCells (34 :: hexS (s.take j)) ++ [.int .u8 (hexC (s[j].toNat / 16)).toNat] ++ [.int .u8 (hexC (s[j].toNat % 16)).toNat] := by
  rw [List.take_add_one, List.getElem?_eq_getElem h, Option.toList_some, hexS_app]
  show Lib.byteCells ((34 :: hexS (s.take j)) ++ [hexC (s[j].toNat / 16), hexC (s[j].toNat % 16)]) = _
  rw [Lib.byteCells_append, List.append_assoc]
  rfl
set_option maxHeartbeats 4000000 in
theorem word_text (k n : Int) (s : List UInt8) (h0 : k ≠ 0) (h1 : k ≠ 1) (h2 : k ≠ 2) (hs : s.length ≤ 35184372088832) (w : World) :
    Calls Tryz.prog 67 #[.agg #[.int .i64 k, .int .i64 n, .string ⟨s.toArray⟩]] w fun e w' => e = .returned (.string ⟨(34 :: hexS s).toArray⟩) ∧ Below w.heap.size w w' := by
  have hsz : (⟨s.toArray⟩ : ByteArray).size = s.length := by simp [ByteArray.size]
  go_enter Tryz.func67, Tryz.ntmps67
  go_wp2_with (go_at_call 96; refine (Tryz.Builder_WriteByte (w.heap.size + 1) (w.heap.size + 1) [] 34 _ (by have := Lib.fresh_isBuilder 120 5 (w.alloc (.cells #[.int .i64 k, .int .i64 n, .string ⟨s.toArray⟩] 24)); simpa using this) (by simp) (by simp)).mono ?_)
  rintro e W1 ⟨rfl, b1, c1⟩
  have hv1 : W1.heap[w.heap.size]? = some (.cells #[.int .i64 k, .int .i64 n, .string ⟨s.toArray⟩] 24 (0, 0)) := by
    rw [c1.block _ (Nat.lt_succ_self _)]
    show ((w.heap.push _).push _)[w.heap.size]? = _
    rw [Array.getElem?_push, if_neg (by rw [Array.size_push]; omega), Array.getElem?_push, if_pos rfl]
  have hc1 : W1.cell? ⟨w.heap.size, 2, none⟩ = some (.string ⟨s.toArray⟩) := by rw [Lib.cell_of_heap hv1]; rfl
  have hbw1 : Below w.heap.size w W1 := (((Below.refl _ w).alloc (Nat.le_refl _) _).alloc (by simp) _).trans (c1.mono (by omega))
  go_wp2
  go_loopw [24] (fun i wr => ∃ j : Nat, j ≤ s.length ∧ i = .int .i64 j ∧ BuilderAt 120 5 (w.heap.size + 1) (w.heap.size + 1) (.pointer (some ⟨w.heap.size + 1, 0, none⟩)) (Lib.byteCells (34 :: hexS (s.take j))) wr ∧ wr.heap[w.heap.size]? = some (.cells #[.int .i64 k, .int .i64 n, .string ⟨s.toArray⟩] 24 (0, 0)) ∧ Below w.heap.size w wr) (fun i _ => s.length - (RowKit.intOf i).toNat)
  case atStart =>
    exact ⟨0, by omega, rfl, b1, hv1, hbw1⟩
  case round =>
    obtain ⟨j, hj, rfl, hI, hv, hbw⟩ := hrel
    have hcj : wr.cell? ⟨w.heap.size, 2, none⟩ = some (.string ⟨s.toArray⟩) := by rw [Lib.cell_of_heap hv]; rfl
    by_cases hlt : j < s.length
    · have hlt2 := hI.lt
      have hq : 0 ≤ ((⟨s.toArray⟩ : ByteArray)[j]'(by rw [hsz]; exact hlt)).toNat / 16 ∧ ((⟨s.toArray⟩ : ByteArray)[j]'(by rw [hsz]; exact hlt)).toNat / 16 < 16 := ⟨by omega, by have := ((⟨s.toArray⟩ : ByteArray)[j]'(by rw [hsz]; exact hlt)).toNat_lt; omega⟩
      have hln : (Lib.byteCells (34 :: hexS (s.take j))).length ≤ 2 * s.length + 1 := by
        rw [Lib.byteCells_length, List.length_cons, hexS_len, List.length_take]; omega
      go_wp2_with (go_at_call 96; refine (Tryz.Builder_WriteByte (w.heap.size + 1) (w.heap.size + 1) _ _ _ (.inr hI) (by omega) (by omega)).mono ?_)
      rintro e W2 ⟨rfl, d1, d2⟩
      have hv2 : W2.heap[w.heap.size]? = some (.cells #[.int .i64 k, .int .i64 n, .string ⟨s.toArray⟩] 24 (0, 0)) := (d2.block _ (Nat.lt_succ_self _)).trans hv
      have hc2 : W2.cell? ⟨w.heap.size, 2, none⟩ = some (.string ⟨s.toArray⟩) := by rw [Lib.cell_of_heap hv2]; rfl
      have hlt3 := d1.lt
      go_wp2_with (go_at_call 96; refine (Tryz.Builder_WriteByte (w.heap.size + 1) (w.heap.size + 1) _ _ _ (.inr d1) (by rw [List.length_append, List.length_singleton]; omega) (by omega)).mono ?_)
      rintro e W3 ⟨rfl, e1, e2⟩
      have hv3 : W3.heap[w.heap.size]? = some (.cells #[.int .i64 k, .int .i64 n, .string ⟨s.toArray⟩] 24 (0, 0)) := (e2.block _ (Nat.lt_succ_self _)).trans hv2
      go_wp2
      go_roundw
      case rel =>
        refine ⟨j + 1, by omega, ?_, ?_, hv3, (hbw.trans (d2.mono (by omega))).trans (e2.mono (by omega))⟩
        · rfl
        · have hb := add_byte s j hlt
          refine (congrArg (fun l => BuilderAt 120 5 (w.heap.size + 1) (w.heap.size + 1) (.pointer (some ⟨w.heap.size + 1, 0, none⟩)) l W3) ?_).mp e1
          rw [hb, dig_at, dig_at]
          rfl
      case measure => simp only [RowKit.intOf]; omega
    · have hlt2 := hI.lt
      go_wp2_with (go_at_call 71; refine (Tryz.Builder_String_any (w.heap.size + 1) (w.heap.size + 1) _ _ (.inr hI) (by omega)).mono ?_)
      rintro e W2 ⟨rfl, d1⟩
      go_wp2
      go_ret
      rw [show s.take j = s from List.take_of_length_le (by omega)]
      exact ⟨rfl, hbw.trans (d1.mono (by omega))⟩
theorem console_word (v : VD.T) (h0 : -9223372036854775808 ≤ (v.2.1 : Int)) (h1 : (v.2.1 : Int) ≤ 9223372036854775807) (hs : v.2.2.length ≤ 35184372088832) :
    FnD Tryz.prog 67 [.agg (vc v)] (· = .c (.str (wordV v))) := by
  obtain ⟨k, n, s⟩ := v
  by_cases k0 : k = 0
  · subst k0
    show FnD Tryz.prog 67 [.agg [.int .i64 0, .int .i64 n, .str s]] (· = .c (.str (tNone)))
    refine fn0 Tryz.func67 rfl rfl rfl ?_
    conv => whnf
    refine tk rfl ?_
    conv => whnf
  by_cases k1 : k = 1
  · subst k1
    show FnD Tryz.prog 67 [.agg [.int .i64 1, .int .i64 n, .str s]] (· = .c (.str (if n = 1 then tTrue else tFalse)))
    refine fn0 Tryz.func67 rfl rfl rfl ?_
    conv => whnf
    refine fk rfl ?_
    conv => whnf
    refine tk rfl ?_
    conv => whnf
    refine call1 (lib_FormatBool (.sym (decide (n = 1)))) rfl ?_
    conv => whnf
    by_cases hn : n = 1
    · rw [if_pos hn, decide_eq_true hn]; rfl
    · rw [if_neg hn, decide_eq_false hn]; rfl
  by_cases k2 : k = 2
  · subst k2
    show FnD Tryz.prog 67 [.agg [.int .i64 2, .int .i64 n, .str s]] (· = .c (.str (itoa n)))
    refine fn0 Tryz.func67 rfl rfl rfl ?_
    conv => whnf
    refine fk rfl ?_
    conv => whnf
    refine fk rfl ?_
    conv => whnf
    refine tk rfl ?_
    conv => whnf
    refine call1 (lib_FormatInt n h0 h1) rfl ?_
    conv => whnf
  rw [show wordV (k, n, s) = 34 :: hexS s by unfold wordV; rw [if_neg k0, if_neg k1, if_neg k2]]
  refine FnD.ofCalls ⟨_, Tryz.func67, rfl, rfl⟩ fun w ok vs ho hv => ?_
  obtain ⟨v, rfl, us, rfl, hu⟩ := rl1 hv
  obtain ⟨us⟩ := us
  match us, hu with
  | [a, b, c], ⟨ha, hb, hc, _⟩ =>
    obtain rfl : a = .int .i64 k := ha
    obtain rfl : b = .int .i64 n := hb
    obtain rfl : c = .string ⟨s.toArray⟩ := hc
    refine (word_text k n s k0 k1 k2 hs w).mono fun e w' ⟨he, hw⟩ => ?_
    subst he
    exact ⟨_, _, rfl, rfl, fun x => rfl, hw⟩
end Go.Proofs.YtdhfipjfgigamaaGreatDoor.Con
/- The walks of place.write. Printed by a program of the session (genconread.py). Own work. -/
set_option linter.unusedVariables false
set_option maxRecDepth 100000
namespace Go.Proofs.YtdhfipjfgigamaaGreatDoor.Con
open Go Go.RowKit Go.Lib OE

theorem write_t2 (m : MD.T) (f : Int) (ht : textP m.1 f = .c (.ptr 0 2)) : FnP Tryz.prog 34 [.agg [.ptr 0 0], .c (.int .u8 f)] (obM m) 1 kp0 (.c (.str (mType m))) (obM m) 1 := by
  have h1 := place_text m f
  rw [ht] at h1
  refine fnP noI Tryz.func34 rfl rfl rfl rfl ?_
  conv => whnf
  refine callp0 [0] rfl rfl (h1) rfl rfl rfl rfl rfl ?_
  conv => whnf
  refine ⟨rfl, ?_, ?_, ?_⟩ <;> (repeat' apply And.intro) <;> first | exact trivial | rfl | assumption
theorem write_t3 (m : MD.T) (f : Int) (ht : textP m.1 f = .c (.ptr 0 3)) : FnP Tryz.prog 34 [.agg [.ptr 0 0], .c (.int .u8 f)] (obM m) 1 kp0 (.c (.str (mName m))) (obM m) 1 := by
  have h1 := place_text m f
  rw [ht] at h1
  refine fnP noI Tryz.func34 rfl rfl rfl rfl ?_
  conv => whnf
  refine callp0 [0] rfl rfl (h1) rfl rfl rfl rfl rfl ?_
  conv => whnf
  refine ⟨rfl, ?_, ?_, ?_⟩ <;> (repeat' apply And.intro) <;> first | exact trivial | rfl | assumption
theorem write_t13 (m : MD.T) (f : Int) (ht : textP m.1 f = .c (.ptr 0 13)) : FnP Tryz.prog 34 [.agg [.ptr 0 0], .c (.int .u8 f)] (obM m) 1 kp0 (.c (.str ((mOp m).2.2.1))) (obM m) 1 := by
  have h1 := place_text m f
  rw [ht] at h1
  refine fnP noI Tryz.func34 rfl rfl rfl rfl ?_
  conv => whnf
  refine callp0 [0] rfl rfl (h1) rfl rfl rfl rfl rfl ?_
  conv => whnf
  refine ⟨rfl, ?_, ?_, ?_⟩ <;> (repeat' apply And.intro) <;> first | exact trivial | rfl | assumption
theorem write_t16 (m : MD.T) (f : Int) (ht : textP m.1 f = .c (.ptr 0 16)) : FnP Tryz.prog 34 [.agg [.ptr 0 0], .c (.int .u8 f)] (obM m) 1 kp0 (.c (.str ((mOp m).2.2.2.2.2.1))) (obM m) 1 := by
  have h1 := place_text m f
  rw [ht] at h1
  refine fnP noI Tryz.func34 rfl rfl rfl rfl ?_
  conv => whnf
  refine callp0 [0] rfl rfl (h1) rfl rfl rfl rfl rfl ?_
  conv => whnf
  refine ⟨rfl, ?_, ?_, ?_⟩ <;> (repeat' apply And.intro) <;> first | exact trivial | rfl | assumption
theorem write_t23 (m : MD.T) (f : Int) (ht : textP m.1 f = .c (.ptr 0 23)) : FnP Tryz.prog 34 [.agg [.ptr 0 0], .c (.int .u8 f)] (obM m) 1 kp0 (.c (.str ((mRule m).2.2.1))) (obM m) 1 := by
  have h1 := place_text m f
  rw [ht] at h1
  refine fnP noI Tryz.func34 rfl rfl rfl rfl ?_
  conv => whnf
  refine callp0 [0] rfl rfl (h1) rfl rfl rfl rfl rfl ?_
  conv => whnf
  refine ⟨rfl, ?_, ?_, ?_⟩ <;> (repeat' apply And.intro) <;> first | exact trivial | rfl | assumption
theorem write_t24 (m : MD.T) (f : Int) (ht : textP m.1 f = .c (.ptr 0 24)) : FnP Tryz.prog 34 [.agg [.ptr 0 0], .c (.int .u8 f)] (obM m) 1 kp0 (.c (.str ((mRule m).2.2.2.1))) (obM m) 1 := by
  have h1 := place_text m f
  rw [ht] at h1
  refine fnP noI Tryz.func34 rfl rfl rfl rfl ?_
  conv => whnf
  refine callp0 [0] rfl rfl (h1) rfl rfl rfl rfl rfl ?_
  conv => whnf
  refine ⟨rfl, ?_, ?_, ?_⟩ <;> (repeat' apply And.intro) <;> first | exact trivial | rfl | assumption
theorem write_t25 (m : MD.T) (f : Int) (ht : textP m.1 f = .c (.ptr 0 25)) : FnP Tryz.prog 34 [.agg [.ptr 0 0], .c (.int .u8 f)] (obM m) 1 kp0 (.c (.str ((mRule m).2.2.2.2.1))) (obM m) 1 := by
  have h1 := place_text m f
  rw [ht] at h1
  refine fnP noI Tryz.func34 rfl rfl rfl rfl ?_
  conv => whnf
  refine callp0 [0] rfl rfl (h1) rfl rfl rfl rfl rfl ?_
  conv => whnf
  refine ⟨rfl, ?_, ?_, ?_⟩ <;> (repeat' apply And.intro) <;> first | exact trivial | rfl | assumption
theorem write_t26 (m : MD.T) (f : Int) (ht : textP m.1 f = .c (.ptr 0 26)) : FnP Tryz.prog 34 [.agg [.ptr 0 0], .c (.int .u8 f)] (obM m) 1 kp0 (.c (.str ((mRule m).2.2.2.2.2.1))) (obM m) 1 := by
  have h1 := place_text m f
  rw [ht] at h1
  refine fnP noI Tryz.func34 rfl rfl rfl rfl ?_
  conv => whnf
  refine callp0 [0] rfl rfl (h1) rfl rfl rfl rfl rfl ?_
  conv => whnf
  refine ⟨rfl, ?_, ?_, ?_⟩ <;> (repeat' apply And.intro) <;> first | exact trivial | rfl | assumption
theorem write_v4 (m : MD.T) (f : Int) (ht : textP m.1 f = nilP) (hv : valueP m.1 f = .c (.ptr 0 4)) (r0 : -9223372036854775808 ≤ ((mV m).2.1 : Int)) (r1 : ((mV m).2.1 : Int) ≤ 9223372036854775807) (r2 : (mV m).2.2.length ≤ 35184372088832) : FnP Tryz.prog 34 [.agg [.ptr 0 0], .c (.int .u8 f)] (obM m) 1 kp0 (.c (.str (wordV (mV m)))) (obM m) 1 := by
  have h1 := place_text m f
  rw [ht] at h1
  have h2 := place_value m f
  rw [hv] at h2
  refine fnP noI Tryz.func34 rfl rfl rfl rfl ?_
  conv => whnf
  refine callp0 [0] rfl rfl (h1) rfl rfl rfl rfl rfl ?_
  conv => whnf
  refine callp0 [0] rfl rfl (h2) rfl rfl rfl rfl rfl ?_
  conv => whnf
  refine call1 (console_word (mV m) r0 r1 r2) rfl ?_
  conv => whnf
  refine ⟨rfl, ?_, ?_, ?_⟩ <;> (repeat' apply And.intro) <;> first | exact trivial | rfl | assumption
theorem write_v7 (m : MD.T) (f : Int) (ht : textP m.1 f = nilP) (hv : valueP m.1 f = .c (.ptr 0 7)) (r0 : -9223372036854775808 ≤ ((mTo m).2.1 : Int)) (r1 : ((mTo m).2.1 : Int) ≤ 9223372036854775807) (r2 : (mTo m).2.2.length ≤ 35184372088832) : FnP Tryz.prog 34 [.agg [.ptr 0 0], .c (.int .u8 f)] (obM m) 1 kp0 (.c (.str (wordV (mTo m)))) (obM m) 1 := by
  have h1 := place_text m f
  rw [ht] at h1
  have h2 := place_value m f
  rw [hv] at h2
  refine fnP noI Tryz.func34 rfl rfl rfl rfl ?_
  conv => whnf
  refine callp0 [0] rfl rfl (h1) rfl rfl rfl rfl rfl ?_
  conv => whnf
  refine callp0 [0] rfl rfl (h2) rfl rfl rfl rfl rfl ?_
  conv => whnf
  refine call1 (console_word (mTo m) r0 r1 r2) rfl ?_
  conv => whnf
  refine ⟨rfl, ?_, ?_, ?_⟩ <;> (repeat' apply And.intro) <;> first | exact trivial | rfl | assumption
theorem write_v17 (m : MD.T) (f : Int) (ht : textP m.1 f = nilP) (hv : valueP m.1 f = .c (.ptr 0 17)) (r0 : -9223372036854775808 ≤ ((oV (mOp m)).2.1 : Int)) (r1 : ((oV (mOp m)).2.1 : Int) ≤ 9223372036854775807) (r2 : (oV (mOp m)).2.2.length ≤ 35184372088832) : FnP Tryz.prog 34 [.agg [.ptr 0 0], .c (.int .u8 f)] (obM m) 1 kp0 (.c (.str (wordV (oV (mOp m))))) (obM m) 1 := by
  have h1 := place_text m f
  rw [ht] at h1
  have h2 := place_value m f
  rw [hv] at h2
  refine fnP noI Tryz.func34 rfl rfl rfl rfl ?_
  conv => whnf
  refine callp0 [0] rfl rfl (h1) rfl rfl rfl rfl rfl ?_
  conv => whnf
  refine callp0 [0] rfl rfl (h2) rfl rfl rfl rfl rfl ?_
  conv => whnf
  refine call1 (console_word (oV (mOp m)) r0 r1 r2) rfl ?_
  conv => whnf
  refine ⟨rfl, ?_, ?_, ?_⟩ <;> (repeat' apply And.intro) <;> first | exact trivial | rfl | assumption
theorem write_i1 (m : MD.T) (f : Int) (ht : textP m.1 f = nilP) (hv : valueP m.1 f = nilP) (hi : idP m.1 f = .c (.ptr 0 1)) (r0 : -9223372036854775808 ≤ (m.2.1 : Int)) (r1 : (m.2.1 : Int) ≤ 9223372036854775807) : FnP Tryz.prog 34 [.agg [.ptr 0 0], .c (.int .u8 f)] (obM m) 1 kp0 (.c (.str (itoa (m.2.1)))) (obM m) 1 := by
  have h1 := place_text m f
  rw [ht] at h1
  have h2 := place_value m f
  rw [hv] at h2
  have h3 := place_id m f
  rw [hi] at h3
  refine fnP noI Tryz.func34 rfl rfl rfl rfl ?_
  conv => whnf
  refine callp0 [0] rfl rfl (h1) rfl rfl rfl rfl rfl ?_
  conv => whnf
  refine callp0 [0] rfl rfl (h2) rfl rfl rfl rfl rfl ?_
  conv => whnf
  refine callp0 [0] rfl rfl (h3) rfl rfl rfl rfl rfl ?_
  conv => whnf
  refine call1 (lib_FormatInt (m.2.1) r0 r1) rfl ?_
  conv => whnf
  refine ⟨rfl, ?_, ?_, ?_⟩ <;> (repeat' apply And.intro) <;> first | exact trivial | rfl | assumption
theorem write_i12 (m : MD.T) (f : Int) (ht : textP m.1 f = nilP) (hv : valueP m.1 f = nilP) (hi : idP m.1 f = .c (.ptr 0 12)) (r0 : -9223372036854775808 ≤ ((mOp m).2.1 : Int)) (r1 : ((mOp m).2.1 : Int) ≤ 9223372036854775807) : FnP Tryz.prog 34 [.agg [.ptr 0 0], .c (.int .u8 f)] (obM m) 1 kp0 (.c (.str (itoa ((mOp m).2.1)))) (obM m) 1 := by
  have h1 := place_text m f
  rw [ht] at h1
  have h2 := place_value m f
  rw [hv] at h2
  have h3 := place_id m f
  rw [hi] at h3
  refine fnP noI Tryz.func34 rfl rfl rfl rfl ?_
  conv => whnf
  refine callp0 [0] rfl rfl (h1) rfl rfl rfl rfl rfl ?_
  conv => whnf
  refine callp0 [0] rfl rfl (h2) rfl rfl rfl rfl rfl ?_
  conv => whnf
  refine callp0 [0] rfl rfl (h3) rfl rfl rfl rfl rfl ?_
  conv => whnf
  refine call1 (lib_FormatInt ((mOp m).2.1) r0 r1) rfl ?_
  conv => whnf
  refine ⟨rfl, ?_, ?_, ?_⟩ <;> (repeat' apply And.intro) <;> first | exact trivial | rfl | assumption
theorem write_i14 (m : MD.T) (f : Int) (ht : textP m.1 f = nilP) (hv : valueP m.1 f = nilP) (hi : idP m.1 f = .c (.ptr 0 14)) (r0 : -9223372036854775808 ≤ ((mOp m).2.2.2.1 : Int)) (r1 : ((mOp m).2.2.2.1 : Int) ≤ 9223372036854775807) : FnP Tryz.prog 34 [.agg [.ptr 0 0], .c (.int .u8 f)] (obM m) 1 kp0 (.c (.str (itoa ((mOp m).2.2.2.1)))) (obM m) 1 := by
  have h1 := place_text m f
  rw [ht] at h1
  have h2 := place_value m f
  rw [hv] at h2
  have h3 := place_id m f
  rw [hi] at h3
  refine fnP noI Tryz.func34 rfl rfl rfl rfl ?_
  conv => whnf
  refine callp0 [0] rfl rfl (h1) rfl rfl rfl rfl rfl ?_
  conv => whnf
  refine callp0 [0] rfl rfl (h2) rfl rfl rfl rfl rfl ?_
  conv => whnf
  refine callp0 [0] rfl rfl (h3) rfl rfl rfl rfl rfl ?_
  conv => whnf
  refine call1 (lib_FormatInt ((mOp m).2.2.2.1) r0 r1) rfl ?_
  conv => whnf
  refine ⟨rfl, ?_, ?_, ?_⟩ <;> (repeat' apply And.intro) <;> first | exact trivial | rfl | assumption
theorem write_i15 (m : MD.T) (f : Int) (ht : textP m.1 f = nilP) (hv : valueP m.1 f = nilP) (hi : idP m.1 f = .c (.ptr 0 15)) (r0 : -9223372036854775808 ≤ ((mOp m).2.2.2.2.1 : Int)) (r1 : ((mOp m).2.2.2.2.1 : Int) ≤ 9223372036854775807) : FnP Tryz.prog 34 [.agg [.ptr 0 0], .c (.int .u8 f)] (obM m) 1 kp0 (.c (.str (itoa ((mOp m).2.2.2.2.1)))) (obM m) 1 := by
  have h1 := place_text m f
  rw [ht] at h1
  have h2 := place_value m f
  rw [hv] at h2
  have h3 := place_id m f
  rw [hi] at h3
  refine fnP noI Tryz.func34 rfl rfl rfl rfl ?_
  conv => whnf
  refine callp0 [0] rfl rfl (h1) rfl rfl rfl rfl rfl ?_
  conv => whnf
  refine callp0 [0] rfl rfl (h2) rfl rfl rfl rfl rfl ?_
  conv => whnf
  refine callp0 [0] rfl rfl (h3) rfl rfl rfl rfl rfl ?_
  conv => whnf
  refine call1 (lib_FormatInt ((mOp m).2.2.2.2.1) r0 r1) rfl ?_
  conv => whnf
  refine ⟨rfl, ?_, ?_, ?_⟩ <;> (repeat' apply And.intro) <;> first | exact trivial | rfl | assumption
theorem write_n10 (m : MD.T) (f : Int) (ht : textP m.1 f = nilP) (hv : valueP m.1 f = nilP) (hi : idP m.1 f = nilP) (hn : nP m.1 = .c (.ptr 0 10)) (r0 : -9223372036854775808 ≤ (mN m : Int)) (r1 : (mN m : Int) ≤ 9223372036854775807) : FnP Tryz.prog 34 [.agg [.ptr 0 0], .c (.int .u8 f)] (obM m) 1 kp0 (.c (.str (itoa (mN m)))) (obM m) 1 := by
  have h1 := place_text m f
  rw [ht] at h1
  have h2 := place_value m f
  rw [hv] at h2
  have h3 := place_id m f
  rw [hi] at h3
  have h4 := place_n m
  rw [hn] at h4
  refine fnP noI Tryz.func34 rfl rfl rfl rfl ?_
  conv => whnf
  refine callp0 [0] rfl rfl (h1) rfl rfl rfl rfl rfl ?_
  conv => whnf
  refine callp0 [0] rfl rfl (h2) rfl rfl rfl rfl rfl ?_
  conv => whnf
  refine callp0 [0] rfl rfl (h3) rfl rfl rfl rfl rfl ?_
  conv => whnf
  refine callp0 [0] rfl rfl (h4) rfl rfl rfl rfl rfl ?_
  conv => whnf
  refine call1 (lib_Itoa (mN m) r0 r1) rfl ?_
  conv => whnf
  refine ⟨rfl, ?_, ?_, ?_⟩ <;> (repeat' apply And.intro) <;> first | exact trivial | rfl | assumption
theorem write_n27 (m : MD.T) (f : Int) (ht : textP m.1 f = nilP) (hv : valueP m.1 f = nilP) (hi : idP m.1 f = nilP) (hn : nP m.1 = .c (.ptr 0 27)) (r0 : -9223372036854775808 ≤ ((mRule m).2.2.2.2.2.2.1 : Int)) (r1 : ((mRule m).2.2.2.2.2.2.1 : Int) ≤ 9223372036854775807) : FnP Tryz.prog 34 [.agg [.ptr 0 0], .c (.int .u8 f)] (obM m) 1 kp0 (.c (.str (itoa ((mRule m).2.2.2.2.2.2.1)))) (obM m) 1 := by
  have h1 := place_text m f
  rw [ht] at h1
  have h2 := place_value m f
  rw [hv] at h2
  have h3 := place_id m f
  rw [hi] at h3
  have h4 := place_n m
  rw [hn] at h4
  refine fnP noI Tryz.func34 rfl rfl rfl rfl ?_
  conv => whnf
  refine callp0 [0] rfl rfl (h1) rfl rfl rfl rfl rfl ?_
  conv => whnf
  refine callp0 [0] rfl rfl (h2) rfl rfl rfl rfl rfl ?_
  conv => whnf
  refine callp0 [0] rfl rfl (h3) rfl rfl rfl rfl rfl ?_
  conv => whnf
  refine callp0 [0] rfl rfl (h4) rfl rfl rfl rfl rfl ?_
  conv => whnf
  refine call1 (lib_Itoa ((mRule m).2.2.2.2.2.2.1) r0 r1) rfl ?_
  conv => whnf
  refine ⟨rfl, ?_, ?_, ?_⟩ <;> (repeat' apply And.intro) <;> first | exact trivial | rfl | assumption
/-- numbers and texts that can be written -/
structure WrM (m : MD.T) : Prop where
  w : Wf MD m
  v : (mV m).2.2.length ≤ 35184372088832
  to : (mTo m).2.2.length ≤ 35184372088832
  ov : (oV (mOp m)).2.2.length ≤ 35184372088832
theorem place_write (m : MD.T) (f : Int) (hf : fW f) (hm : WrM m) : FnP Tryz.prog 34 [.agg [.ptr 0 0], .c (.int .u8 f)] (obM m) 1 kp0 (.c (.str (writeM m f))) (obM m) 1 := by
  rcases hf with rfl | rfl | rfl | rfl | rfl | rfl | rfl | rfl | rfl | rfl | rfl
  · by_cases k6 : m.1 = 6
    · rw [show writeM m 116 = (mOp m).2.2.1 by simp [writeM, k6]]; exact write_t13 m _ (by simp [textP, k6])
    · by_cases k16 : m.1 = 16
      · rw [show writeM m 116 = (mRule m).2.2.1 by simp [writeM, k6, k16]]; exact write_t23 m _ (by simp [textP, k6, k16])
      · rw [show writeM m 116 = mType m by simp [writeM, k6, k16]]; exact write_t2 m _ (by simp [textP, k6, k16])
  · by_cases k6 : m.1 = 6
    · rw [show writeM m 101 = itoa (mN m) by simp [writeM, writeV, k6]]; exact write_n10 m _ (by simp [textP, k6]) (by simp [valueP, k6]) (by simp [idP, k6]) (by simp [nP, k6]) (wf_i64 hm.w.2.2.2.2.2.2.1).1 (wf_i64 hm.w.2.2.2.2.2.2.1).2
    · by_cases k16 : m.1 = 16
      · rw [show writeM m 101 = itoa ((mRule m).2.2.2.2.2.2.1) by simp [writeM, writeV, k6, k16]]; exact write_n27 m _ (by simp [textP, k6, k16]) (by simp [valueP, k6, k16]) (by simp [idP, k6, k16]) (by simp [nP, k6, k16]) (wf_i64 hm.w.2.2.2.2.2.2.2.2.2.2.2.2.2.2.1).1 (wf_i64 hm.w.2.2.2.2.2.2.2.2.2.2.2.2.2.2.1).2
      · rw [show writeM m 101 = mType m by simp [writeM, k6, k16]]; exact write_t2 m _ (by simp [textP, k6, k16])
  · by_cases k6 : m.1 = 6
    · rw [show writeM m 110 = (mOp m).2.2.2.2.2.1 by simp [writeM, k6]]; exact write_t16 m _ (by simp [textP, k6])
    · by_cases k16 : m.1 = 16
      · rw [show writeM m 110 = (mRule m).2.2.2.1 by simp [writeM, k6, k16]]; exact write_t24 m _ (by simp [textP, k6, k16])
      · rw [show writeM m 110 = mName m by simp [writeM, k6, k16]]; exact write_t3 m _ (by simp [textP, k6, k16])
  · by_cases k6 : m.1 = 6
    · rw [show writeM m 105 = itoa ((mOp m).2.1) by simp [writeM, writeV, k6]]; exact write_i12 m _ (by simp [textP, k6]) (by simp [valueP, k6]) (by simp [idP, k6]) (wf_i64 hm.w.2.2.2.2.2.2.2.1.2.1).1 (wf_i64 hm.w.2.2.2.2.2.2.2.1.2.1).2
    · by_cases k16 : m.1 = 16
      · rw [show writeM m 105 = itoa (m.2.1) by simp [writeM, writeV, k6, k16]]; exact write_i1 m _ (by simp [textP, k6, k16]) (by simp [valueP, k6, k16]) (by simp [idP, k6, k16]) (wf_i64 hm.w.2.1).1 (wf_i64 hm.w.2.1).2
      · rw [show writeM m 105 = itoa (m.2.1) by simp [writeM, writeV, k6, k16]]; exact write_i1 m _ (by simp [textP, k6, k16]) (by simp [valueP, k6, k16]) (by simp [idP, k6, k16]) (wf_i64 hm.w.2.1).1 (wf_i64 hm.w.2.1).2
  · by_cases k6 : m.1 = 6
    · rw [show writeM m 118 = wordV (oV (mOp m)) by simp [writeM, writeV, k6]]; exact write_v17 m _ (by simp [textP, k6]) (by simp [valueP, k6]) (wf_i64 hm.w.2.2.2.2.2.2.2.1.2.2.2.2.2.2.1.2.1).1 (wf_i64 hm.w.2.2.2.2.2.2.2.1.2.2.2.2.2.2.1.2.1).2 hm.ov
    · by_cases k16 : m.1 = 16
      · rw [show writeM m 118 = wordV (mV m) by simp [writeM, writeV, k6, k16]]; exact write_v4 m _ (by simp [textP, k6, k16]) (by simp [valueP, k6, k16]) (wf_i64 hm.w.2.2.2.2.1.2.1).1 (wf_i64 hm.w.2.2.2.2.1.2.1).2 hm.v
      · rw [show writeM m 118 = wordV (mV m) by simp [writeM, writeV, k6, k16]]; exact write_v4 m _ (by simp [textP, k6, k16]) (by simp [valueP, k6, k16]) (wf_i64 hm.w.2.2.2.2.1.2.1).1 (wf_i64 hm.w.2.2.2.2.1.2.1).2 hm.v
  · by_cases k6 : m.1 = 6
    · rw [show writeM m 119 = wordV (mTo m) by simp [writeM, writeV, k6]]; exact write_v7 m _ (by simp [textP, k6]) (by simp [valueP, k6]) (wf_i64 hm.w.2.2.2.2.2.1.2.1).1 (wf_i64 hm.w.2.2.2.2.2.1.2.1).2 hm.to
    · by_cases k16 : m.1 = 16
      · rw [show writeM m 119 = wordV (mTo m) by simp [writeM, writeV, k6, k16]]; exact write_v7 m _ (by simp [textP, k6, k16]) (by simp [valueP, k6, k16]) (wf_i64 hm.w.2.2.2.2.2.1.2.1).1 (wf_i64 hm.w.2.2.2.2.2.1.2.1).2 hm.to
      · rw [show writeM m 119 = wordV (mTo m) by simp [writeM, writeV, k6, k16]]; exact write_v7 m _ (by simp [textP, k6, k16]) (by simp [valueP, k6, k16]) (wf_i64 hm.w.2.2.2.2.2.1.2.1).1 (wf_i64 hm.w.2.2.2.2.2.1.2.1).2 hm.to
  · by_cases k6 : m.1 = 6
    · rw [show writeM m 107 = itoa (mN m) by simp [writeM, writeV, k6]]; exact write_n10 m _ (by simp [textP, k6]) (by simp [valueP, k6]) (by simp [idP, k6]) (by simp [nP, k6]) (wf_i64 hm.w.2.2.2.2.2.2.1).1 (wf_i64 hm.w.2.2.2.2.2.2.1).2
    · by_cases k16 : m.1 = 16
      · rw [show writeM m 107 = itoa ((mRule m).2.2.2.2.2.2.1) by simp [writeM, writeV, k6, k16]]; exact write_n27 m _ (by simp [textP, k6, k16]) (by simp [valueP, k6, k16]) (by simp [idP, k6, k16]) (by simp [nP, k6, k16]) (wf_i64 hm.w.2.2.2.2.2.2.2.2.2.2.2.2.2.2.1).1 (wf_i64 hm.w.2.2.2.2.2.2.2.2.2.2.2.2.2.2.1).2
      · rw [show writeM m 107 = itoa (mN m) by simp [writeM, writeV, k6, k16]]; exact write_n10 m _ (by simp [textP, k6, k16]) (by simp [valueP, k6, k16]) (by simp [idP, k6, k16]) (by simp [nP, k6, k16]) (wf_i64 hm.w.2.2.2.2.2.2.1).1 (wf_i64 hm.w.2.2.2.2.2.2.1).2
  · by_cases k6 : m.1 = 6
    · rw [show writeM m 102 = itoa (mN m) by simp [writeM, writeV, k6]]; exact write_n10 m _ (by simp [textP, k6]) (by simp [valueP, k6]) (by simp [idP, k6]) (by simp [nP, k6]) (wf_i64 hm.w.2.2.2.2.2.2.1).1 (wf_i64 hm.w.2.2.2.2.2.2.1).2
    · by_cases k16 : m.1 = 16
      · rw [show writeM m 102 = (mRule m).2.2.2.2.1 by simp [writeM, k6, k16]]; exact write_t25 m _ (by simp [textP, k6, k16])
      · rw [show writeM m 102 = itoa (mN m) by simp [writeM, writeV, k6, k16]]; exact write_n10 m _ (by simp [textP, k6, k16]) (by simp [valueP, k6, k16]) (by simp [idP, k6, k16]) (by simp [nP, k6, k16]) (wf_i64 hm.w.2.2.2.2.2.2.1).1 (wf_i64 hm.w.2.2.2.2.2.2.1).2
  · by_cases k6 : m.1 = 6
    · rw [show writeM m 103 = itoa (mN m) by simp [writeM, writeV, k6]]; exact write_n10 m _ (by simp [textP, k6]) (by simp [valueP, k6]) (by simp [idP, k6]) (by simp [nP, k6]) (wf_i64 hm.w.2.2.2.2.2.2.1).1 (wf_i64 hm.w.2.2.2.2.2.2.1).2
    · by_cases k16 : m.1 = 16
      · rw [show writeM m 103 = (mRule m).2.2.2.2.2.1 by simp [writeM, k6, k16]]; exact write_t26 m _ (by simp [textP, k6, k16])
      · rw [show writeM m 103 = itoa (mN m) by simp [writeM, writeV, k6, k16]]; exact write_n10 m _ (by simp [textP, k6, k16]) (by simp [valueP, k6, k16]) (by simp [idP, k6, k16]) (by simp [nP, k6, k16]) (wf_i64 hm.w.2.2.2.2.2.2.1).1 (wf_i64 hm.w.2.2.2.2.2.2.1).2
  · by_cases k6 : m.1 = 6
    · rw [show writeM m 97 = itoa ((mOp m).2.2.2.1) by simp [writeM, writeV, k6]]; exact write_i14 m _ (by simp [textP, k6]) (by simp [valueP, k6]) (by simp [idP, k6]) (wf_i64 hm.w.2.2.2.2.2.2.2.1.2.2.2.1).1 (wf_i64 hm.w.2.2.2.2.2.2.2.1.2.2.2.1).2
    · by_cases k16 : m.1 = 16
      · rw [show writeM m 97 = itoa ((mOp m).2.2.2.1) by simp [writeM, writeV, k6, k16]]; exact write_i14 m _ (by simp [textP, k6, k16]) (by simp [valueP, k6, k16]) (by simp [idP, k6, k16]) (wf_i64 hm.w.2.2.2.2.2.2.2.1.2.2.2.1).1 (wf_i64 hm.w.2.2.2.2.2.2.2.1.2.2.2.1).2
      · rw [show writeM m 97 = itoa ((mOp m).2.2.2.1) by simp [writeM, writeV, k6, k16]]; exact write_i14 m _ (by simp [textP, k6, k16]) (by simp [valueP, k6, k16]) (by simp [idP, k6, k16]) (wf_i64 hm.w.2.2.2.2.2.2.2.1.2.2.2.1).1 (wf_i64 hm.w.2.2.2.2.2.2.2.1.2.2.2.1).2
  · by_cases k6 : m.1 = 6
    · rw [show writeM m 98 = itoa ((mOp m).2.2.2.2.1) by simp [writeM, writeV, k6]]; exact write_i15 m _ (by simp [textP, k6]) (by simp [valueP, k6]) (by simp [idP, k6]) (wf_i64 hm.w.2.2.2.2.2.2.2.1.2.2.2.2.1).1 (wf_i64 hm.w.2.2.2.2.2.2.2.1.2.2.2.2.1).2
    · by_cases k16 : m.1 = 16
      · rw [show writeM m 98 = itoa ((mOp m).2.2.2.2.1) by simp [writeM, writeV, k6, k16]]; exact write_i15 m _ (by simp [textP, k6, k16]) (by simp [valueP, k6, k16]) (by simp [idP, k6, k16]) (wf_i64 hm.w.2.2.2.2.2.2.2.1.2.2.2.2.1).1 (wf_i64 hm.w.2.2.2.2.2.2.2.1.2.2.2.2.1).2
      · rw [show writeM m 98 = itoa ((mOp m).2.2.2.2.1) by simp [writeM, writeV, k6, k16]]; exact write_i15 m _ (by simp [textP, k6, k16]) (by simp [valueP, k6, k16]) (by simp [idP, k6, k16]) (wf_i64 hm.w.2.2.2.2.2.2.2.1.2.2.2.2.1).1 (wf_i64 hm.w.2.2.2.2.2.2.2.1.2.2.2.2.1).2
end Go.Proofs.YtdhfipjfgigamaaGreatDoor.Con
/- The walk of Line. Own work. -/
set_option linter.unusedVariables false
set_option maxRecDepth 100000
namespace Go.Proofs.YtdhfipjfgigamaaGreatDoor.Con
open Go Go.RowKit Go.Lib OE

theorem rl_val {x : Cx} {n : Int} : ∀ {L : List (Bool × List C)} {vs : List Value}, RL (RP x) (L ++ [(false, [.int .i64 n])]) vs → RL (RP x) (L ++ [(false, [.val (.int .i64 n)])]) vs
  | [], [], hv => hv.elim
  | [], v :: vs, ⟨h1, h2⟩ => by
    refine ⟨?_, h2⟩
    unfold RP at h1 ⊢
    simp only [Bool.false_eq_true, if_false] at h1 ⊢
    obtain ⟨y, hy, h3⟩ := h1
    simp only [List.cons.injEq, and_true] at hy
    subst hy
    exact ⟨_, rfl, h3, rfl⟩
  | _ :: L, [], hv => hv.elim
  | _ :: L, v :: vs, ⟨h1, h2⟩ => ⟨h1, rl_val h2⟩
theorem outW_app (m : MD.T) (f : UInt8) : ∀ l : List UInt8, outW m (l ++ [f]) = outW m l ++ (if f = 101 ∧ mType m = [] then [] else [writeM m f.toNat])
  | [] => by
    show (if f = 101 ∧ mType m = [] then outW m [] else writeM m f.toNat :: outW m []) = _
    split <;> rfl
  | g :: l => by
    have ih := outW_app m f l
    show (if g = 101 ∧ mType m = [] then outW m (l ++ [f]) else writeM m g.toNat :: outW m (l ++ [f])) = (if g = 101 ∧ mType m = [] then outW m l else writeM m g.toNat :: outW m l) ++ _
    rw [ih]
    split <;> rfl
theorem outW_len (m : MD.T) : ∀ l : List UInt8, (outW m l).length ≤ l.length
  | [] => Nat.le_refl _
  | f :: l => by
    have := outW_len m l
    unfold outW
    split
    · rw [List.length_cons]; omega
    · rw [List.length_cons, List.length_cons]; omega
/-- a comparison of two numbers that are known is known -/
theorem eqk_rule {E : En} {cur : FI} {all : Array Oper} {o : Oper} {l : List Oper} {r : List It} {fr : List (Nat × SV)} {hp : List (Nat × Ob)} {nx : Nat} {stk : List Fm} {t rt : TypeId} {x y : Operand} {a b : Int} {c : BE}
    (ho : o.op = .binOp .eql t x y rt) (hx : ev fr x = .c (.val (.int .i64 a))) (hy : ev fr y = .c (.int .i64 b)) (hc : c.v = decide (a = b))
    (hm : Mean E cur (.ops all l :: r) ⟨putF cur.nt fr o.dst (.c (.bool c)), hp, nx⟩ stk) : StuckOk E cur all o l r ⟨fr, hp, nx⟩ stk := by
  refine stuck_rule fun w0 η S A w hR => ?_
  have hxv := ev_sound hR.2.1 x
  rw [hx] at hxv
  have hxv : A.eval x = .int .i64 a := hxv.1
  have hyv := ev_sound hR.2.1 y
  rw [hy] at hyv
  have hyv : A.eval y = .int .i64 b := hyv
  obtain ⟨_, h⟩ := binI_sound (P := E.P) (op := .eql) (k := .i64) (a := a) (b := b) rfl rfl t
  obtain ⟨c', hc', v, hv, hrun⟩ := h trivial
  have hc2 : c' = .bool (.sym (decide (a = b))) := by cases hc'; rfl
  subst hc2
  obtain rfl : v = .bool (decide (a = b)) := hv (cxS w0 hp (lt nx) η w)
  refine ⟨.c (.bool c), .bool (decide (a = b)), w, η, hp, nx, ?_, hR.1.1, Cx.le.refl _, by show Value.bool _ = .bool c.v; rw [hc], hm⟩
  simp only [execOp, ho, hxv, hyv]
  rw [Sem.run_bind, Sem.run_bind, run_eqGuard (fun _ h => by cases h) (fun h => by cases h)]
  simp only [Result.andThen_ok]
  rw [hrun]
  rfl
section
variable {inl : Nat → Option (FI × Code)} [hI : InlOk inl] {post : SV → St → Prop} {cur : FI} {all : Array Oper} {o : Oper} {l : List Oper} {r : List It} {fr : List (Nat × SV)} {hp : List (Nat × Ob)} {nx : Nat} {stk : List Fm}
theorem eqk0 {t rt : TypeId} {x y : Operand} {a b : Int} (c : BE) (ho : o.op = .binOp .eql t x y rt) (hx : ev fr x = .c (.val (.int .i64 a))) (hy : ev fr y = .c (.int .i64 b)) (hc : c.v = decide (a = b))
    (hm : fcF (fun fr' => go (EnI inl post) 100000 cur (.ops all l :: r) ⟨fr', hp, nx⟩ stk) (putF cur.nt fr o.dst (.c (.bool c)))) : StuckOk (EnI inl post) cur all o l r ⟨fr, hp, nx⟩ stk :=
  eqk_rule (E := EnI inl post) ho hx hy hc (go0 (by rw [fcF_eq] at hm; exact hm))
end
theorem FnD_val {P : Program} {f : Nat} {args : List SV} {L : List (Bool × List C)} {n : Int} (h : FnD P f args (· = .tup (L ++ [(false, [.int .i64 n])]))) : FnD P f args (· = .tup (L ++ [(false, [.val (.int .i64 n)])])) :=
  h.res fun r hr w ok v hv => by
    subst hr
    obtain ⟨vs, e, hl⟩ := hv
    exact ⟨vs, e, rl_val hl⟩
theorem console_Line (m : MD.T) (hm : WrM m) (hL : ∀ x ∈ formsL, (lineX x m).length ≤ 100000) : FnD Tryz.prog 13 [.agg (mc m)] (· = .tup [(false, [.str (linL m)]), (false, [.int .i64 (linE m)])]) := by
  show FnD _ _ _ (· = .tup [(false, [.str ((lF formsL m).getD [])]), (false, [.int .i64 (if (lF formsL m).isSome = true then 0 else 11)])])
  refine fn0 Tryz.func13 rfl rfl rfl ?_
  conv => whnf
  refine loop0 (α := Nat) (fun j => j ≤ 28 ∧ lF (formsL.drop j) m = lF formsL m) (fun j => ⟨[(1, .c (.ptr 0 0)), (11, .arr FD formsL), (12, .c (.int .i64 j))], [(0, .cells 30 (mc m))], 1⟩) (fun j => 28 - j) ⟨0, ⟨by decide, rfl⟩, ?_⟩ ?_
  · (conv => whnf); refine ⟨rfl, ?_, ?_, ?_⟩ <;> (repeat' apply And.intro) <;> first | exact trivial | rfl | exact wr_succ _ (by omega) | assumption | exact decide_eq_false (by assumption) | exact decide_eq_true (by assumption)
  rintro j ⟨hj, hI⟩
  conv => whnf
  refine ⟨fun c => ?_, fun c => ?_⟩
  · have c : j < 28 := by have := of_decide_eq_true c; omega
    obtain ⟨x, hx, hd, hmx⟩ := form_at c
    have hxl : x.2.2.2.length ≤ 4 ∧ ∀ f ∈ x.2.2.2, fW f.toNat := forms_ok x hmx
    rw [hd] at hI
    conv => whnf
    refine ⟨⟨by omega, by show (j : Int) < 28; omega⟩, ?_⟩
    rw [hx]
    conv => whnf
    refine ⟨fun h => ?_, fun h => ?_⟩
    · have h : ¬ x.2.1 = m.1 := by simpa using h
      conv => whnf
      refine ⟨j + 1, ⟨⟨by omega, ?_⟩, by omega⟩, ?_⟩
      · rw [← hI]
        show _ = (if (x.2.1 : Int) = m.1 then _ else lF (formsL.drop (j + 1)) m)
        rw [if_neg h]
      · (conv => whnf); refine ⟨rfl, ?_, ?_, ?_⟩ <;> (repeat' apply And.intro) <;> first | exact trivial | rfl | exact wr_succ _ (by omega) | assumption | exact decide_eq_false (by assumption) | exact decide_eq_true (by assumption)
    have h : x.2.1 = m.1 := by simpa using h
    conv => whnf
    refine loop0 (α := Nat) (fun i => i ≤ x.2.2.2.length) (fun i => ⟨[(1, .c (.ptr 0 0)), (5, .c (.ptr 1 0)), (6, .c (.row 2)), (11, .arr FD formsL), (12, .c (.int .i64 j)), (25, .c (.int .i64 x.2.2.2.length)), (26, .c (.int .i64 i))], [(0, .cells 30 (mc m)), (1, .cells 61 (fx x)), (2, .row 9 .str (x.1 :: outW m (x.2.2.2.take i)))], 3⟩) (fun i => x.2.2.2.length - i) ⟨0, Nat.zero_le _, ?_⟩ ?_
    · (conv => whnf); refine ⟨rfl, ?_, ?_, ?_⟩ <;> (repeat' apply And.intro) <;> first | exact trivial | rfl | exact wr_succ _ (by omega) | assumption | exact decide_eq_false (by assumption) | exact decide_eq_true (by assumption)
    intro i hi
    conv => whnf
    refine ⟨fun b => ?_, fun b => ?_⟩
    · have b : i < x.2.2.2.length := by have := of_decide_eq_true b; omega
      have hbt : bt x.2.2.2 (i : Int) = ((x.2.2.2[i]).toNat : Int) := bt_nat _ _ b
      have hfw : fW ((x.2.2.2[i]).toNat : Int) := hxl.2 _ (List.getElem_mem b)
      have hout := outW_app m x.2.2.2[i] (x.2.2.2.take i)
      have htk : x.2.2.2.take i ++ [x.2.2.2[i]] = x.2.2.2.take (i + 1) := by rw [List.take_add_one, List.getElem?_eq_getElem b]; rfl
      rw [htk] at hout
      have hol := outW_len m (x.2.2.2.take i)
      rw [List.length_take] at hol
      conv => whnf
      refine ⟨by omega, ?_⟩
      rw [hbt]
      conv => whnf
      refine ⟨fun g => ?_, fun g => ?_⟩
      · have g : ¬ (x.2.2.2[i] = 101 ∧ mType m = []) := by
          rintro ⟨g1, g2⟩
          rw [g1] at g
          have g2 : m.2.2.1 = [] := g2
          rw [g2] at g
          cases g
        rw [if_neg g] at hout
        conv => whnf
        refine ⟨by omega, ?_⟩
        rw [hbt]
        conv => whnf
        refine callp0 [0] rfl rfl ((place_write m _ hfw hm)) rfl rfl rfl rfl rfl ?_
        conv => whnf
        refine ⟨by show (_ + 1) * 16 ≤ 140737488355328; rw [List.length_cons]; omega, ?_⟩
        conv => whnf
        refine ⟨i + 1, ⟨by omega, by omega⟩, ?_⟩
        rw [hout]
        (conv => whnf); refine ⟨rfl, ?_, ?_, ?_⟩ <;> (repeat' apply And.intro) <;> first | exact trivial | rfl | exact wr_succ _ (by omega) | assumption | exact decide_eq_false (by assumption) | exact decide_eq_true (by assumption)
      · have g : x.2.2.2[i] = 101 ∧ mType m = [] := by
          rw [Bool.or_eq_false_iff] at g
          obtain ⟨g1, g2⟩ := g
          have g1 : ((x.2.2.2[i]).toNat : Int) = 101 := by simpa using g1
          have g2 : m.2.2.1 = [] := by simpa using g2
          exact ⟨UInt8.toNat_inj.1 (by show (x.2.2.2[i]).toNat = 101; omega), g2⟩
        rw [if_pos g, List.append_nil] at hout
        conv => whnf
        refine ⟨i + 1, ⟨by omega, by omega⟩, ?_⟩
        rw [hout]
        (conv => whnf); refine ⟨rfl, ?_, ?_, ?_⟩ <;> (repeat' apply And.intro) <;> first | exact trivial | rfl | exact wr_succ _ (by omega) | assumption | exact decide_eq_false (by assumption) | exact decide_eq_true (by assumption)
    have b : i = x.2.2.2.length := by have := of_decide_eq_false b; omega
    subst b
    rw [List.take_of_length_le (Nat.le_refl _)]
    have hol := outW_len m x.2.2.2
    have hjl : (join (x.1 :: outW m x.2.2.2) [32]).length ≤ 100000 := hL x hmx
    conv => whnf
    refine fzc 2 rfl ?_
    conv => whnf
    refine call1 (lib_Join (x.1 :: outW m x.2.2.2) [32] (by rw [List.length_cons]; omega) (by omega)) rfl ?_
    conv => whnf
    have hP := console_Parse _ hjl
    cases hp : parseS (join (x.1 :: outW m x.2.2.2) [32]) with
    | none =>
      rw [hp] at hP
      have hP : FnD Tryz.prog 9 [.c (.str (join (x.1 :: outW m x.2.2.2) [32]))] (· = .tup [(true, mc MD.df), (false, [.val (.int .i64 320)])]) := FnD_val (L := [(true, mc MD.df)]) hP
      refine call1 (hP) rfl ?_
      conv => whnf
      refine eqk0 .ff rfl rfl rfl rfl ?_
      conv => whnf
      refine ⟨j + 1, ⟨⟨by omega, ?_⟩, by omega⟩, ?_⟩
      · rw [← hI]
        show _ = (if (x.2.1 : Int) = m.1 then (if sameO (parseS (join (x.1 :: outW m x.2.2.2) [32])) m = true then some (lineX x m) else lF (formsL.drop (j + 1)) m) else lF (formsL.drop (j + 1)) m)
        rw [if_pos h, hp]
        rfl
      · (conv => whnf); refine ⟨rfl, ?_, ?_, ?_⟩ <;> (repeat' apply And.intro) <;> first | exact trivial | rfl | exact wr_succ _ (by omega) | assumption | exact decide_eq_false (by assumption) | exact decide_eq_true (by assumption)
    | some d =>
      rw [hp] at hP
      have hP : FnD Tryz.prog 9 [.c (.str (join (x.1 :: outW m x.2.2.2) [32]))] (· = .tup [(true, mc d), (false, [.val (.int .i64 0)])]) := FnD_val (L := [(true, mc d)]) hP
      refine call1 (hP) rfl ?_
      conv => whnf
      refine eqk0 .tt rfl rfl rfl rfl ?_
      conv => whnf
      refine eqs0 MD (p := d) (q := m) 100 rfl (by kernel_rfl) rfl (by kernel_rfl) rfl rfl rfl ?_
      conv => whnf
      refine ⟨fun e => ?_, fun e => ?_⟩
      · rw [← hI]
        rw [show lF (x :: formsL.drop (j + 1)) m = some (lineX x m) by
          show (if (x.2.1 : Int) = m.1 then (if sameO (parseS (join (x.1 :: outW m x.2.2.2) [32])) m = true then some (lineX x m) else lF (formsL.drop (j + 1)) m) else lF (formsL.drop (j + 1)) m) = _
          rw [if_pos h, hp]
          show (if MD.eqb d m = true then _ else _) = _
          rw [if_pos e]]
        conv => whnf
        rfl
      · conv => whnf
        refine ⟨j + 1, ⟨⟨by omega, ?_⟩, by omega⟩, ?_⟩
        · rw [← hI]
          show _ = (if (x.2.1 : Int) = m.1 then (if sameO (parseS (join (x.1 :: outW m x.2.2.2) [32])) m = true then some (lineX x m) else lF (formsL.drop (j + 1)) m) else lF (formsL.drop (j + 1)) m)
          rw [if_pos h, hp]
          show _ = (if MD.eqb d m = true then _ else _)
          rw [if_neg (by rw [e]; decide)]
        · (conv => whnf); refine ⟨rfl, ?_, ?_, ?_⟩ <;> (repeat' apply And.intro) <;> first | exact trivial | rfl | exact wr_succ _ (by omega) | assumption | exact decide_eq_false (by assumption) | exact decide_eq_true (by assumption)
  · have c : j = 28 := by have := of_decide_eq_false c; omega
    subst c
    conv => whnf
    rw [← hI]
    rfl
end Go.Proofs.YtdhfipjfgigamaaGreatDoor.Con
/- The walk of val.DecodeProps. Own work. -/
set_option linter.unusedVariables false
set_option maxRecDepth 100000
namespace Go.Proofs.YtdhfipjfgigamaaGreatDoor
open Go Go.RowKit OE

end Go.Proofs.YtdhfipjfgigamaaGreatDoor
/- The walk of the reference's DecodeProps. Own work; written by gendr.py. -/
set_option linter.unusedVariables false
set_option maxRecDepth 100000
namespace Go.Proofs.YtdhfipjfgigamaaGreatDoor
open Go Go.RowKit OE

end Go.Proofs.YtdhfipjfgigamaaGreatDoor
/- The walks of hedgerowkeep: texts, catalogs. Own work. -/
set_option linter.unusedVariables false
set_option maxRecDepth 100000
namespace Go.Proofs.YtdhfipjfgigamaaGreatDoor
open Go Go.RowKit OE

abbrev SD : D := .str
/-- an index: type, name -/
abbrev ID : D := .pair .str .str
/-- a catalog: types of nodes, of edges, rules, indexes, the next rule's Id -/
abbrev CD : D := .pair (.list .str) (.pair (.list .str) (.pair (.list RD) (.pair (.list ID) (.int .i64))))
abbrev cc (c : CD.T) : List C := [.dat .str c.1, .dat .str c.2.1, .dat RD c.2.2.1, .dat ID c.2.2.2.1, .int .i64 c.2.2.2.2]

theorem keep_Texts (a b : List SD.T) : FnD Tryz.prog 17 [.c (.dat SD a), .c (.dat SD b)] (· = .c (.bool (.sym (eqL SD.eqb a b)))) := by
  refine fn0 Tryz.func17 rfl rfl rfl ?_
  conv => whnf
  intro ha
  conv => whnf
  intro hb
  refine ⟨fun h1 => ?_, fun h1 => ?_⟩
  · conv => whnf
    rw [eqL_len (by simp at h1; omega)]
  have h1 : a.length = b.length := by simp at h1; omega
  conv => whnf
  refine loop0 (α := Nat) (fun i => i ≤ a.length ∧ eqL SD.eqb (a.drop i) (b.drop i) = eqL SD.eqb a b)
    (fun i => ⟨[(0, .c (.dat SD a)), (1, .c (.dat SD b)), (5, .c (.int .i64 i))], [], 0⟩) (fun i => a.length - i) ⟨0, ⟨by omega, rfl⟩, ?_⟩ ?_
  · (conv => whnf); refine ⟨rfl, ?_, ?_, ?_⟩ <;> (repeat' apply And.intro) <;> first | exact trivial | rfl | exact wr_succ _ (by omega) | assumption | exact decide_eq_false (by assumption) | exact decide_eq_true (by assumption)
  · rintro i ⟨hI1, hI2⟩
    conv => whnf
    intro _
    refine ⟨fun h2 => ?_, fun h2 => ?_⟩
    · have h2 : i < a.length := by simp at h2; omega
      conv => whnf
      have hb2 : i < b.length := by omega
      rw [eqL_step h2 hb2] at hI2
      refine any0 ?_
      conv => whnf
      try (intro _; conv => whnf)
      refine ⟨by omega, ?_⟩
      rw [gt_nat (d := SD) a i h2]
      conv => whnf
      try (intro _; conv => whnf)
      refine ⟨by omega, ?_⟩
      rw [gt_nat (d := SD) b i hb2]
      conv => whnf
      refine ⟨.inl (by kernel_rfl), after0 ?_⟩
      conv => whnf
      refine ⟨fun h4 => ?_, fun h4 => ?_⟩
      · conv => whnf
        have : SD.eqb a[i] b[i] = false := by simpa [D.eqb] using h4
        simp only [← hI2, this, Bool.false_and]
      · conv => whnf
        have : SD.eqb a[i] b[i] = true := by simpa [D.eqb] using h4
        refine ⟨i + 1, ⟨⟨by omega, ?_⟩, by omega⟩, ?_⟩
        · rw [← hI2, this]; simp
        · (conv => whnf); refine ⟨rfl, ?_, ?_, ?_⟩ <;> (repeat' apply And.intro) <;> first | exact trivial | rfl | exact wr_succ _ (by omega) | assumption | exact decide_eq_false (by assumption) | exact decide_eq_true (by assumption)
    · conv => whnf
      rw [← hI2, eqL_end (by simp at h2; omega) (by simp at h2; omega)]

def longT (s : SD.T) : Bool := decide ((1000 : Int) < s.length)
def longI (i : ID.T) : Bool := decide ((1000 : Int) < i.1.length) || decide ((1000 : Int) < i.2.length)
def largeCat (c : CD.T) : Bool := decide ((100 : Int) < c.1.length) || decide ((100 : Int) < c.2.1.length) || decide ((100 : Int) < c.2.2.1.length) || decide ((100 : Int) < c.2.2.2.1.length) ||
  (c.1.any longT || (c.2.1.any longT || (c.2.2.1.any largeRule || c.2.2.2.1.any longI)))
theorem keep_LargeCat (c : CD.T) : FnD Tryz.prog 38 [.agg (cc c)] (· = .c (.bool (.sym (largeCat c)))) := by
  refine fn0 Tryz.func38 rfl rfl rfl ?_
  conv => whnf
  intro hc1
  conv => whnf
  intro hc2
  conv => whnf
  intro hc3
  conv => whnf
  intro hc4
  conv => whnf
  refine ⟨fun h1 => ?_, fun h1 => ?_⟩
  · conv => whnf
    simp only [largeCat, h1, Bool.true_or]
  have hm : largeCat c = (c.1.any longT || (c.2.1.any longT || (c.2.2.1.any largeRule || c.2.2.2.1.any longI))) := by simp only [largeCat, h1, Bool.false_or]
  rw [hm]
  conv => whnf
  refine loop0 (α := Nat) (fun i => i ≤ c.1.length ∧ (c.1.drop i).any longT = c.1.any longT)
    (fun i => ⟨[(1, .c (.ptr 0 0)), (3, .c (.int .i64 i))], [(0, .cells 50 (cc c))], 1⟩) (fun i => c.1.length - i) ⟨0, ⟨by omega, rfl⟩, ?_⟩ ?_
  · (conv => whnf); refine ⟨rfl, ?_, ?_, ?_⟩ <;> (repeat' apply And.intro) <;> first | exact trivial | rfl | exact wr_succ _ (by omega) | assumption | exact decide_eq_false (by assumption) | exact decide_eq_true (by assumption)
  rintro i ⟨hI1, hI2⟩
  conv => whnf
  intro _
  refine ⟨fun h2 => ?_, fun h2 => ?_⟩
  · have h2 : i < c.1.length := by simp at h2; omega
    rw [any_step h2] at hI2
    conv => whnf
    try (intro _; conv => whnf)
    refine ⟨by omega, ?_⟩
    rw [gt_nat (d := SD) c.1 i h2]
    conv => whnf
    refine ⟨fun h3 => ?_, fun h3 => ?_⟩
    · conv => whnf
      have : longT c.1[i] = true := h3
      simp only [← hI2, this, Bool.true_or]
    · conv => whnf
      refine ⟨i + 1, ⟨⟨by omega, ?_⟩, by omega⟩, ?_⟩
      · have : longT c.1[i] = false := h3
        rw [← hI2]; simp only [this, Bool.false_or]
      · (conv => whnf); refine ⟨rfl, ?_, ?_, ?_⟩ <;> (repeat' apply And.intro) <;> first | exact trivial | rfl | exact wr_succ _ (by omega) | assumption | exact decide_eq_false (by assumption) | exact decide_eq_true (by assumption)
  rw [any_end (by simp at h2; omega)] at hI2
  rw [← hI2]
  rw [Bool.false_or]

  conv => whnf
  refine loop0 (α := Nat) (fun i => i ≤ c.2.1.length ∧ (c.2.1.drop i).any longT = c.2.1.any longT)
    (fun i => ⟨[(1, .c (.ptr 0 0)), (4, .c (.int .i64 i))], [(0, .cells 50 (cc c))], 1⟩) (fun i => c.2.1.length - i) ⟨0, ⟨by omega, rfl⟩, ?_⟩ ?_
  · (conv => whnf); refine ⟨rfl, ?_, ?_, ?_⟩ <;> (repeat' apply And.intro) <;> first | exact trivial | rfl | exact wr_succ _ (by omega) | assumption | exact decide_eq_false (by assumption) | exact decide_eq_true (by assumption)
  rintro i ⟨hI1, hI2⟩
  conv => whnf
  intro _
  refine ⟨fun h2 => ?_, fun h2 => ?_⟩
  · have h2 : i < c.2.1.length := by simp at h2; omega
    rw [any_step h2] at hI2
    conv => whnf
    try (intro _; conv => whnf)
    refine ⟨by omega, ?_⟩
    rw [gt_nat (d := SD) c.2.1 i h2]
    conv => whnf
    refine ⟨fun h3 => ?_, fun h3 => ?_⟩
    · conv => whnf
      have : longT c.2.1[i] = true := h3
      simp only [← hI2, this, Bool.true_or]
    · conv => whnf
      refine ⟨i + 1, ⟨⟨by omega, ?_⟩, by omega⟩, ?_⟩
      · have : longT c.2.1[i] = false := h3
        rw [← hI2]; simp only [this, Bool.false_or]
      · (conv => whnf); refine ⟨rfl, ?_, ?_, ?_⟩ <;> (repeat' apply And.intro) <;> first | exact trivial | rfl | exact wr_succ _ (by omega) | assumption | exact decide_eq_false (by assumption) | exact decide_eq_true (by assumption)
  rw [any_end (by simp at h2; omega)] at hI2
  rw [← hI2]
  rw [Bool.false_or]

  conv => whnf
  refine loop0 (α := Nat) (fun i => i ≤ c.2.2.1.length ∧ (c.2.2.1.drop i).any largeRule = c.2.2.1.any largeRule)
    (fun i => ⟨[(1, .c (.ptr 0 0)), (5, .c (.int .i64 i))], [(0, .cells 50 (cc c))], 1⟩) (fun i => c.2.2.1.length - i) ⟨0, ⟨by omega, rfl⟩, ?_⟩ ?_
  · (conv => whnf); refine ⟨rfl, ?_, ?_, ?_⟩ <;> (repeat' apply And.intro) <;> first | exact trivial | rfl | exact wr_succ _ (by omega) | assumption | exact decide_eq_false (by assumption) | exact decide_eq_true (by assumption)
  rintro i ⟨hI1, hI2⟩
  conv => whnf
  intro _
  refine ⟨fun h2 => ?_, fun h2 => ?_⟩
  · have h2 : i < c.2.2.1.length := by simp at h2; omega
    rw [any_step h2] at hI2
    conv => whnf
    try (intro _; conv => whnf)
    refine ⟨by omega, ?_⟩
    rw [gt_nat (d := RD) c.2.2.1 i h2]
    conv => whnf
    refine call1 (keep_LargeRule c.2.2.1[i]) rfl ?_
    conv => whnf
    refine ⟨fun h3 => ?_, fun h3 => ?_⟩
    · conv => whnf
      have : largeRule c.2.2.1[i] = true := h3
      simp only [← hI2, this, Bool.true_or]
    · conv => whnf
      refine ⟨i + 1, ⟨⟨by omega, ?_⟩, by omega⟩, ?_⟩
      · have : largeRule c.2.2.1[i] = false := h3
        rw [← hI2]; simp only [this, Bool.false_or]
      · (conv => whnf); refine ⟨rfl, ?_, ?_, ?_⟩ <;> (repeat' apply And.intro) <;> first | exact trivial | rfl | exact wr_succ _ (by omega) | assumption | exact decide_eq_false (by assumption) | exact decide_eq_true (by assumption)
  rw [any_end (by simp at h2; omega)] at hI2
  rw [← hI2]
  rw [Bool.false_or]

  conv => whnf
  refine loop0 (α := Nat) (fun i => i ≤ c.2.2.2.1.length ∧ (c.2.2.2.1.drop i).any longI = c.2.2.2.1.any longI)
    (fun i => ⟨[(1, .c (.ptr 0 0)), (6, .c (.int .i64 i))], [(0, .cells 50 (cc c))], 1⟩) (fun i => c.2.2.2.1.length - i) ⟨0, ⟨by omega, rfl⟩, ?_⟩ ?_
  · (conv => whnf); refine ⟨rfl, ?_, ?_, ?_⟩ <;> (repeat' apply And.intro) <;> first | exact trivial | rfl | exact wr_succ _ (by omega) | assumption | exact decide_eq_false (by assumption) | exact decide_eq_true (by assumption)
  rintro i ⟨hI1, hI2⟩
  conv => whnf
  intro _
  refine ⟨fun h2 => ?_, fun h2 => ?_⟩
  · have h2 : i < c.2.2.2.1.length := by simp at h2; omega
    rw [any_step h2] at hI2
    conv => whnf
    try (intro _; conv => whnf)
    refine ⟨by omega, ?_⟩
    rw [gt_nat (d := ID) c.2.2.2.1 i h2]
    conv => whnf
    try (intro _; conv => whnf)
    refine ⟨fun _ => by omega, ?_⟩
    rw [gt_nat (d := ID) c.2.2.2.1 i h2]
    conv => whnf
    refine ⟨fun h3 => ?_, fun h3 => ?_⟩
    · conv => whnf
      have : longI c.2.2.2.1[i] = true := h3
      simp only [← hI2, this, Bool.true_or]
    · conv => whnf
      refine ⟨i + 1, ⟨⟨by omega, ?_⟩, by omega⟩, ?_⟩
      · have : longI c.2.2.2.1[i] = false := h3
        rw [← hI2]; simp only [this, Bool.false_or]
      · (conv => whnf); refine ⟨rfl, ?_, ?_, ?_⟩ <;> (repeat' apply And.intro) <;> first | exact trivial | rfl | exact wr_succ _ (by omega) | assumption | exact decide_eq_false (by assumption) | exact decide_eq_true (by assumption)
  rw [any_end (by simp at h2; omega)] at hI2
  rw [← hI2]
  conv => whnf

theorem ID_eqb (x y : ID.T) : ID.eqb x y = (decide (x.1 = y.1) && decide (x.2 = y.2)) := rfl
theorem keep_Cats (a b : CD.T) : FnD Tryz.prog 42 [.agg (cc a), .agg (cc b)] (· = .c (.bool (.sym (CD.eqb a b)))) := by
  refine fn0 Tryz.func42 rfl rfl rfl ?_
  conv => whnf
  refine call1 (keep_Texts a.1 b.1) rfl ?_
  conv => whnf
  refine callg0 (fun _ => keep_Texts a.2.1 b.2.1) rfl ?_
  conv => whnf
  intro _
  conv => whnf
  intro _
  conv => whnf
  intro _
  conv => whnf
  intro _
  conv => whnf
  have hE : CD.eqb a b = (eqL SD.eqb a.1 b.1 && (eqL SD.eqb a.2.1 b.2.1 && (eqL RD.eqb a.2.2.1 b.2.2.1 && (eqL ID.eqb a.2.2.2.1 b.2.2.2.1 && decide (a.2.2.2.2 = b.2.2.2.2))))) := rfl
  refine ⟨fun h1 => ?_, fun h1 => ?_⟩
  · conv => whnf
    rw [hE]
    simp only [Bool.or_eq_true, Bool.not_eq_true', decide_eq_false_iff_not] at h1
    rcases h1 with (((h | h) | h) | h) | h
    · rw [h]; simp
    · rw [h]; simp
    · rw [eqL_len (l := a.2.2.1) (by omega)]; simp
    · rw [eqL_len (l := a.2.2.2.1) (by omega)]; simp
    · simp [h]
  simp only [Bool.or_eq_false_iff, Bool.not_eq_false', decide_eq_true_eq] at h1
  obtain ⟨⟨⟨⟨g1, g2⟩, g3⟩, g4⟩, g5⟩ := h1
  have g3 : a.2.2.1.length = b.2.2.1.length := by omega
  have g4 : a.2.2.2.1.length = b.2.2.2.1.length := by omega
  rw [hE, g1, g2, g5]
  simp only [Bool.true_and, decide_true, Bool.and_true]
  conv => whnf
  refine loop0 (α := Nat) (fun i => i ≤ a.2.2.1.length ∧ eqL RD.eqb (a.2.2.1.drop i) (b.2.2.1.drop i) = eqL RD.eqb a.2.2.1 b.2.2.1)
    (fun i => ⟨[(2, .c (.ptr 0 0)), (3, .c (.ptr 1 0)), (5, .c (.int .i64 i))], [(0, .cells 50 (cc a)), (1, .cells 50 (cc b))], 2⟩) (fun i => a.2.2.1.length - i) ⟨0, ⟨by omega, rfl⟩, ?_⟩ ?_
  · (conv => whnf); refine ⟨rfl, ?_, ?_, ?_⟩ <;> (repeat' apply And.intro) <;> first | exact trivial | rfl | exact wr_succ _ (by omega) | assumption | exact decide_eq_false (by assumption) | exact decide_eq_true (by assumption)
  rintro i ⟨hI1, hI2⟩
  conv => whnf
  intro _
  refine ⟨fun h2 => ?_, fun h2 => ?_⟩
  · have h2 : i < a.2.2.1.length := by simp at h2; omega
    have hb2 : i < b.2.2.1.length := by omega
    rw [eqL_step h2 hb2] at hI2
    conv => whnf
    refine any0 ?_
    conv => whnf
    try (intro _; conv => whnf)
    refine ⟨by omega, ?_⟩
    rw [gt_nat (d := RD) a.2.2.1 i h2]
    conv => whnf
    try (intro _; conv => whnf)
    refine ⟨by omega, ?_⟩
    rw [gt_nat (d := RD) b.2.2.1 i hb2]
    conv => whnf
    refine callr0 (keep_Rule a.2.2.1[i] b.2.2.1[i]) rfl ?_
    conv => whnf
    refine ⟨.inl (by kernel_rfl), after0 ?_⟩
    conv => whnf
    have hx : RD.eqb a.2.2.1[i] b.2.2.1[i] = !(!RD.eqb a.2.2.1[i] b.2.2.1[i]) := by simp
    refine ⟨fun h3 => ?_, fun h3 => ?_⟩
    · conv => whnf
      rw [h3] at hx
      simp only [← hI2, hx, Bool.not_true, Bool.false_and]
    · conv => whnf
      rw [h3] at hx
      refine ⟨i + 1, ⟨⟨by omega, ?_⟩, by omega⟩, ?_⟩
      · rw [← hI2, hx]; simp
      · (conv => whnf); refine ⟨rfl, ?_, ?_, ?_⟩ <;> (repeat' apply And.intro) <;> first | exact trivial | rfl | exact wr_succ _ (by omega) | assumption | exact decide_eq_false (by assumption) | exact decide_eq_true (by assumption)
  rw [eqL_end (by simp at h2; omega) (by simp at h2; omega)] at hI2
  rw [← hI2]
  rw [Bool.true_and]

  conv => whnf
  refine loop0 (α := Nat) (fun i => i ≤ a.2.2.2.1.length ∧ eqL ID.eqb (a.2.2.2.1.drop i) (b.2.2.2.1.drop i) = eqL ID.eqb a.2.2.2.1 b.2.2.2.1)
    (fun i => ⟨[(2, .c (.ptr 0 0)), (3, .c (.ptr 1 0)), (6, .c (.int .i64 i))], [(0, .cells 50 (cc a)), (1, .cells 50 (cc b))], 2⟩) (fun i => a.2.2.2.1.length - i) ⟨0, ⟨by omega, rfl⟩, ?_⟩ ?_
  · (conv => whnf); refine ⟨rfl, ?_, ?_, ?_⟩ <;> (repeat' apply And.intro) <;> first | exact trivial | rfl | exact wr_succ _ (by omega) | assumption | exact decide_eq_false (by assumption) | exact decide_eq_true (by assumption)
  rintro i ⟨hI1, hI2⟩
  conv => whnf
  intro _
  refine ⟨fun h2 => ?_, fun h2 => ?_⟩
  · have h2 : i < a.2.2.2.1.length := by simp at h2; omega
    have hb2 : i < b.2.2.2.1.length := by omega
    rw [eqL_step h2 hb2] at hI2
    conv => whnf
    refine any0 ?_
    conv => whnf
    try (intro _; conv => whnf)
    refine ⟨by omega, ?_⟩
    rw [gt_nat (d := ID) a.2.2.2.1 i h2]
    conv => whnf
    try (intro _; conv => whnf)
    refine ⟨by omega, ?_⟩
    rw [gt_nat (d := ID) b.2.2.2.1 i hb2]
    conv => whnf
    try (intro _; conv => whnf)
    refine ⟨fun _ => by omega, ?_⟩
    rw [gt_nat (d := ID) a.2.2.2.1 i h2]
    conv => whnf
    try (intro _; conv => whnf)
    refine ⟨fun _ => by omega, ?_⟩
    rw [gt_nat (d := ID) b.2.2.2.1 i hb2]
    conv => whnf
    refine ⟨.inl (by kernel_rfl), after0 ?_⟩
    conv => whnf
    have hx : ID.eqb a.2.2.2.1[i] b.2.2.2.1[i] = !(!decide (a.2.2.2.1[i].1 = b.2.2.2.1[i].1) || !decide (a.2.2.2.1[i].2 = b.2.2.2.1[i].2)) := by rw [ID_eqb]; simp
    refine ⟨fun h3 => ?_, fun h3 => ?_⟩
    · conv => whnf
      rw [h3] at hx
      simp only [← hI2, hx, Bool.not_true, Bool.false_and]
    · conv => whnf
      rw [h3] at hx
      refine ⟨i + 1, ⟨⟨by omega, ?_⟩, by omega⟩, ?_⟩
      · rw [← hI2, hx]; simp
      · (conv => whnf); refine ⟨rfl, ?_, ?_, ?_⟩ <;> (repeat' apply And.intro) <;> first | exact trivial | rfl | exact wr_succ _ (by omega) | assumption | exact decide_eq_false (by assumption) | exact decide_eq_true (by assumption)
  rw [eqL_end (by simp at h2; omega) (by simp at h2; omega)] at hI2
  rw [← hI2]
  conv => whnf
end Go.Proofs.YtdhfipjfgigamaaGreatDoor
/- The walks of the reading of replies: numbers, texts, properties; the program's and the reference's. Own work. -/
set_option linter.unusedVariables false
set_option maxRecDepth 100000
namespace Go.Proofs.YtdhfipjfgigamaaGreatDoor.Ans
open Go Go.RowKit OE

abbrev kp0 : List (Nat × Bool) := [(0, false)]
def nS (s : List UInt8) (k : Int) : Nat × Nat := (Num.getN s k).getD (0, 0)
def tS (s : List UInt8) (k m : Int) : List UInt8 × Nat := (Num.getT s k m).getD ([], 0)
theorem nS_bd {s : List UInt8} {k : Int} (h : (Num.getN s k).isSome = true) : k + ((nS s k).2 : Int) ≤ s.length := by
  unfold nS
  cases hg : Num.getN s k with
  | none => rw [hg] at h; cases h
  | some p =>
    obtain ⟨n, i⟩ := p
    have := Num.getN_bd hg
    simp only [Option.getD_some]
    omega
theorem tS_bd {s : List UInt8} {k m : Int} (h : (Num.getT s k m).isSome = true) : k + ((tS s k m).2 : Int) ≤ s.length := by
  unfold tS
  cases hg : Num.getT s k m with
  | none => rw [hg] at h; cases h
  | some p =>
    obtain ⟨n, i⟩ := p
    have := getT_bd hg
    simp only [Option.getD_some]
    omega
/-! properties, as rows that may be nil -/
end Go.Proofs.YtdhfipjfgigamaaGreatDoor.Ans
/- The walks of the reading of nodes, edges, lists of them. Own work. -/
set_option linter.unusedVariables false
set_option maxRecDepth 100000
namespace Go.Proofs.YtdhfipjfgigamaaGreatDoor.Ans
open Go Go.RowKit OE

abbrev LD : D := .int .i64
end Go.Proofs.YtdhfipjfgigamaaGreatDoor.Ans
/- The walks of cmp.Or, and of cmp.Compare at texts. Own work. -/
set_option linter.unusedVariables false
set_option maxRecDepth 100000
namespace Go.Proofs.YtdhfipjfgigamaaGreatDoor
open Go Go.RowKit OE

end Go.Proofs.YtdhfipjfgigamaaGreatDoor
/- The order of indexes, and the walks of cat.ahead and of the reference's. Own work. -/
set_option linter.unusedVariables false
set_option maxRecDepth 100000
namespace Go.Proofs.YtdhfipjfgigamaaGreatDoor
open Go Go.RowKit OE

def ltIx (a b : ID.T) : Bool := Op.bytesLess a.1 b.1 || (decide (a.1 = b.1) && Op.bytesLess a.2 b.2)
abbrev ic (i : ID.T) : List C := [.str i.1, .str i.2]
theorem ref16_ahead (a b : ID.T) : FnD Tryz.prog 78 [.agg (ic a), .agg (ic b)] (· = .c (.bool (.sym (ltIx a b)))) := by
  refine fn0 Tryz.func78 rfl rfl rfl ?_
  conv => whnf
  rfl
end Go.Proofs.YtdhfipjfgigamaaGreatDoor
/- The walks of schema.Has, rule.Known, the reference's. Own work. -/
set_option linter.unusedVariables false
set_option maxRecDepth 100000
namespace Go.Proofs.YtdhfipjfgigamaaGreatDoor
open Go Go.RowKit OE

def hasT (l : List SD.T) (v : List UInt8) : Bool := l.any fun x => decide (v = x)
/-- a catalog's types of a kind -/
def kindS (c : CD.T) (k : Int) : List SD.T := if k = 1 then c.1 else if k = 2 then c.2.1 else []
noncomputable def inlR : Nat → Option (FI × Code) := lk [(102, fiOf Tryz.f102, bodyOf Tryz.f102)]
instance : InlOk inlR := inl_cons Tryz.func102 rfl rfl inl_nil
theorem ref_Has (c : CD.T) (k : Int) (v : List UInt8) : FnD Tryz.prog 77 [.agg (cc c), .c (.int .i64 k), .c (.str v)] (· = .c (.bool (.sym (hasT (kindS c k) v)))) := by
  refine fnI inlR Tryz.func77 rfl rfl rfl ?_
  conv => whnf
  have loop : ∀ (l : List SD.T), kindS c k = l → True := fun _ _ => trivial
  refine ⟨fun h1 => ?_, fun h1 => ?_⟩
  · have hk : kindS c k = c.1 := by simp at h1; simp [kindS, h1]
    rw [hk]
    conv => whnf
    refine loop0 (α := Nat) (fun i => i ≤ c.1.length ∧ (c.1.drop i).any (fun x => decide (v = x)) = hasT c.1 v)
      (fun i => ⟨[(2, .c (.str v)), (7, .c (.dat SD c.1)), (8, .c (.int .i64 i))], [], 0⟩) (fun i => c.1.length - i) ⟨0, ⟨by omega, rfl⟩, ?_⟩ ?_
    · (conv => whnf); refine ⟨rfl, ?_, ?_, ?_⟩ <;> (repeat' apply And.intro) <;> first | exact trivial | rfl | exact wr_succ _ (by omega) | assumption | exact decide_eq_false (by assumption) | exact decide_eq_true (by assumption)
    rintro i ⟨hI1, hI2⟩
    conv => whnf
    intro _
    refine ⟨fun h2 => ?_, fun h2 => ?_⟩
    · have h2 : i < c.1.length := by simp at h2; omega
      rw [any_step h2] at hI2
      conv => whnf
      try (intro _; conv => whnf)
      refine ⟨by omega, ?_⟩
      rw [gt_nat (d := SD) c.1 i h2]
      conv => whnf
      refine ⟨fun h3 => ?_, fun h3 => ?_⟩
      · conv => whnf
        have : decide (v = c.1[i]) = true := by simpa [eq_comm] using h3
        rw [← hI2, this, Bool.true_or]
      · conv => whnf
        have : decide (v = c.1[i]) = false := by simpa [eq_comm] using h3
        refine ⟨i + 1, ⟨⟨by omega, ?_⟩, by omega⟩, ?_⟩
        · rw [← hI2, this, Bool.false_or]
        · (conv => whnf); refine ⟨rfl, ?_, ?_, ?_⟩ <;> (repeat' apply And.intro) <;> first | exact trivial | rfl | exact wr_succ _ (by omega) | assumption | exact decide_eq_false (by assumption) | exact decide_eq_true (by assumption)
    · conv => whnf
      rw [← hI2, any_end (by simp at h2; omega)]
  · conv => whnf
    refine ⟨fun h4 => ?_, fun h4 => ?_⟩
    · have hk : kindS c k = c.2.1 := by simp at h1 h4; simp [kindS, h4]
      rw [hk]
      conv => whnf
      refine loop0 (α := Nat) (fun i => i ≤ c.2.1.length ∧ (c.2.1.drop i).any (fun x => decide (v = x)) = hasT c.2.1 v)
        (fun i => ⟨[(2, .c (.str v)), (7, .c (.dat SD c.2.1)), (8, .c (.int .i64 i))], [], 0⟩) (fun i => c.2.1.length - i) ⟨0, ⟨by omega, rfl⟩, ?_⟩ ?_
      · (conv => whnf); refine ⟨rfl, ?_, ?_, ?_⟩ <;> (repeat' apply And.intro) <;> first | exact trivial | rfl | exact wr_succ _ (by omega) | assumption | exact decide_eq_false (by assumption) | exact decide_eq_true (by assumption)
      rintro i ⟨hI1, hI2⟩
      conv => whnf
      intro _
      refine ⟨fun h2 => ?_, fun h2 => ?_⟩
      · have h2 : i < c.2.1.length := by simp at h2; omega
        rw [any_step h2] at hI2
        conv => whnf
        try (intro _; conv => whnf)
        refine ⟨by omega, ?_⟩
        rw [gt_nat (d := SD) c.2.1 i h2]
        conv => whnf
        refine ⟨fun h3 => ?_, fun h3 => ?_⟩
        · conv => whnf
          have : decide (v = c.2.1[i]) = true := by simpa [eq_comm] using h3
          rw [← hI2, this, Bool.true_or]
        · conv => whnf
          have : decide (v = c.2.1[i]) = false := by simpa [eq_comm] using h3
          refine ⟨i + 1, ⟨⟨by omega, ?_⟩, by omega⟩, ?_⟩
          · rw [← hI2, this, Bool.false_or]
          · (conv => whnf); refine ⟨rfl, ?_, ?_, ?_⟩ <;> (repeat' apply And.intro) <;> first | exact trivial | rfl | exact wr_succ _ (by omega) | assumption | exact decide_eq_false (by assumption) | exact decide_eq_true (by assumption)
      · conv => whnf
        rw [← hI2, any_end (by simp at h2; omega)]
    · have hk : kindS c k = [] := by simp at h1 h4; simp [kindS, h1, h4]
      rw [hk]
      conv => whnf
      refine loop0 (α := Unit) (fun _ => True) (fun _ => ⟨[(7, .c (.val (.slice none 0 0))), (8, .c (.int .i64 0))], [], 0⟩) (fun _ => 0) ⟨(), trivial, ?_⟩ ?_
      · (conv => whnf); refine ⟨rfl, ?_, ?_, ?_⟩ <;> (repeat' apply And.intro) <;> first | exact trivial | rfl | exact wr_succ _ (by omega) | assumption | exact decide_eq_false (by assumption) | exact decide_eq_true (by assumption)
      rintro _ _
      conv => whnf
      refine fk rfl ?_
      conv => whnf
      rfl

/-- are a rule's types known? -/
def knownS (c : CD.T) (r : RD.T) : Bool :=
  if r.2.1 = 1 ∨ r.2.1 = 2 then hasT (kindS c 1) r.2.2.1
  else if r.2.1 = 3 then hasT (kindS c 2) r.2.2.1 && hasT (kindS c 1) r.2.2.2.2.1 && hasT (kindS c 1) r.2.2.2.2.2.1
  else if r.2.1 = 4 then hasT (kindS c 2) r.2.2.1 else false
theorem ref_Known (c : CD.T) (r : RD.T) : FnD Tryz.prog 75 [.agg (cc c), .agg (rc r)] (· = .c (.bool (.sym (knownS c r)))) := by
  refine fn0 Tryz.func75 rfl rfl rfl ?_
  conv => whnf
  refine ⟨fun h1 => ?_, fun h1 => ?_⟩
  · conv => whnf
    refine call1 (ref_Has c 1 r.2.2.1) rfl ?_
    conv => whnf
    simp at h1; simp [knownS, h1]
  conv => whnf
  refine ⟨fun h2 => ?_, fun h2 => ?_⟩
  · conv => whnf
    refine call1 (ref_Has c 1 r.2.2.1) rfl ?_
    conv => whnf
    simp at h1 h2; simp [knownS, h2]
  conv => whnf
  refine ⟨fun h3 => ?_, fun h3 => ?_⟩
  · conv => whnf
    refine call1 (ref_Has c 2 r.2.2.1) rfl ?_
    conv => whnf
    refine callg0 (fun _ => ref_Has c 1 r.2.2.2.2.1) rfl ?_
    conv => whnf
    refine callg0 (fun _ => ref_Has c 1 r.2.2.2.2.2.1) rfl ?_
    conv => whnf
    simp at h1 h2 h3; simp [knownS, h3]
  conv => whnf
  refine ⟨fun h4 => ?_, fun h4 => ?_⟩
  · conv => whnf
    refine call1 (ref_Has c 2 r.2.2.1) rfl ?_
    conv => whnf
    simp at h1 h2 h3 h4; simp [knownS, h4]
  · conv => whnf
    simp at h1 h2 h3 h4; simp [knownS, h1, h2, h3, h4]

end Go.Proofs.YtdhfipjfgigamaaGreatDoor
/- The walks of schema.Types and of the reference's Types. Own work. -/
set_option linter.unusedVariables false
set_option maxRecDepth 100000
namespace Go.Proofs.YtdhfipjfgigamaaGreatDoor
open Go Go.RowKit OE

/-- each above the one ahead of it -/
def risF : List SD.T → Bool
  | x :: y :: l => Op.bytesLess x y && risF (y :: l)
  | _ => true
def tyS (l : List SD.T) : Bool := !decide ((16 : Int) < l.length) && (risF l && l.all nameS)
def typesS (c : CD.T) : Bool := tyS c.1 && tyS c.2.1

theorem ris_step {l : List SD.T} {i : Nat} (h : i + 1 < l.length) : risF (l.drop i) = (Op.bytesLess l[i] l[i + 1] && risF (l.drop (i + 1))) := by
  rw [List.drop_eq_getElem_cons (show i < l.length by omega), List.drop_eq_getElem_cons h]; rfl
theorem ris_end {l : List SD.T} {i : Nat} (h : l.length ≤ i + 1) : risF (l.drop i) = true := by
  cases hd : l.drop i with
  | nil => rfl
  | cons x m =>
    cases m with
    | nil => rfl
    | cons y m =>
      have := congrArg List.length hd
      rw [List.length_drop, List.length_cons, List.length_cons] at this
      omega

theorem ref14_names (l : List SD.T) : FnD Tryz.prog 101 [.c (.dat SD l)] (· = .c (.bool (.sym (tyS l)))) := by
  refine fn0 Tryz.func101 rfl rfl rfl ?_
  conv => whnf
  intro hl
  refine ⟨fun h1 => ?_, fun h1 => ?_⟩
  · conv => whnf
    rw [tyS, h1]; rfl
  have hT : tyS l = (risF l && l.all nameS) := by rw [tyS, h1]; rfl
  rw [hT]
  conv => whnf
  refine loop0 (α := Nat) (fun i => i ≤ l.length ∧ (risF (l.drop (i - 1)) && (l.drop i).all nameS) = (risF l && l.all nameS)) (fun i => ⟨[(0, .c (.dat SD l)), (3, .c (.int .i64 i))], [], 0⟩) (fun i => l.length - i) ⟨0, ⟨by omega, rfl⟩, ?_⟩ ?_
  · (conv => whnf); refine ⟨rfl, ?_, ?_, ?_⟩ <;> (repeat' apply And.intro) <;> first | exact trivial | rfl | exact wr_succ _ (by omega) | assumption | exact decide_eq_false (by assumption) | exact decide_eq_true (by assumption)
  rintro i ⟨hI1, hI2⟩
  conv => whnf
  intro _
  refine ⟨fun h2 => ?_, fun h2 => ?_⟩
  · have h2 : i < l.length := by simp at h2; omega
    rw [all_step h2] at hI2
    have e1 : IntKind.wrap .i64 ((i : Int) - 1) = (i : Int) - 1 := wr64 _ (by omega) (by omega)
    conv => whnf
    refine any0 ?_
    conv => whnf
    try (intro _; conv => whnf)
    refine ⟨by omega, ?_⟩
    rw [gt_nat (d := SD) l i h2]
    conv => whnf
    refine callr0 (ref_Name l[i]) rfl ?_
    conv => whnf
    rw [e1]
    refine ⟨fun h => by have := h.2; simp at this; omega, ?_⟩
    conv => whnf
    refine ⟨fun h => by omega, ?_⟩
    rw [gt_nat (d := SD) l i h2]
    conv => whnf
    refine ⟨.inl (by kernel_rfl), after0 ?_⟩
    conv => whnf
    have key : (!nameS l[i] || (decide ((0 : Int) < i) && !Op.bytesLess (gt (d := SD) l ((i : Int) - 1)) l[i])) = !(nameS l[i] && (decide (i = 0) || Op.bytesLess (gt (d := SD) l ((i : Int) - 1)) l[i])) := by
      by_cases h0 : i = 0
      · subst h0; simp
      · have h1 : decide ((0 : Int) < i) = true := decide_eq_true (by omega)
        rw [h1]; simp [h0]
    have hnew : (nameS l[i] && (decide (i = 0) || Op.bytesLess (gt (d := SD) l ((i : Int) - 1)) l[i])) = true → (risF (l.drop (i + 1 - 1)) && (l.drop (i + 1)).all nameS) = (risF l && l.all nameS) := fun h => by
      rw [Bool.and_eq_true] at h
      rw [← hI2, h.1, Bool.true_and]
      by_cases h0 : i = 0
      · subst h0; rfl
      · obtain ⟨j, rfl⟩ : ∃ j, i = j + 1 := ⟨i - 1, by omega⟩
        have ej : (((j + 1 : Nat) : Int) - 1) = (j : Int) := by omega
        have h2' := h.2
        rw [ej, gt_nat (d := SD) l j (by omega)] at h2'
        have h3 : Op.bytesLess l[j] l[j + 1] = true := by simpa using h2'
        rw [show j + 1 - 1 = j by omega, show j + 1 + 1 - 1 = j + 1 by omega, ris_step (i := j) h2, h3, Bool.true_and]
    have hbad : (nameS l[i] && (decide (i = 0) || Op.bytesLess (gt (d := SD) l ((i : Int) - 1)) l[i])) = false → (risF l && l.all nameS) = false := fun h => by
      rw [Bool.and_eq_false_iff] at h
      rw [← hI2]
      rcases h with h | h
      · rw [h]; simp
      · by_cases h0 : i = 0
        · simp [h0] at h
        · obtain ⟨j, rfl⟩ : ∃ j, i = j + 1 := ⟨i - 1, by omega⟩
          have ej : (((j + 1 : Nat) : Int) - 1) = (j : Int) := by omega
          rw [ej, gt_nat (d := SD) l j (by omega)] at h
          have h3 : Op.bytesLess l[j] l[j + 1] = false := by simpa using h
          rw [show j + 1 - 1 = j by omega, ris_step (i := j) h2, h3]; rfl
    refine ⟨fun h3 => ?_, fun h3 => ?_⟩
    · conv => whnf
      rw [hbad (not_t (key.symm.trans h3))]
    · conv => whnf
      refine ⟨i + 1, ⟨⟨by omega, hnew (not_f (key.symm.trans h3))⟩, by omega⟩, ?_⟩
      (conv => whnf); refine ⟨rfl, ?_, ?_, ?_⟩ <;> (repeat' apply And.intro) <;> first | exact trivial | rfl | exact wr_succ _ (by omega) | assumption | exact decide_eq_false (by assumption) | exact decide_eq_true (by assumption)
  · conv => whnf
    rw [← hI2, all_end (by simp at h2; omega), ris_end (by simp at h2; omega)]
    rfl

theorem ref14_Types (c : CD.T) : FnD Tryz.prog 74 [.agg (cc c)] (· = .c (.bool (.sym (typesS c)))) := by
  refine fn0 Tryz.func74 rfl rfl rfl ?_
  conv => whnf
  refine call1 (ref14_names c.1) rfl ?_
  conv => whnf
  refine callg0 (fun _ => ref14_names c.2.1) rfl ?_
  conv => whnf
  rfl

end Go.Proofs.YtdhfipjfgigamaaGreatDoor
/- Which catalogs are good; the walks of cat.Good and of the reference's. Own work. -/
set_option linter.unusedVariables false
set_option maxRecDepth 100000
namespace Go.Proofs.YtdhfipjfgigamaaGreatDoor
open Go Go.RowKit OE

abbrev stR (r : RD.T) : Int := r.2.2.2.2.2.2.2
/-- a rule but for its Id and State -/
def bareS (r : RD.T) : RD.T := (0, r.2.1, r.2.2.1, r.2.2.2.1, r.2.2.2.2.1, r.2.2.2.2.2.1, r.2.2.2.2.2.2.1, 0)
def alikeS (q r : RD.T) : Bool := RD.eqb (bareS q) (bareS r)
def goodR (c : CD.T) (r : RD.T) : Bool := decide (r.1 < c.2.2.2.2) && (formS r && (knownS c r && (decide (1 ≤ stR r) && decide (stR r ≤ 2))))
/-- rules that stand behind others that are good -/
def goodL (c : CD.T) : List RD.T → Int → List RD.T → Bool
  | _, _, [] => true
  | d, last, r :: l => decide (last < r.1) && (goodR c r && (!(d.any fun q => alikeS q r) && goodL c (d ++ [r]) r.1 l))
def bldN (l : List RD.T) : Nat := l.countP fun r => decide (stR r = 1)
def rulesS (c : CD.T) : Bool := goodL c [] 0 c.2.2.1 && (decide (bldN c.2.2.1 ≤ 1) && decide (c.2.2.1.length ≤ 16))
/-- indexes that stand behind one (or none) -/
def idxL (c : CD.T) : Option ID.T → List ID.T → Bool
  | _, [] => true
  | p, x :: l => !(!hasT c.1 x.1 || !nameS x.2 || (match p with | none => false | some q => !ltIx q x)) && idxL c (some x) l
def idxS (c : CD.T) : Bool := idxL c none c.2.2.2.1
def goodC (c : CD.T) : Bool := typesS c && (decide (1 ≤ c.2.2.2.2) && (decide (c.2.2.2.2 ≤ 1000000) && (decide (c.2.2.2.1.length ≤ 16) && (idxS c && rulesS c))))

theorem goodL_step {c : CD.T} {d : List RD.T} {last : Int} {l : List RD.T} {i : Nat} (h : i < l.length) : goodL c d last (l.drop i) = (decide (last < l[i].1) && (goodR c l[i] && (!(d.any fun q => alikeS q l[i]) && goodL c (d ++ [l[i]]) l[i].1 (l.drop (i + 1))))) := by
  rw [List.drop_eq_getElem_cons h]; rfl
theorem idx_step0 {c : CD.T} {l : List ID.T} (h : 0 < l.length) : idxL c none l = (!(!hasT c.1 l[0].1 || !nameS l[0].2 || false) && idxL c (some l[0]) (l.drop 1)) := by
  cases l with
  | nil => simp at h
  | cons x l => rfl
theorem idx_step {c : CD.T} {l : List ID.T} {i : Nat} (h : i + 1 < l.length) : idxL c (some l[i]) (l.drop (i + 1)) = (!(!hasT c.1 l[i + 1].1 || !nameS l[i + 1].2 || !ltIx l[i] l[i + 1]) && idxL c (some l[i + 1]) (l.drop (i + 2))) := by
  rw [List.drop_eq_getElem_cons h]; rfl
theorem idx_end (c : CD.T) (p : Option ID.T) {l : List ID.T} {i : Nat} (h : l.length ≤ i) : idxL c p (l.drop i) = true := by
  rw [List.drop_of_length_le h]; cases p <;> rfl
/-- what stands ahead of a place -/
def prevI (l : List ID.T) : Nat → Option ID.T
  | 0 => none
  | i + 1 => l[i]?
theorem bld_step {l : List RD.T} {i : Nat} (h : i < l.length) : bldN (l.take (i + 1)) = bldN (l.take i) + (if decide (stR l[i] = 1) = true then 1 else 0) := by
  unfold bldN
  rw [take_step h, List.countP_append, List.countP_singleton]
theorem bld_le (l : List RD.T) : bldN l ≤ l.length := List.countP_le_length

theorem ref16_alike (a b : RD.T) : FnD Tryz.prog 76 [.agg (rc a), .agg (rc b)] (· = .c (.bool (.sym (alikeS a b)))) := by
  refine fn0 Tryz.func76 rfl rfl rfl ?_
  conv => whnf
  refine call1 (keep_Rule (bareS a) (bareS b)) rfl ?_
  conv => whnf
  rfl

theorem dle (a b : Int) : decide (a ≤ b) = !decide (b < a) := by
  rw [Bool.eq_iff_iff]; simp
theorem wr_prd (i : Nat) (h : i ≤ 9223372036854775806) : IntKind.wrap .i64 (((i + 1 : Nat) : Int) - 1) = (i : Int) := by
  rw [show ((i + 1 : Nat) : Int) - 1 = (i : Int) by omega]
  exact wr64 _ (by omega) (by omega)
/-- the Id ahead of a place -/
def prevR (l : List RD.T) : Nat → Int
  | 0 => 0
  | i + 1 => (gt (d := RD) l i).1
theorem prevR_succ {l : List RD.T} {i : Nat} (h : i < l.length) : prevR l (i + 1) = l[i].1 := by
  show (gt (d := RD) l i).1 = _
  rw [gt_nat (d := RD) l i h]
theorem refStep (c : CD.T) (r : RD.T) (last : Int) (b : Bool) (hb : (decide (r.1 < 1) || b) = !decide (last < r.1)) (A X : Bool) : (decide (last < r.1) && (goodR c r && (!A && X))) = (!(decide (r.1 < 1) || decide (c.2.2.2.2 ≤ r.1) || b || !formS r || !knownS c r || (!decide (stR r = 1) && !decide (stR r = 2))) && (!A && X)) := by
  have h1 : (decide (1 ≤ stR r) && decide (stR r ≤ 2)) = !(!decide (stR r = 1) && !decide (stR r = 2)) := by
    rw [Bool.eq_iff_iff]; simp; omega
  have h2 : decide (last < r.1) = !(decide (r.1 < 1) || b) := by rw [hb, Bool.not_not]
  unfold goodR
  rw [h1, h2, dle c.2.2.2.2 r.1]
  generalize (!decide (stR r = 1) && !decide (stR r = 2)) = g
  simp only [Bool.not_or, Bool.not_not]
  ac_rfl
theorem anyT_step {l : List RD.T} {r : RD.T} {k : Nat} (h : k < l.length) : (l.take (k + 1)).any (fun q => alikeS q r) = ((l.take k).any (fun q => alikeS q r) || alikeS l[k] r) := by
  rw [take_step h, List.any_append]; simp
theorem idz1 (a : Int) : decide (a < 1) = !decide (0 < a) := by
  rw [Bool.eq_iff_iff]; simp; omega
theorem idz2 (a q : Int) (h : 0 ≤ q) : (decide (a < 1) || decide (a ≤ q)) = !decide (q < a) := by
  rw [Bool.eq_iff_iff]; simp; omega
theorem ref16_Good (c : CD.T) : FnD Tryz.prog 43 [.agg (cc c)] (· = .c (.bool (.sym (goodC c)))) := by
  refine fn0 Tryz.func43 rfl rfl rfl ?_
  conv => whnf
  refine call1 (ref14_Types c) rfl ?_
  conv => whnf
  intro _ _
  refine ⟨fun h1 => ?_, fun h1 => ?_⟩
  · conv => whnf
    have : goodC c = false := by
      cases hg : goodC c with
      | false => rfl
      | true =>
        simp only [goodC, rulesS, Bool.and_eq_true, decide_eq_true_eq] at hg
        obtain ⟨a1, a2, a3, a4, a5, a6, a7, a8⟩ := hg
        have a2 : (1 : Int) ≤ c.2.2.2.2 := a2
        have a3 : c.2.2.2.2 ≤ (1000000 : Int) := a3
        simp [a1] at h1
        rcases h1 with ((h | h) | h) | h
        · omega
        · omega
        · omega
        · exact absurd h (Int.not_lt.2 a3)
    rw [this]
  · conv => whnf
    have hg : goodC c = (idxS c && rulesS c) := by
      simp only [Bool.or_eq_false_iff, Bool.not_eq_false', decide_eq_false_iff_not] at h1
      obtain ⟨⟨⟨⟨a1, a2⟩, a3⟩, a4⟩, a5⟩ := h1
      unfold goodC
      rw [a1, decide_eq_true (show (1 : Int) ≤ c.2.2.2.2 by omega), decide_eq_true (show c.2.2.2.2 ≤ (1000000 : Int) from Int.not_lt.1 a5), decide_eq_true (show c.2.2.2.1.length ≤ 16 by omega)]
      rfl
    have hl : c.2.2.1.length ≤ 16 ∧ (0 : Int) ≤ 0 := by simp at h1; omega
    refine loop0 (fun i => i ≤ c.2.2.1.length ∧ 0 ≤ prevR c.2.2.1 i ∧ goodL c (c.2.2.1.take i) (prevR c.2.2.1 i) (c.2.2.1.drop i) = goodL c [] 0 c.2.2.1) (fun i => ⟨[(1, .c (.ptr 0 0)), (3, .c (.int .i64 (bldN (c.2.2.1.take i)))), (4, .c (.int .i64 i))], [(0, .cells 50 (cc c))], 1⟩) (fun i => c.2.2.1.length - i) ⟨0, ⟨by omega, by show (0 : Int) ≤ 0; omega, rfl⟩, ?_⟩ ?_
    · (conv => whnf); refine ⟨rfl, ?_, ?_, ?_⟩ <;> (repeat' apply And.intro) <;> first | exact trivial | rfl | exact wr_succ _ (by omega) | assumption | exact decide_eq_false (by assumption) | exact decide_eq_true (by assumption)
    rintro i ⟨hI1, hI2, hI3⟩
    conv => whnf
    intro _
    refine ⟨fun h2 => ?_, fun h2 => ?_⟩
    · have h2 : i < c.2.2.1.length := by simp at h2; omega
      rw [goodL_step h2] at hI3
      have hb := bld_step h2
      conv => whnf
      try (intro _; conv => whnf)
      refine ⟨by omega, ?_⟩
      rw [gt_nat (d := RD) c.2.2.1 i h2]
      conv => whnf
      generalize hr : c.2.2.1[i] = r at hI3 hb
      have e1 : IntKind.wrap .i64 ((i : Int) - 1) = (i : Int) - 1 := wr64 _ (by omega) (by omega)
      have hbb : (decide (r.1 < 1) || (decide ((0 : Int) < (i : Int)) && decide (r.1 ≤ (gt (d := RD) c.2.2.1 ((i : Int) - 1)).1))) = !decide (prevR c.2.2.1 i < r.1) := by
        cases i with
        | zero =>
          show (decide ((r.1 : Int) < 1) || false) = !decide ((0 : Int) < r.1)
          rw [Bool.or_false, idz1]
        | succ j =>
          have e : (((j + 1 : Nat) : Int) - 1) = (j : Int) := by omega
          rw [e]
          show (decide ((r.1 : Int) < 1) || (decide ((0 : Int) < ((j + 1 : Nat) : Int)) && decide (r.1 ≤ prevR c.2.2.1 (j + 1)))) = _
          rw [decide_eq_true (show (0 : Int) < ((j + 1 : Nat) : Int) by omega), Bool.true_and]
          exact idz2 _ _ hI2
      refine any0 ?_
      conv => whnf
      rw [e1]
      refine ⟨fun h => by have := h.2; simp at this; omega, ?_⟩
      conv => whnf
      refine callrg0 (fun _ => ref_Form r) rfl ?_
      conv => whnf
      refine callrg0 (fun _ => ref_Known c r) rfl ?_
      conv => whnf
      refine ⟨.inl (by kernel_rfl), after0 ?_⟩
      conv => whnf
      rw [refStep c r _ _ hbb] at hI3
      refine ⟨fun h3 => ?_, fun h3 => ?_⟩
      · rw [show (!_ && _) = _ from congrArg (fun b => !b && _) h3] at hI3
        rw [show goodC c = false by rw [hg]; unfold rulesS; rw [← hI3]; simp]
        conv => whnf
      · rw [show (!_ && _) = _ from congrArg (fun b => !b && _) h3] at hI3
        simp only [Bool.not_false, Bool.true_and] at hI3
        have hr1 : (1 : Int) ≤ r.1 := by
          simp only [Bool.or_eq_false_iff, decide_eq_false_iff_not] at h3
          have := h3.1.1.1.1.1
          omega
        conv => whnf
        refine loop0 (fun k => k ≤ i ∧ (c.2.2.1.take k).any (fun q => alikeS q r) = false) (fun k => ⟨[(1, .c (.ptr 0 0)), (3, .c (.int .i64 (bldN (c.2.2.1.take i)))), (4, .c (.int .i64 i)), (5, .c (.ptr 1 0)), (6, .c (.int .i64 k))], [(1, .cells 28 (rc r)), (0, .cells 50 (cc c))], 2⟩) (fun k => i - k) ⟨0, ⟨by omega, rfl⟩, ?_⟩ ?_
        · (conv => whnf); refine ⟨rfl, ?_, ?_, ?_⟩ <;> (repeat' apply And.intro) <;> first | exact trivial | rfl | exact wr_succ _ (by omega) | assumption | exact decide_eq_false (by assumption) | exact decide_eq_true (by assumption)
        rintro k ⟨hK1, hK2⟩
        conv => whnf
        refine ⟨fun h4 => ?_, fun h4 => ?_⟩
        · have h4 : k < i := by simp at h4; omega
          have hk : k < c.2.2.1.length := by omega
          have hst := anyT_step (r := r) hk
          conv => whnf
          refine any0 ?_
          conv => whnf
          try (intro _; conv => whnf)
          refine ⟨by omega, ?_⟩
          rw [gt_nat (d := RD) c.2.2.1 k hk]
          conv => whnf
          refine callr0 (ref16_alike c.2.2.1[k] r) rfl ?_
          conv => whnf
          refine ⟨.inl (by kernel_rfl), after0 ?_⟩
          conv => whnf
          refine ⟨fun h5 => ?_, fun h5 => ?_⟩
          · rw [hK2, h5, Bool.false_or] at hst
            have : (c.2.2.1.take i).any (fun q => alikeS q r) = true := by
              rw [List.any_eq_true] at hst ⊢
              obtain ⟨q, hq, hq2⟩ := hst
              exact ⟨q, List.take_subset_take_left _ (by omega) hq, hq2⟩
            rw [this] at hI3
            rw [show goodC c = false by rw [hg]; unfold rulesS; rw [← hI3]; simp]
            conv => whnf
          · rw [hK2, h5, Bool.false_or] at hst
            conv => whnf
            refine ⟨k + 1, ⟨⟨by omega, hst⟩, by omega⟩, ?_⟩
            (conv => whnf); refine ⟨rfl, ?_, ?_, ?_⟩ <;> (repeat' apply And.intro) <;> first | exact trivial | rfl | exact wr_succ _ (by omega) | assumption | exact decide_eq_false (by assumption) | exact decide_eq_true (by assumption)
        · have : k = i := by simp at h4; omega
          subst this
          rw [hK2, Bool.not_false, Bool.true_and] at hI3
          have hts : c.2.2.1.take (k + 1) = c.2.2.1.take k ++ [r] := by rw [take_step h2, hr]
          have hpr : prevR c.2.2.1 (k + 1) = r.1 := by rw [prevR_succ h2, hr]
          have hle1 := bld_le (c.2.2.1.take k)
          rw [List.length_take] at hle1
          conv => whnf
          refine ⟨fun h5 => ?_, fun h5 => ?_⟩
          · conv => whnf
            rw [if_pos (by exact h5)] at hb
            refine ⟨k + 1, ⟨⟨by omega, by rw [hpr]; omega, by rw [hts, hpr, hI3]⟩, by omega⟩, ?_⟩
            rw [hb]
            (conv => whnf); refine ⟨rfl, ?_, ?_, ?_⟩ <;> (repeat' apply And.intro) <;> first | exact trivial | rfl | exact wr_succ _ (by omega) | assumption | exact decide_eq_false (by assumption) | exact decide_eq_true (by assumption)
          · conv => whnf
            rw [if_neg (by rw [Bool.not_eq_true]; exact h5)] at hb
            refine ⟨k + 1, ⟨⟨by omega, by rw [hpr]; omega, by rw [hts, hpr, hI3]⟩, by omega⟩, ?_⟩
            rw [hb]
            (conv => whnf); refine ⟨rfl, ?_, ?_, ?_⟩ <;> (repeat' apply And.intro) <;> first | exact trivial | rfl | exact wr_succ _ (by omega) | assumption | exact decide_eq_false (by assumption) | exact decide_eq_true (by assumption)
    · rw [List.take_of_length_le (by simp at h2; omega), List.drop_of_length_le (by simp at h2; omega)] at hI3
      rw [show goodL c c.2.2.1 _ [] = true from rfl] at hI3
      have hg2 : goodC c = (idxS c && decide (((bldN c.2.2.1 : Nat) : Int) ≤ 1)) := by
        rw [hg]
        unfold rulesS; rw [← hI3, decide_eq_true hl.1, Bool.true_and, Bool.and_true]; norm_cast
      rw [List.take_of_length_le (by simp at h2; omega)]
      clear hI3 hI2 hI1 h2
      conv => whnf
      refine loop0 (fun i => i ≤ c.2.2.2.1.length ∧ idxL c (prevI c.2.2.2.1 i) (c.2.2.2.1.drop i) = idxS c) (fun i => ⟨[(1, .c (.ptr 0 0)), (3, .c (.int .i64 (bldN c.2.2.1))), (7, .c (.int .i64 i))], [(0, .cells 50 (cc c))], 1⟩) (fun i => c.2.2.2.1.length - i) ⟨0, ⟨by simp, rfl⟩, ?_⟩ ?_
      · (conv => whnf); refine ⟨rfl, ?_, ?_, ?_⟩ <;> (repeat' apply And.intro) <;> first | exact trivial | rfl | exact wr_succ _ (by omega) | assumption | exact decide_eq_false (by assumption) | exact decide_eq_true (by assumption)
      rintro i ⟨hI1, hI2⟩
      conv => whnf
      intro _
      refine ⟨fun h2 => ?_, fun h2 => ?_⟩
      · have h2 : i < c.2.2.2.1.length := by simp at h2; omega
        conv => whnf
        try (intro _; conv => whnf)
        refine ⟨by omega, ?_⟩
        rw [gt_nat (d := ID) c.2.2.2.1 i h2]
        conv => whnf
        cases i with
        | zero =>
          rw [show prevI c.2.2.2.1 0 = none from rfl, List.drop_zero, idx_step0 h2] at hI2
          refine any0 ?_
          conv => whnf
          refine callr0 (ref_Has c 1 c.2.2.2.1[0].1) rfl ?_
          conv => whnf
          refine callrg0 (fun _ => ref_Name c.2.2.2.1[0].2) rfl ?_
          conv => whnf
          refine ⟨fun h => by simp at h, ?_⟩
          conv => whnf
          refine callrg0 (fun _ => ref16_ahead _ c.2.2.2.1[0]) rfl ?_
          conv => whnf
          refine ⟨.inl (by kernel_rfl), after0 ?_⟩
          conv => whnf
          refine ⟨fun h3 => ?_, fun h3 => ?_⟩
          · have h3 : (!hasT c.1 c.2.2.2.1[0].1 || !nameS c.2.2.2.1[0].2 || false) = true := h3
            rw [h3] at hI2
            rw [show goodC c = false by rw [hg2, ← hI2]; simp]
            conv => whnf
          · have h3 : (!hasT c.1 c.2.2.2.1[0].1 || !nameS c.2.2.2.1[0].2 || false) = false := h3
            rw [h3, Bool.not_false, Bool.true_and] at hI2
            conv => whnf
            refine ⟨1, ⟨⟨by omega, by rw [← hI2]; exact congrArg (fun p => idxL c p _) (List.getElem?_eq_getElem h2)⟩, by omega⟩, ?_⟩
            (conv => whnf); refine ⟨rfl, ?_, ?_, ?_⟩ <;> (repeat' apply And.intro) <;> first | exact trivial | rfl | exact wr_succ _ (by omega) | assumption | exact decide_eq_false (by assumption) | exact decide_eq_true (by assumption)
        | succ i =>
          rw [show prevI c.2.2.2.1 (i + 1) = some c.2.2.2.1[i] from List.getElem?_eq_getElem (by omega), idx_step h2] at hI2
          refine any0 ?_
          conv => whnf
          refine callr0 (ref_Has c 1 c.2.2.2.1[i + 1].1) rfl ?_
          conv => whnf
          refine callrg0 (fun _ => ref_Name c.2.2.2.1[i + 1].2) rfl ?_
          conv => whnf
          rw [wr_prd i (by omega)]
          refine ⟨fun _ => by omega, ?_⟩
          rw [gt_nat (d := ID) c.2.2.2.1 i (by omega)]
          conv => whnf
          refine callrg0 (fun _ => ref16_ahead _ c.2.2.2.1[i + 1]) rfl ?_
          conv => whnf
          refine ⟨.inl (by kernel_rfl), after0 ?_⟩
          conv => whnf
          rw [show decide ((0 : Int) < ((i + 1 : Nat) : Int)) = true from decide_eq_true (by omega), Bool.true_and]
          refine ⟨fun h3 => ?_, fun h3 => ?_⟩
          · have h3 : (!hasT c.1 c.2.2.2.1[i + 1].1 || !nameS c.2.2.2.1[i + 1].2 || !ltIx c.2.2.2.1[i] c.2.2.2.1[i + 1]) = true := h3
            rw [h3] at hI2
            rw [show goodC c = false by rw [hg2, ← hI2]; simp]
            conv => whnf
          · have h3 : (!hasT c.1 c.2.2.2.1[i + 1].1 || !nameS c.2.2.2.1[i + 1].2 || !ltIx c.2.2.2.1[i] c.2.2.2.1[i + 1]) = false := h3
            rw [h3, Bool.not_false, Bool.true_and] at hI2
            conv => whnf
            refine ⟨i + 2, ⟨⟨by omega, by rw [← hI2]; exact congrArg (fun p => idxL c p _) (List.getElem?_eq_getElem h2)⟩, by omega⟩, ?_⟩
            (conv => whnf); refine ⟨rfl, ?_, ?_, ?_⟩ <;> (repeat' apply And.intro) <;> first | exact trivial | rfl | exact wr_succ _ (by omega) | assumption | exact decide_eq_false (by assumption) | exact decide_eq_true (by assumption)
      · rw [idx_end c _ (by simp at h2; omega)] at hI2
        conv => whnf
        rw [hg2, ← hI2]
        rfl
end Go.Proofs.YtdhfipjfgigamaaGreatDoor
/- The walks of answer.id, empty, Good and of the reference's. Own work. -/
set_option linter.unusedVariables false
set_option maxRecDepth 100000
namespace Go.Proofs.YtdhfipjfgigamaaGreatDoor.Ans
open Go Go.RowKit OE

def okId (n : Int) : Bool := decide (0 ≤ n) && decide (n ≤ 4611686018427387903)
def idsS (l : List Int) : Bool := l.all okId
/-- a reply: code, Id, rule, nodes, edges, Ids, catalog -/
abbrev AD : D := .pair (.int .i64) (.pair (.int .i64) (.pair (.int .i64) (.pair (.list ND) (.pair (.list ED) (.pair (.list LD) CD)))))
abbrev ac (r : AD.T) : List C := [.int .i64 r.1, .int .i64 r.2.1, .int .i64 r.2.2.1, .dat ND r.2.2.2.1, .dat ED r.2.2.2.2.1, .dat LD r.2.2.2.2.2.1, .dat .str r.2.2.2.2.2.2.1, .dat .str r.2.2.2.2.2.2.2.1, .dat RD r.2.2.2.2.2.2.2.2.1, .dat ID r.2.2.2.2.2.2.2.2.2.1, .int .i64 r.2.2.2.2.2.2.2.2.2.2]
def aC (r : AD.T) : CD.T := r.2.2.2.2.2.2
def emptyC (c : CD.T) : Bool := decide (c.2.2.2.2 = 0) && decide (c.1.length + c.2.1.length + c.2.2.1.length + c.2.2.2.1.length = 0)
def goodN (n : ND.T) : Bool := okId n.1 && nameS n.2.1 && propsS n.2.2
def goodE (e : ED.T) : Bool := okId e.1 && okId e.2.2.1 && okId e.2.2.2.1 && nameS e.2.1 && propsS e.2.2.2.2
def bndA (r : AD.T) : Bool := decide ((r.1 : Int) < 0) || decide (1000 < (r.1 : Int)) || decide ((r.2.2.1 : Int) < 0) || decide (1000000 < (r.2.2.1 : Int)) || decide ((1024 : Int) < r.2.2.2.1.length) || decide ((1024 : Int) < r.2.2.2.2.1.length) || decide ((1024 : Int) < r.2.2.2.2.2.1.length)
def headA (r : AD.T) : Bool := !bndA r && (okId r.2.1 && idsS r.2.2.2.2.2.1)
def goodA (r : AD.T) : Bool := headA r && (r.2.2.2.1.all goodN && (r.2.2.2.2.1.all goodE && (emptyC (aC r) || goodC (aC r))))
theorem all_step {α : Type} {f : α → Bool} {l : List α} {i : Nat} (h : i < l.length) : (l.take (i + 1)).all f = ((l.take i).all f && f l[i]) := by
  rw [List.take_add_one, List.all_append, List.getElem?_eq_getElem h]
  simp
theorem all_no {α : Type} {f : α → Bool} {l : List α} {i : Nat} (h : i < l.length) (hf : f l[i] = false) : l.all f = false := by
  rw [List.all_eq_false]
  exact ⟨l[i], List.getElem_mem h, by rw [hf]; decide⟩
end Go.Proofs.YtdhfipjfgigamaaGreatDoor.Ans
