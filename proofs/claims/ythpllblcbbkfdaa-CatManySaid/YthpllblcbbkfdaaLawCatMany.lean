/- The walk of the law CatMany. Own work. -/
import Derived.Test.YthpllblcbbkfdaaCatFull
import Derived.Test.YthpllblcbbkfdaaCatAddIndex
set_option linter.unusedVariables false
set_option maxRecDepth 100000
namespace Go.Proofs.Ythpllblcbbkfdaa
open Go Go.RowKit OE

theorem up_eq : ∀ j : Fin 16, byl [IntKind.wrap .u8 (IntKind.wrap .i64 (97 + ((j.1 : Nat) : Int)))] = up1 j.1 := by decide
theorem dn_eq : ∀ j : Fin 16, byl [IntKind.wrap .u8 (IntKind.wrap .i64 (122 - ((j.1 : Nat) : Int)))] = dn1 j.1 := by decide
theorem in_eq : ∀ j : Fin 16, IntKind.wrap .i64 (((j.1 : Nat) : Int) + 1) = ((j.1 : Nat) : Int) + 1 := by decide
theorem add3 {p : CD.T × Int × Int} {a b : Int} (h : p.2 = (a, b)) : p = (p.1, a, b) := by
  obtain ⟨x, y⟩ := p
  simp only at h
  rw [h]
theorem en2 {p : CD.T × Int} {a : Int} (h : p.2 = a) : p = (p.1, a) := by
  obtain ⟨x, y⟩ := p
  simp only at h
  rw [h]
theorem wfM {s : List UInt8} (h : s.length ≤ 16) : Wf RD (rM s) :=
  ⟨lit_ok 0 (by decide) (by decide), lit_ok 2 (by decide) (by decide), (by decide : Wf D.str manT), (show s.length ≤ _ from Nat.le_trans h (by decide)), (by decide : Wf D.str []), (by decide : Wf D.str []), lit_ok 0 (by decide) (by decide), lit_ok 0 (by decide) (by decide)⟩
theorem md_eq (n : Int) (h0 : 0 ≤ n) (h1 : n ≤ 255) : ∃ k : Nat, k < 16 ∧ IntKind.wrap .i64 (1 + (IntKind.wrap .i64 n).tmod 16) = (k : Int) + 1 := by
  have e1 : IntKind.wrap .i64 n = n := wr64 _ (by omega) (by omega)
  have e2 : n.tmod 16 = n % 16 := Int.tmod_eq_emod_of_nonneg h0
  refine ⟨(n % 16).toNat, by omega, ?_⟩
  rw [e1, e2, wr64 _ (by omega) (by omega)]
  omega
theorem lit_u8 {n : Int} (h : (Lit.int .u8 n).wf = true) : 0 ≤ n ∧ n ≤ 255 := by
  simpa [Lit.wf, IntKind.min, IntKind.max, IntKind.bits, IntKind.signed] using h
theorem row_CatMany (n : Int) (wn : (Lit.int .u8 n).wf = true) :
    FnD Try.prog 12 [.c (.int .u8 n)] (· = .c (.bool (.sym true))) := by
  obtain ⟨h0, h1⟩ := lit_u8 wn
  refine fn0 Try.func12 rfl rfl rfl ?_
  conv => whnf
  refine call1 (cat_New) rfl ?_
  conv => whnf
  refine fzl 1 rfl ?_
  conv => whnf
  refine loop0 (α := Nat) (fun j => j ≤ 16)
    (fun j => ⟨[(0, .c (.int .u8 n)), (2, .c (.bool .ff)), (3, .c (.ptr 0 0)), (4, .c (.int .i64 j))], [(0, .cells 26 (cc (cM j)))], 1⟩) (fun j => 16 - j) ⟨0, by omega, ?_⟩ ?_
  · (conv => whnf); refine ⟨rfl, ?_, ?_, ?_⟩ <;> (repeat' apply And.intro) <;> first | exact trivial | rfl | exact wr_succ _ (by omega) | assumption | exact decide_eq_false (by assumption) | exact decide_eq_true (by assumption)
  rintro j hj
  conv => whnf
  refine ⟨fun h2 => ?_, fun h2 => ?_⟩
  · have h2 : j < 16 := by simp at h2; omega
    obtain ⟨s1, s2, s3, s4⟩ := see1 h2
    have e1 : addRS (cM j) (rM (up1 j)) = (cA j, (j : Int) + 1, 0) := add3 s1
    have e2 : addRS (cA j) (rM zzT) = ((addRS (cA j) (rM zzT)).1, (addRS (cA j) (rM zzT)).2.1, 161) := by rw [← s2]
    have e3 : enableS (cA j) ((j : Int) + 1) = (cE j, 0) := en2 s3
    have e4 : addIS (cE j) (manT, dn1 j) = (cM (j + 1), 0) := en2 s4
    obtain ⟨m1, m2, m3, m4⟩ := good_len (cM_good hj)
    obtain ⟨a1, a2, a3, a4⟩ := good_len (cA_good h2)
    obtain ⟨b1, b2, b3, b4⟩ := good_len (cE_good h2)
    conv => whnf
    rw [up_eq ⟨j, h2⟩]
    refine call1 (cat_AddRule (cM j) (rM (up1 j)) (good_wf (cM_good hj)) m1 m2 m3 m4) rfl ?_
    conv => whnf
    rw [e1, in_eq ⟨j, h2⟩]
    refine fk (by simp) ?_
    conv => whnf
    refine call1 (cat_AddRule (cA j) (rM zzT) (good_wf (cA_good h2)) a1 a2 a3 a4) rfl ?_
    conv => whnf
    rw [e2]
    refine fk rfl ?_
    conv => whnf
    refine call1 (cat_Enable (cA j) ((j : Int) + 1) (good_wf (cA_good h2)) a1 a2 a3 a4) rfl ?_
    conv => whnf
    rw [e3]
    refine fk rfl ?_
    conv => whnf
    rw [dn_eq ⟨j, h2⟩]
    refine call1 (cat_AddIndex (cE j) (manT, dn1 j) (good_wf (cE_good h2)) b1 b2 b3 b4) rfl ?_
    conv => whnf
    rw [e4]
    refine fk rfl ?_
    conv => whnf
    refine ⟨j + 1, ⟨by omega, by omega⟩, ?_⟩
    (conv => whnf); refine ⟨rfl, ?_, ?_, ?_⟩ <;> (repeat' apply And.intro) <;> first | exact trivial | rfl | exact wr_succ _ (by omega) | assumption | exact decide_eq_false (by assumption) | exact decide_eq_true (by assumption)
  have h2 : j = 16 := by simp at h2; omega
  subst h2
  obtain ⟨m1, m2, m3, m4⟩ := good_len (cM_good hj)
  conv => whnf
  refine call1 (cat_AddRule (cM 16) (rM zzT) (good_wf (cM_good hj)) m1 m2 m3 m4) rfl ?_
  conv => whnf
  refine call1 (cat_AddIndex (cM 16) (manT, aaT) (good_wf (cM_good hj)) m1 m2 m3 m4) rfl ?_
  conv => whnf
  refine ⟨by decide, ?_⟩
  conv => whnf
  obtain ⟨k, hk, ek⟩ := md_eq n h0 h1
  obtain ⟨s1, s2, s3, s4⟩ := see2 hk
  have e1 : dropRS (cM 16) ((k : Int) + 1) = (cD k, 0) := en2 s1
  have e2 : addRS (cD k) (rM zzT) = (cB k, 17, 0) := add3 s2
  obtain ⟨a1, a2, a3, a4⟩ := good_len (cD_good hk)
  rw [ek]
  refine call1 (cat_DropRule (cM 16) ((k : Int) + 1) (good_wf (cM_good hj)) m1 m2 m3 m4) rfl ?_
  conv => whnf
  rw [e1]
  refine call1 (cat_AddRule (cD k) (rM zzT) (good_wf (cD_good hk)) a1 a2 a3 a4) rfl ?_
  conv => whnf
  rw [e2]
  refine callg0 (fun _ => cat_Good (cB k) (good_wf s3).2.2.1.2 (good_len s3).2.2.1) rfl ?_
  conv => whnf
  intro _
  conv => whnf
  refine callg0 (fun _ => cat_wakes) rfl ?_
  conv => whnf
  rw [end1, end2, s3, show (List.length ((cB k, (17 : Int), (0 : Int)).1.2.2.1)) = 16 from s4]
  rfl
end Go.Proofs.Ythpllblcbbkfdaa
