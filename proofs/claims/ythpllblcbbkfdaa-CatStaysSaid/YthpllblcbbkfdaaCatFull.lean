/- The plain law of CatMany: what its rounds come to. Own work. -/
import Derived.Test.YthpllblcbbkfdaaCatStay
import Derived.Test.YthpllblcbbkfdaaCatWakes
import Derived.KernelRfl
set_option linter.unusedVariables false
namespace Go.Proofs.Ythpllblcbbkfdaa
open Go Go.RowKit OE

abbrev manT : List UInt8 := [109, 97, 110]
abbrev zzT : List UInt8 := [122, 122]
abbrev aaT : List UInt8 := [97, 97]
def rM (nm : List UInt8) : RD.T := (0, 2, manT, nm, [], [], 0, 0)
def up1 (i : Nat) : List UInt8 := [UInt8.ofNat (97 + i)]
def dn1 (i : Nat) : List UInt8 := [UInt8.ofNat (122 - i)]
/-- the catalog after so many rounds -/
def cM : Nat → CD.T
  | 0 => ([manT], [], [], [], 1)
  | i + 1 => (addIS (enableS (addRS (cM i) (rM (up1 i))).1 ((i : Int) + 1)).1 (manT, dn1 i)).1
def cA (i : Nat) : CD.T := (addRS (cM i) (rM (up1 i))).1
def cE (i : Nat) : CD.T := (enableS (cA i) ((i : Int) + 1)).1
def cD (k : Nat) : CD.T := (dropRS (cM 16) ((k : Int) + 1)).1
def cB (k : Nat) : CD.T := (addRS (cD k) (rM zzT)).1
/-- what is seen in a round -/
def seen1 (i : Nat) : Bool := decide ((addRS (cM i) (rM (up1 i))).2 = ((i : Int) + 1, 0)) && (decide ((addRS (cA i) (rM zzT)).2.2 = 161) && (decide ((enableS (cA i) ((i : Int) + 1)).2 = 0) && decide ((addIS (cE i) (manT, dn1 i)).2 = 0)))
def seen2 (k : Nat) : Bool := decide ((dropRS (cM 16) ((k : Int) + 1)).2 = 0) && (decide ((addRS (cD k) (rM zzT)).2 = (17, 0)) && (goodC (cB k) && decide ((cB k).2.2.1.length = 16)))
theorem all1 : (List.range 16).all seen1 = true := by kernel_rfl
theorem all2 : (List.range 16).all seen2 = true := by kernel_rfl
theorem end1 : (addRS (cM 16) (rM zzT)).2.2 = 3 := by kernel_rfl
theorem end2 : (addIS (cM 16) (manT, aaT)).2 = 3 := by kernel_rfl
theorem good0 : goodC (cM 0) = true := by kernel_rfl
theorem see1 {i : Nat} (h : i < 16) : (addRS (cM i) (rM (up1 i))).2 = ((i : Int) + 1, 0) ∧ (addRS (cA i) (rM zzT)).2.2 = 161 ∧ (enableS (cA i) ((i : Int) + 1)).2 = 0 ∧ (addIS (cE i) (manT, dn1 i)).2 = 0 := by
  have := List.all_eq_true.1 all1 i (List.mem_range.2 h)
  simpa only [seen1, Bool.and_eq_true, decide_eq_true_eq] using this
theorem see2 {k : Nat} (h : k < 16) : (dropRS (cM 16) ((k : Int) + 1)).2 = 0 ∧ (addRS (cD k) (rM zzT)).2 = (17, 0) ∧ goodC (cB k) = true ∧ (cB k).2.2.1.length = 16 := by
  have := List.all_eq_true.1 all2 k (List.mem_range.2 h)
  simpa only [seen2, Bool.and_eq_true, decide_eq_true_eq] using this
theorem cA_good {i : Nat} (h : i < 16) : goodC (cA i) = true := (stay_add (by have := (see1 h).1; rw [this])).1
theorem cE_good {i : Nat} (h : i < 16) : goodC (cE i) = true := (stay_enable (see1 h).2.2.1).1
theorem cM_good : ∀ {i : Nat}, i ≤ 16 → goodC (cM i) = true
  | 0, _ => good0
  | i + 1, h => (stay_addI (see1 (i := i) (by omega)).2.2.2).1
theorem cD_good {k : Nat} (h : k < 16) : goodC (cD k) = true := (stay_drop (see2 h).1).1
/-- lengths of what is good -/
theorem good_len {c : CD.T} (h : goodC c = true) : c.1.length ≤ 1000 ∧ c.2.1.length ≤ 1000 ∧ c.2.2.1.length ≤ 1000 ∧ c.2.2.2.1.length ≤ 1000 := by
  have hc := (gc_iff c).1 h
  have ht := hc.ty
  simp only [typesS, tyS, Bool.and_eq_true, Bool.not_eq_true', decide_eq_false_iff_not] at ht
  have h1 := ht.1.1
  have h2 := ht.2.1
  exact ⟨by omega, by omega, Nat.le_trans hc.r4 (by decide), Nat.le_trans hc.i1 (by decide)⟩
end Go.Proofs.Ythpllblcbbkfdaa
