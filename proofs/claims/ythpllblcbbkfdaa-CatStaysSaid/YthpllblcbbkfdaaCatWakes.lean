/- The walks of cat.New and of the laws' wakes. Own work. -/
import Derived.Test.YthpllblcbbkfdaaCatRefDecode
import Derived.Test.YthpllblcbbkfdaaCatRefEncode
import Derived.Test.YthpllblcbbkfdaaCatRefEnable
import Derived.Test.YthpllblcbbkfdaaCatRefAdd
set_option linter.unusedVariables false
set_option maxRecDepth 100000
namespace Go.Proofs.Ythpllblcbbkfdaa
open Go Go.RowKit OE

theorem FnD.nil5 {P : Program} {f : Nat} {args : List SV} {n : Int} (h : FnD P f args (· = .agg [.val (.slice none 0 0), .val (.slice none 0 0), .val (.slice none 0 0), .val (.slice none 0 0), .int .i64 n])) : FnD P f args (· = .agg (cc ([], [], [], [], n))) :=
  h.res fun r hr w ok v hv => by
    subst hr
    obtain ⟨us, e2, hl2⟩ := hv
    refine ⟨us, e2, ?_⟩
    generalize us.toList = n at hl2
    match n, hl2 with
    | [a, b, c, d, e], ⟨h1, h2, h3, h4, h5, _⟩ => exact ⟨nilC h1, nilC h2, nilC h3, nilC h4, h5, trivial⟩
theorem cat_New : FnD Try.prog 35 [] (· = .agg (cc ([], [], [], [], 1))) := by
  refine FnD.nil5 ?_
  refine fn0 Try.func35 rfl rfl rfl ?_
  conv => whnf
theorem ref16_New : FnD Try.prog 36 [] (· = .agg (cc ([], [], [], [], 1))) := by
  refine FnD.nil5 ?_
  refine fn0 Try.func36 rfl rfl rfl ?_
  conv => whnf

abbrev city : List UInt8 := [99, 105, 116, 121]
abbrev cityn : List UInt8 := [110, 97, 109, 101]
def rW (n s : Int) : RD.T := (n, 2, city, cityn, [], [], 0, s)
def cW (rs : List RD.T) (n : Int) : CD.T := ([city], [], rs, [], n)
theorem wkAdd : addRS (cW [] 1) (rW 0 0) = (cW [rW 1 1] 2, 1, 0) := by rfl
theorem wkEn : enableS (cW [rW 1 1] 2) 1 = (cW [rW 1 2] 2, 0) := by rfl
theorem wkEnc : errCS (cW [rW 1 2] 2) = 0 := by rfl
theorem putN_s (n : Nat) (h : n < 128) : Num.putN n = [UInt8.ofNat n] := Num.putN_lt h
theorem wkByt : encCS (cW [rW 1 2] 2) = [1, 4, 99, 105, 116, 121, 0, 1, 1, 2, 2, 0, 4, 99, 105, 116, 121, 4, 110, 97, 109, 101, 0, 0, 0, 2] := by
  have h1 : encS (rW 1 2) = bytS (rW 1 2) := by rfl
  have h2 : encCS (cW [rW 1 2] 2) = catB' (cW [rW 1 2] 2) := by rfl
  rw [h2]
  have h3 : catB' (cW [rW 1 2] 2) = Num.putN 1 ++ (Num.putN 4 ++ city ++ []) ++ (Num.putN 0 ++ []) ++ Num.putN 1 ++ (bytS (rW 1 2) ++ []) ++ Num.putN 0 ++ [] ++ Num.putN 2 := by rfl
  have h4 : bytS (rW 1 2) = Num.putN 1 ++ Num.putN 2 ++ Num.putN 2 ++ Num.putN 0 ++ (Num.putN 4 ++ city) ++ (Num.putN 4 ++ cityn) ++ (Num.putN 0 ++ []) ++ (Num.putN 0 ++ []) := by rfl
  rw [h3, h4, putN_s 0 (by decide), putN_s 1 (by decide), putN_s 2 (by decide), putN_s 4 (by decide)]
  rfl
theorem wkDec : decO (encCS (cW [rW 1 2] 2)) = some (cW [rW 1 2] 2) := by rw [wkByt]; rfl
theorem wkSet : settleS (cW [rW 1 1] 2) = cW [] 2 := by rfl
theorem wfr (n s : Int) (h0 : 0 ≤ n) (h1 : n ≤ 10) (h2 : 0 ≤ s) (h3 : s ≤ 2) : Wf RD (rW n s) :=
  ⟨lit_ok n h0 (by omega), lit_ok 2 (by decide) (by decide), (by decide : Wf D.str city), (by decide : Wf D.str cityn), (by decide : Wf D.str []), (by decide : Wf D.str []), lit_ok 0 (by decide) (by decide), lit_ok s h2 (by omega)⟩
theorem wf1 : Wf CD (cW [] 1) := ⟨⟨by decide, fun s hs => by rw [List.mem_singleton.1 hs]; decide⟩, ⟨by decide, fun _ h => by cases h⟩, ⟨by decide, fun _ h => by cases h⟩, ⟨by decide, fun _ h => by cases h⟩, by decide⟩
theorem wf2 : Wf CD (cW [rW 1 1] 2) := ⟨⟨by decide, fun s hs => by rw [List.mem_singleton.1 hs]; decide⟩, ⟨by decide, fun _ h => by cases h⟩, ⟨by decide, fun s hs => by rw [List.mem_singleton.1 hs]; exact wfr 1 1 (by decide) (by decide) (by decide) (by decide)⟩, ⟨by decide, fun _ h => by cases h⟩, by decide⟩
theorem wf3 : Wf CD (cW [rW 1 2] 2) := ⟨⟨by decide, fun s hs => by rw [List.mem_singleton.1 hs]; decide⟩, ⟨by decide, fun _ h => by cases h⟩, ⟨by decide, fun s hs => by rw [List.mem_singleton.1 hs]; exact wfr 1 2 (by decide) (by decide) (by decide) (by decide)⟩, ⟨by decide, fun _ h => by cases h⟩, by decide⟩
theorem cat_wakes : FnD Try.prog 30 [] (· = .c (.bool (.sym true))) := by
  refine fn0 Try.func30 rfl rfl rfl ?_
  conv => whnf
  refine call1 (cat_New) rfl ?_
  conv => whnf
  refine fzc 1 rfl ?_
  conv => whnf
  refine call1 (cat_AddRule (cW [] 1) (rW 0 0) wf1 (by decide) (by decide) (by decide) (by decide)) rfl ?_
  conv => whnf
  rw [wkAdd]
  conv => whnf
  refine call1 (cat_Enable (cW [rW 1 1] 2) 1 wf2 (by decide) (by decide) (by decide) (by decide)) rfl ?_
  conv => whnf
  rw [wkEn]
  conv => whnf
  refine call1 (cat_Encode (cW [rW 1 2] 2) wf3 (by decide)) rfl ?_
  conv => whnf
  rw [wkEnc]
  conv => whnf
  refine call1 (cat_Decode (encCS (cW [rW 1 2] 2)) (by rw [wkByt]; decide)) rfl ?_
  conv => whnf
  rw [show decCS (encCS (cW [rW 1 2] 2)) = cW [rW 1 2] 2 by rw [decCS, wkDec]; rfl, show decCE (encCS (cW [rW 1 2] 2)) = 0 by rw [decCE, wkDec]; rfl]
  conv => whnf
  intro _
  conv => whnf
  refine ⟨fun _ => ⟨by decide, by show (0 : Int) < ((1 : Nat) : Int); decide⟩, ?_⟩
  conv => whnf
  refine callg0 (fun _ => keep_Cats (cW [rW 1 2] 2) (cW [rW 1 2] 2)) rfl ?_
  conv => whnf
  refine callg0 (fun _ => cat_Settle (cW [rW 1 1] 2) wf2 (by decide) (by decide) (by decide) (by decide)) rfl ?_
  conv => whnf
  rw [wkSet]
  conv => whnf
  intro _
  conv => whnf
  rfl
end Go.Proofs.Ythpllblcbbkfdaa
