/- The walk of the law ValBack. Own work. -/
import Derived.Test.YtfpgjaallhpddabValThere
import Derived.Test.YtfpgjaallhpddabLawValSets
import Derived.Test.YtfpgjaallhpddabValDecPropsW
set_option linter.unusedVariables false
set_option maxRecDepth 100000
namespace Go.Proofs.Ytfpgjaallhpddab
open Go Go.RowKit OE

theorem encPs_len {l : List PD.T} (hl : Wf (.list PD) l) (h : propsS l = true) : (encPs l).length ≤ 8538 := by
  obtain ⟨hn, hall⟩ := props_all h
  have hE : encPs l = Num.putN l.length ++ encL l := if_pos h
  have h1 := encL_len (l := l) fun p hp => ⟨hl.2 p hp, name_len (hall p hp).1⟩
  have h2 := Num.putN_ten (n := l.length) (by omega)
  rw [hE, List.length_append]; omega
theorem row_ValBack (v : VD.T) (hv : Wf VD v) (l : List PD.T) (hl : Wf (.list PD) l) (s : List UInt8) (hs : s.length ≤ 140737488351232) :
    FnD Try.prog 3 [.agg (vc v), .c (.dat PD l), .c (.str s)] (· = .c (.bool (.sym true))) := by
  have eqV : ∀ x : VD.T, VD.eqb x x = true := fun x => (D.eqb_iff VD x x).2 rfl
  refine fn0 Try.func3 rfl rfl rfl ?_
  conv => whnf
  refine call1 (keep_LargeValue v) rfl ?_
  conv => whnf
  refine callg0 (fun _ => keep_LargeProps l) rfl ?_
  conv => whnf
  refine ⟨fun h1 => ?_, fun h1 => ?_⟩
  · conv => whnf
    refine call1 (val_wakes) rfl ?_
    conv => whnf
  simp only [Bool.or_eq_false_iff] at h1
  have hll := props_len h1.1.2
  have hvl : v.2.2.length ≤ 5000 := by have := h1.1.1; simp at this; omega
  have hsl : s.length ≤ 100000 := by have := h1.2; simp at this; omega
  have hEl := encV_len hv
  conv => whnf
  refine call1 (val_Encode v hv) rfl ?_
  conv => whnf
  refine ⟨fun h2 => ?_, fun h2 => ?_⟩
  · have hgb : blankV v = true ∨ goodV v = true := by
      by_cases hb : blankV v = true
      · exact .inl hb
      by_cases hg : goodV v = true
      · exact .inr hg
      have : encV v = [] := by unfold encV; rw [if_neg hb, if_neg hg]
      rw [this] at h2
      simp at h2
    have hd := decV_enc hv hgb [] [120] (s := encV v ++ [120]) (k := 0) (by simp) rfl
    conv => whnf
    refine ⟨by show _ + 1 ≤ _; omega, ?_⟩
    conv => whnf
    refine call1 (val_Decode (encV v ++ [120]) 0 (by rw [List.length_append]; show _ + 1 ≤ _; omega)) rfl ?_
    conv => whnf
    rw [hd]
    dsimp only [Option.getD_some, Option.isSome_some]
    refine callg0 (fun _ => keep_Value v v) rfl ?_
    conv => whnf
    rw [eqV v]
    refine fk (by simp) ?_
    conv => whnf
    refine call1 (val_few l (by omega)) rfl ?_
    conv => whnf
    refine call1 (val_EncodeProps l hl) rfl ?_
    conv => whnf
    refine ⟨fun h3 => ?_, fun h3 => ?_⟩
    · have hps : propsS l = true := by
        by_cases hps : propsS l = true
        · exact hps
        · simp [errPs, hps] at h3
      have hpl := encPs_len hl hps
      have hd := decPs_enc hl hps [120] [] (s := [120] ++ encPs l) (k := 1) (by simp) rfl
      conv => whnf
      refine ⟨by show 1 + _ ≤ _; omega, ?_⟩
      conv => whnf
      refine call1 (val_DecodeProps ([120] ++ encPs l) 1 (by rw [List.length_append]; show 1 + _ ≤ _; omega)) rfl ?_
      conv => whnf
      rw [hd]
      dsimp only [Option.getD_some, Option.isSome_some]
      refine callg0 (fun _ => keep_Props l l) rfl ?_
      conv => whnf
      rw [eqP_self l]
      refine fk (by simp) ?_
      conv => whnf
      refine call1 (val_Decode s 0 (by omega)) rfl ?_
      conv => whnf
      cases hd0 : decV s 0 with
      | none =>
        refine any0 ?_
        conv => whnf
        refine callrg0 (fun _ => val_Encode V0 (by decide)) rfl ?_
        conv => whnf
        refine ⟨fun _ => by dsimp only [Option.getD_none]; omega, ?_⟩
        conv => whnf
        refine ⟨.inl (by kernel_rfl), after0 ?_⟩
        conv => whnf
        refine fk rfl ?_
        conv => whnf
        refine call1 (val_DecodeProps s 0 (by omega)) rfl ?_
        conv => whnf
        cases hp : decPs s 0 with
        | none =>
          refine tk rfl ?_
          conv => whnf
          intro _
          conv => whnf
          refine callg0 (fun _ => val_wakes) rfl ?_
          conv => whnf
          rfl
        | some p =>
          have hb := decPs_take (l := p.1) (m := p.2) hp
          have hw := decPs_wf (l := p.1) (m := p.2) hp
          refine fk rfl ?_
          conv => whnf
          refine call1 (val_EncodeProps p.1 hw) rfl ?_
          conv => whnf
          refine ⟨fun _ => ⟨Int.natCast_nonneg _, Int.ofNat_le.2 hb.2.2.1⟩, ?_⟩
          conv => whnf
          refine callg0 (fun _ => val_wakes) rfl ?_
          conv => whnf
          have e0 : errPs p.1 = 0 := if_pos hb.1
          rw [e0]
          simp [hb.2.1]
      | some q =>
        have ht := decV_take (v := q.1) (j := q.2) hd0
        have hbd := decV_bd (v := q.1) (j := q.2) hd0
        simp only [Int.toNat_zero, List.drop_zero] at ht
        refine any0 ?_
        conv => whnf
        refine callrg0 (fun _ => val_Encode q.1 (decV_wf (v := q.1) (j := q.2) hd0)) rfl ?_
        conv => whnf
        refine ⟨fun _ => by dsimp only [Option.getD_some]; omega, ?_⟩
        conv => whnf
        refine ⟨.inl (by kernel_rfl), after0 ?_⟩
        conv => whnf
        refine fk (by simp [ht]) ?_
        conv => whnf
        refine call1 (val_DecodeProps s 0 (by omega)) rfl ?_
        conv => whnf
        cases hp : decPs s 0 with
        | none =>
          refine tk rfl ?_
          conv => whnf
          intro _
          conv => whnf
          refine callg0 (fun _ => val_wakes) rfl ?_
          conv => whnf
          rfl
        | some p =>
          have hb := decPs_take (l := p.1) (m := p.2) hp
          have hw := decPs_wf (l := p.1) (m := p.2) hp
          refine fk rfl ?_
          conv => whnf
          refine call1 (val_EncodeProps p.1 hw) rfl ?_
          conv => whnf
          refine ⟨fun _ => ⟨Int.natCast_nonneg _, Int.ofNat_le.2 hb.2.2.1⟩, ?_⟩
          conv => whnf
          refine callg0 (fun _ => val_wakes) rfl ?_
          conv => whnf
          have e0 : errPs p.1 = 0 := if_pos hb.1
          rw [e0]
          simp [hb.2.1]
    · conv => whnf
      refine call1 (val_Decode s 0 (by omega)) rfl ?_
      conv => whnf
      cases hd0 : decV s 0 with
      | none =>
        refine any0 ?_
        conv => whnf
        refine callrg0 (fun _ => val_Encode V0 (by decide)) rfl ?_
        conv => whnf
        refine ⟨fun _ => by dsimp only [Option.getD_none]; omega, ?_⟩
        conv => whnf
        refine ⟨.inl (by kernel_rfl), after0 ?_⟩
        conv => whnf
        refine fk rfl ?_
        conv => whnf
        refine call1 (val_DecodeProps s 0 (by omega)) rfl ?_
        conv => whnf
        cases hp : decPs s 0 with
        | none =>
          refine tk rfl ?_
          conv => whnf
          intro _
          conv => whnf
          refine callg0 (fun _ => val_wakes) rfl ?_
          conv => whnf
          rfl
        | some p =>
          have hb := decPs_take (l := p.1) (m := p.2) hp
          have hw := decPs_wf (l := p.1) (m := p.2) hp
          refine fk rfl ?_
          conv => whnf
          refine call1 (val_EncodeProps p.1 hw) rfl ?_
          conv => whnf
          refine ⟨fun _ => ⟨Int.natCast_nonneg _, Int.ofNat_le.2 hb.2.2.1⟩, ?_⟩
          conv => whnf
          refine callg0 (fun _ => val_wakes) rfl ?_
          conv => whnf
          have e0 : errPs p.1 = 0 := if_pos hb.1
          rw [e0]
          simp [hb.2.1]
      | some q =>
        have ht := decV_take (v := q.1) (j := q.2) hd0
        have hbd := decV_bd (v := q.1) (j := q.2) hd0
        simp only [Int.toNat_zero, List.drop_zero] at ht
        refine any0 ?_
        conv => whnf
        refine callrg0 (fun _ => val_Encode q.1 (decV_wf (v := q.1) (j := q.2) hd0)) rfl ?_
        conv => whnf
        refine ⟨fun _ => by dsimp only [Option.getD_some]; omega, ?_⟩
        conv => whnf
        refine ⟨.inl (by kernel_rfl), after0 ?_⟩
        conv => whnf
        refine fk (by simp [ht]) ?_
        conv => whnf
        refine call1 (val_DecodeProps s 0 (by omega)) rfl ?_
        conv => whnf
        cases hp : decPs s 0 with
        | none =>
          refine tk rfl ?_
          conv => whnf
          intro _
          conv => whnf
          refine callg0 (fun _ => val_wakes) rfl ?_
          conv => whnf
          rfl
        | some p =>
          have hb := decPs_take (l := p.1) (m := p.2) hp
          have hw := decPs_wf (l := p.1) (m := p.2) hp
          refine fk rfl ?_
          conv => whnf
          refine call1 (val_EncodeProps p.1 hw) rfl ?_
          conv => whnf
          refine ⟨fun _ => ⟨Int.natCast_nonneg _, Int.ofNat_le.2 hb.2.2.1⟩, ?_⟩
          conv => whnf
          refine callg0 (fun _ => val_wakes) rfl ?_
          conv => whnf
          have e0 : errPs p.1 = 0 := if_pos hb.1
          rw [e0]
          simp [hb.2.1]
  · conv => whnf
    refine call1 (ref_Good v) rfl ?_
    conv => whnf
    refine fk (by
      cases hg : goodV v with
      | false => rfl
      | true =>
        have hE : encV v ≠ [] := by
          unfold encV
          by_cases hb : blankV v = true
          · rw [if_pos hb]; unfold kb byl; simp
          · rw [if_neg hb, if_pos hg]; split
            · unfold kb byl; simp
            · split <;> (unfold kb byl; simp)
        simp [hE] at h2) ?_
    conv => whnf
    refine call1 (val_few l (by omega)) rfl ?_
    conv => whnf
    refine call1 (val_EncodeProps l hl) rfl ?_
    conv => whnf
    refine ⟨fun h3 => ?_, fun h3 => ?_⟩
    · have hps : propsS l = true := by
        by_cases hps : propsS l = true
        · exact hps
        · simp [errPs, hps] at h3
      have hpl := encPs_len hl hps
      have hd := decPs_enc hl hps [120] [] (s := [120] ++ encPs l) (k := 1) (by simp) rfl
      conv => whnf
      refine ⟨by show 1 + _ ≤ _; omega, ?_⟩
      conv => whnf
      refine call1 (val_DecodeProps ([120] ++ encPs l) 1 (by rw [List.length_append]; show 1 + _ ≤ _; omega)) rfl ?_
      conv => whnf
      rw [hd]
      dsimp only [Option.getD_some, Option.isSome_some]
      refine callg0 (fun _ => keep_Props l l) rfl ?_
      conv => whnf
      rw [eqP_self l]
      refine fk (by simp) ?_
      conv => whnf
      refine call1 (val_Decode s 0 (by omega)) rfl ?_
      conv => whnf
      cases hd0 : decV s 0 with
      | none =>
        refine any0 ?_
        conv => whnf
        refine callrg0 (fun _ => val_Encode V0 (by decide)) rfl ?_
        conv => whnf
        refine ⟨fun _ => by dsimp only [Option.getD_none]; omega, ?_⟩
        conv => whnf
        refine ⟨.inl (by kernel_rfl), after0 ?_⟩
        conv => whnf
        refine fk rfl ?_
        conv => whnf
        refine call1 (val_DecodeProps s 0 (by omega)) rfl ?_
        conv => whnf
        cases hp : decPs s 0 with
        | none =>
          refine tk rfl ?_
          conv => whnf
          intro _
          conv => whnf
          refine callg0 (fun _ => val_wakes) rfl ?_
          conv => whnf
          rfl
        | some p =>
          have hb := decPs_take (l := p.1) (m := p.2) hp
          have hw := decPs_wf (l := p.1) (m := p.2) hp
          refine fk rfl ?_
          conv => whnf
          refine call1 (val_EncodeProps p.1 hw) rfl ?_
          conv => whnf
          refine ⟨fun _ => ⟨Int.natCast_nonneg _, Int.ofNat_le.2 hb.2.2.1⟩, ?_⟩
          conv => whnf
          refine callg0 (fun _ => val_wakes) rfl ?_
          conv => whnf
          have e0 : errPs p.1 = 0 := if_pos hb.1
          rw [e0]
          simp [hb.2.1]
      | some q =>
        have ht := decV_take (v := q.1) (j := q.2) hd0
        have hbd := decV_bd (v := q.1) (j := q.2) hd0
        simp only [Int.toNat_zero, List.drop_zero] at ht
        refine any0 ?_
        conv => whnf
        refine callrg0 (fun _ => val_Encode q.1 (decV_wf (v := q.1) (j := q.2) hd0)) rfl ?_
        conv => whnf
        refine ⟨fun _ => by dsimp only [Option.getD_some]; omega, ?_⟩
        conv => whnf
        refine ⟨.inl (by kernel_rfl), after0 ?_⟩
        conv => whnf
        refine fk (by simp [ht]) ?_
        conv => whnf
        refine call1 (val_DecodeProps s 0 (by omega)) rfl ?_
        conv => whnf
        cases hp : decPs s 0 with
        | none =>
          refine tk rfl ?_
          conv => whnf
          intro _
          conv => whnf
          refine callg0 (fun _ => val_wakes) rfl ?_
          conv => whnf
          rfl
        | some p =>
          have hb := decPs_take (l := p.1) (m := p.2) hp
          have hw := decPs_wf (l := p.1) (m := p.2) hp
          refine fk rfl ?_
          conv => whnf
          refine call1 (val_EncodeProps p.1 hw) rfl ?_
          conv => whnf
          refine ⟨fun _ => ⟨Int.natCast_nonneg _, Int.ofNat_le.2 hb.2.2.1⟩, ?_⟩
          conv => whnf
          refine callg0 (fun _ => val_wakes) rfl ?_
          conv => whnf
          have e0 : errPs p.1 = 0 := if_pos hb.1
          rw [e0]
          simp [hb.2.1]
    · conv => whnf
      refine call1 (val_Decode s 0 (by omega)) rfl ?_
      conv => whnf
      cases hd0 : decV s 0 with
      | none =>
        refine any0 ?_
        conv => whnf
        refine callrg0 (fun _ => val_Encode V0 (by decide)) rfl ?_
        conv => whnf
        refine ⟨fun _ => by dsimp only [Option.getD_none]; omega, ?_⟩
        conv => whnf
        refine ⟨.inl (by kernel_rfl), after0 ?_⟩
        conv => whnf
        refine fk rfl ?_
        conv => whnf
        refine call1 (val_DecodeProps s 0 (by omega)) rfl ?_
        conv => whnf
        cases hp : decPs s 0 with
        | none =>
          refine tk rfl ?_
          conv => whnf
          intro _
          conv => whnf
          refine callg0 (fun _ => val_wakes) rfl ?_
          conv => whnf
          rfl
        | some p =>
          have hb := decPs_take (l := p.1) (m := p.2) hp
          have hw := decPs_wf (l := p.1) (m := p.2) hp
          refine fk rfl ?_
          conv => whnf
          refine call1 (val_EncodeProps p.1 hw) rfl ?_
          conv => whnf
          refine ⟨fun _ => ⟨Int.natCast_nonneg _, Int.ofNat_le.2 hb.2.2.1⟩, ?_⟩
          conv => whnf
          refine callg0 (fun _ => val_wakes) rfl ?_
          conv => whnf
          have e0 : errPs p.1 = 0 := if_pos hb.1
          rw [e0]
          simp [hb.2.1]
      | some q =>
        have ht := decV_take (v := q.1) (j := q.2) hd0
        have hbd := decV_bd (v := q.1) (j := q.2) hd0
        simp only [Int.toNat_zero, List.drop_zero] at ht
        refine any0 ?_
        conv => whnf
        refine callrg0 (fun _ => val_Encode q.1 (decV_wf (v := q.1) (j := q.2) hd0)) rfl ?_
        conv => whnf
        refine ⟨fun _ => by dsimp only [Option.getD_some]; omega, ?_⟩
        conv => whnf
        refine ⟨.inl (by kernel_rfl), after0 ?_⟩
        conv => whnf
        refine fk (by simp [ht]) ?_
        conv => whnf
        refine call1 (val_DecodeProps s 0 (by omega)) rfl ?_
        conv => whnf
        cases hp : decPs s 0 with
        | none =>
          refine tk rfl ?_
          conv => whnf
          intro _
          conv => whnf
          refine callg0 (fun _ => val_wakes) rfl ?_
          conv => whnf
          rfl
        | some p =>
          have hb := decPs_take (l := p.1) (m := p.2) hp
          have hw := decPs_wf (l := p.1) (m := p.2) hp
          refine fk rfl ?_
          conv => whnf
          refine call1 (val_EncodeProps p.1 hw) rfl ?_
          conv => whnf
          refine ⟨fun _ => ⟨Int.natCast_nonneg _, Int.ofNat_le.2 hb.2.2.1⟩, ?_⟩
          conv => whnf
          refine callg0 (fun _ => val_wakes) rfl ?_
          conv => whnf
          have e0 : errPs p.1 = 0 := if_pos hb.1
          rw [e0]
          simp [hb.2.1]
end Go.Proofs.Ytfpgjaallhpddab
