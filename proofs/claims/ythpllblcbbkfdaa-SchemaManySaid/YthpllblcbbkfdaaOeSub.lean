/- OE, part 8: a weaker state is weaker; the loop's rule. Own work; generic over the program. -/
import Derived.Test.YthpllblcbbkfdaaOeRules
import Derived.LoopN
namespace OE
open Go Go.RowKit

def RLe (ρ σ : Ren) : Prop := ∀ b x, lk ρ b = some x → lk σ b = some x
theorem RLe.refl (ρ : Ren) : RLe ρ ρ := fun _ _ h => h
theorem RLe.trans {ρ σ τ : Ren} (h : RLe ρ σ) (k : RLe σ τ) : RLe ρ τ := fun b x hx => k b x (h b x hx)

theorem mB_le {ρ ρ' : Ren} {b : Nat} {x : Option Nat} (h : mB ρ b x = some ρ') : RLe ρ ρ' ∧ lk ρ' b = some x := by
  unfold mB at h
  split at h
  · rename_i y hy
    split at h
    · rename_i e; subst e; cases h; exact ⟨RLe.refl _, hy⟩
    · cases h
  · rename_i hn
    cases h
    refine ⟨fun c z hc => ?_, by simp [lk]⟩
    simp only [lk]
    split
    · rename_i e; subst e; rw [hn] at hc; cases hc
    · exact hc

/-- how the blocks' names of the one state stand in the other one -/
structure Nm (σ : Ren) (x1 x2 : Cx) : Prop where
  w : x1.w = x2.w
  ok : ∀ k, x2.ok k → x1.ok k
  some_ : ∀ b b', lk σ b = some (some b') → x1.nm b ∧ x1.η b = x2.η b'
  none_ : ∀ b, lk σ b = some none → x1.nm b ∧ x1.η b = (none, .slice none 0 0)

theorem rd_nm {σ : Ren} {x1 x2 : Cx} (h : Nm σ x1 x2) {d : D} {y : d.T} {cs : List Value} (hr : Rd x2.w x2.ok d y cs) : Rd x1.w x1.ok d y cs :=
  Rd.mono h.ok (fun _ _ => by rw [h.w]) hr

theorem mP_sound : ∀ {ρ ρ' : Ren} {l l' : List (Nat × Nat)} {p : Prop}, mP ρ l l' = some (ρ', p) → RLe ρ ρ' ∧ ∀ {σ : Ren} {x1 x2 : Cx}, RLe ρ' σ → Nm σ x1 x2 → p → ∀ m : List Value,
    RL (fun (p : Nat × Nat) u => x2.nm p.1 ∧ ∃ k, (x2.η p.1).1 = some k ∧ u = .pointer (some ⟨k, p.2, none⟩)) l' m → RL (fun (p : Nat × Nat) u => x1.nm p.1 ∧ ∃ k, (x1.η p.1).1 = some k ∧ u = .pointer (some ⟨k, p.2, none⟩)) l m
  | ρ, ρ', [], [], p, h => by
    simp only [mP, Option.some.injEq, Prod.mk.injEq] at h
    obtain ⟨rfl, rfl⟩ := h
    exact ⟨RLe.refl _, fun _ _ _ m hm => by cases m with | nil => trivial | cons _ _ => exact hm.elim⟩
  | ρ, ρ', (b, o) :: l, (b', o') :: l', p, h => by
    simp only [mP] at h
    split at h
    · rename_i ρ1 h1
      split at h
      · rename_i ρ2 p2 h2
        cases h
        obtain ⟨a1, a2⟩ := mB_le h1
        obtain ⟨b1, b2⟩ := mP_sound h2
        refine ⟨a1.trans b1, fun hle hn hp m hm => ?_⟩
        obtain ⟨v, m', rfl, ⟨g1, k, g2, g3⟩, g4⟩ := rl_cons hm
        obtain ⟨k1, k2⟩ := hn.some_ _ _ (hle _ _ (b1 _ _ a2))
        exact ⟨⟨k1, k, by rw [k2]; exact g2, by rw [hp.1]; exact g3⟩, b2 hle hn hp.2 m' g4⟩
      · cases h
    · cases h
  | _, _, [], _ :: _, _, h => by simp [mP] at h
  | _, _, _ :: _, [], _, h => by simp [mP] at h

theorem mC_sound {ρ ρ' : Ren} {c c' : C} {p : Prop} (h : mC ρ c c' = some (ρ', p)) : RLe ρ ρ' ∧ ∀ {σ : Ren} {x1 x2 : Cx}, RLe ρ' σ → Nm σ x1 x2 → p → ∀ v, RC x2 c' v → RC x1 c v := by
  unfold mC at h
  split at h
  · split at h
    · rename_i e; subst e; cases h
      exact ⟨RLe.refl _, fun _ _ hp v hv => by subst hp; exact hv⟩
    · cases h
  · cases h
    exact ⟨RLe.refl _, fun _ _ hp v hv => by
      have hv : v = .bool _ := hv
      show v = .bool _
      rw [hp]; exact hv⟩
  · cases h
    exact ⟨RLe.refl _, fun _ _ hp v hv => by subst hp; exact hv⟩
  · split at h
    · rename_i e; subst e; cases h
      refine ⟨RLe.refl _, fun _ hn hp v hv => ?_⟩
      have hp : _ = _ := hp
      subst hp
      exact (rd_nm hn (show Rd _ _ (.list _) _ [v] from hv) : Rd _ _ (.list _) _ [v])
    · cases h
  · cases h
    refine ⟨RLe.refl _, fun _ hn hp v hv => ?_⟩
    subst hp
    obtain ⟨rfl, _⟩ := hv
    show Rd _ _ (.list _) [] _
    simp only [Rd]
    exact ⟨none, 0, rfl, by simp, by simp [maxLen], fun _ => rfl, .inl rfl⟩
  · split at h
    · rename_i e; subst e; cases h
      refine ⟨RLe.refl _, fun _ hn hp v hv => ?_⟩
      obtain ⟨hp, rfl⟩ := hp
      have hp : _ = _ := hp
      subst hp
      obtain ⟨k, o, cells, T, fz, cs, h1, h2, h3, h4, h5⟩ := hv
      exact ⟨k, o, cells, T, fz, cs, h1, hn.ok k h2, by rw [hn.w]; exact h3, rd_nm hn h4, h5⟩
    · cases h
  · split at h
    · rename_i ρ1 hb
      cases h
      obtain ⟨h1, h2⟩ := mB_le hb
      refine ⟨h1, fun hle hn _ v ⟨hv1, hv2, hv3⟩ => ?_⟩
      obtain ⟨g1, g2⟩ := hn.some_ _ _ (hle _ _ h2)
      exact ⟨g1, by rw [g2]; exact hv2, hv3⟩
    · cases h
  · split at h
    · rename_i ρ1 hb
      cases h
      obtain ⟨h1, h2⟩ := mB_le hb
      refine ⟨h1, fun hle hn _ v ⟨hv1, hv2⟩ => ?_⟩
      obtain ⟨g1, g2⟩ := hn.none_ _ (hle _ _ h2)
      exact ⟨g1, by rw [g2]; exact hv1, _, _, _, hv1⟩
    · cases h
  · split at h
    · rename_i ρ1 hb
      cases h
      obtain ⟨h1, h2⟩ := mB_le hb
      refine ⟨h1, fun hle hn hp v ⟨hv1, k, hv2, hv3⟩ => ?_⟩
      subst hp
      obtain ⟨g1, g2⟩ := hn.some_ _ _ (hle _ _ h2)
      exact ⟨g1, k, by rw [g2]; exact hv2, hv3⟩
    · cases h
  · split at h
    · rename_i ρ1 hb
      cases h
      obtain ⟨h1, h2⟩ := mB_le hb
      refine ⟨h1, fun hle hn hp v ⟨hv1, k, hv2, hv3⟩ => ?_⟩
      subst hp
      obtain ⟨g1, g2⟩ := hn.some_ _ _ (hle _ _ h2)
      exact ⟨g1, k, by rw [g2]; exact hv2, hv3⟩
    · cases h
  · split at h
    · rename_i ρ1 hb
      cases h
      obtain ⟨h1, h2⟩ := mB_le hb
      refine ⟨h1, fun hle hn hp v ⟨hv1, hv4, hv5, k, o', hv2, hv3⟩ => ?_⟩
      obtain ⟨rfl, rfl, rfl, rfl⟩ := hp
      obtain ⟨g1, g2⟩ := hn.some_ _ _ (hle _ _ h2)
      exact ⟨g1, hv4, hv5, k, o', by rw [g2]; exact hv2, hv3⟩
    · cases h
  · split at h
    · rename_i ρ1 hb
      cases h
      obtain ⟨h1, h2⟩ := mB_le hb
      refine ⟨h1, fun hle hn hp v ⟨hv1, k, hv2, hv3⟩ => ?_⟩
      obtain ⟨g1, g2⟩ := hn.some_ _ _ (hle _ _ h2)
      exact ⟨g1, k, by rw [g2]; exact hv2, hv3⟩
    · cases h
  · split at h
    · rename_i ρ1 hb
      cases h
      obtain ⟨h1, h2⟩ := mB_le hb
      refine ⟨h1, fun hle hn hp v ⟨hv1, k, hv2, hv3⟩ => ?_⟩
      obtain ⟨rfl, rfl⟩ := hp
      obtain ⟨g1, g2⟩ := hn.some_ _ _ (hle _ _ h2)
      exact ⟨g1, k, by rw [g2]; exact hv2, hv3⟩
    · cases h
  · cases h
    exact ⟨RLe.refl _, fun _ _ hp v hv => by subst hp; exact hv⟩
  · split at h
    · rename_i ρ1 p1 h1
      cases h
      obtain ⟨a1, a2⟩ := mP_sound h1
      refine ⟨a1, fun hle hn hp v hv => ?_⟩
      obtain ⟨rfl, hp⟩ := hp
      obtain ⟨vs, e, hl⟩ := hv
      exact ⟨vs, e, a2 hle hn hp _ hl⟩
    · cases h
  · cases h

theorem mL_sound : ∀ {ρ ρ' : Ren} {l l' : List C} {p : Prop}, mL ρ l l' = some (ρ', p) → RLe ρ ρ' ∧ ∀ {σ : Ren} {x1 x2 : Cx}, RLe ρ' σ → Nm σ x1 x2 → p → ∀ m, RL (RC x2) l' m → RL (RC x1) l m
  | ρ, ρ', [], [], p, h => by
    simp only [mL, Option.some.injEq, Prod.mk.injEq] at h
    obtain ⟨rfl, rfl⟩ := h
    exact ⟨RLe.refl _, fun _ _ _ m hm => by cases m with | nil => trivial | cons _ _ => exact hm.elim⟩
  | ρ, ρ', c :: l, c' :: l', p, h => by
    simp only [mL] at h
    split at h
    · rename_i ρ1 p1 h1
      split at h
      · rename_i ρ2 p2 h2
        cases h
        obtain ⟨a1, a2⟩ := mC_sound h1
        obtain ⟨b1, b2⟩ := mL_sound h2
        refine ⟨a1.trans b1, fun hle hn hp m hm => ?_⟩
        obtain ⟨v, m', rfl, g1, g2⟩ := rl_cons hm
        exact ⟨a2 (b1.trans hle) hn hp.1 v g1, b2 hle hn hp.2 m' g2⟩
      · cases h
    · cases h
  | _, _, [], _ :: _, _, h => by simp [mL] at h
  | _, _, _ :: _, [], _, h => by simp [mL] at h

theorem mT_sound : ∀ {ρ ρ' : Ren} {l l' : List (Bool × List C)} {p : Prop}, mT ρ l l' = some (ρ', p) → RLe ρ ρ' ∧ ∀ {σ : Ren} {x1 x2 : Cx}, RLe ρ' σ → Nm σ x1 x2 → p → ∀ m, RL (RP x2) l' m → RL (RP x1) l m
  | ρ, ρ', [], [], p, h => by
    simp only [mT, Option.some.injEq, Prod.mk.injEq] at h
    obtain ⟨rfl, rfl⟩ := h
    exact ⟨RLe.refl _, fun _ _ _ m hm => by cases m with | nil => trivial | cons _ _ => exact hm.elim⟩
  | ρ, ρ', (b, c) :: l, (b', c') :: l', p, h => by
    simp only [mT] at h
    split at h
    · rename_i hb
      subst hb
      split at h
      · rename_i ρ1 p1 h1
        split at h
        · rename_i ρ2 p2 h2
          cases h
          obtain ⟨a1, a2⟩ := mL_sound h1
          obtain ⟨b1, b2⟩ := mT_sound h2
          refine ⟨a1.trans b1, fun hle hn hp m hm => ?_⟩
          obtain ⟨v, m', rfl, g1, g2⟩ := rl_cons hm
          refine ⟨?_, b2 hle hn hp.2 m' g2⟩
          unfold RP at *
          cases b with
          | true =>
            simp only [if_true] at g1 ⊢
            obtain ⟨vs, e, hv⟩ := g1
            exact ⟨vs, e, a2 (b1.trans hle) hn hp.1 _ hv⟩
          | false =>
            simp only [Bool.false_eq_true, if_false] at g1 ⊢
            obtain ⟨y, rfl, hy⟩ := g1
            cases c with
            | nil => simp [mL] at h1
            | cons z c =>
              have hq := a2 (b1.trans hle) hn hp.1 [v] ⟨hy, trivial⟩
              cases c with
              | nil => exact ⟨z, rfl, hq.1⟩
              | cons _ _ => exact hq.2.elim
        · cases h
      · cases h
    · cases h
  | _, _, [], _ :: _, _, h => by simp [mT] at h
  | _, _, _ :: _, [], _, h => by simp [mT] at h

theorem mS_sound {ρ ρ' : Ren} {s s' : SV} {p : Prop} (h : mS ρ s s' = some (ρ', p)) : RLe ρ ρ' ∧ ∀ {σ : Ren} {x1 x2 : Cx}, RLe ρ' σ → Nm σ x1 x2 → p → ∀ v, RS x2 s' v → RS x1 s v := by
  unfold mS at h
  split at h
  · obtain ⟨h1, h2⟩ := mC_sound h
    exact ⟨h1, fun hle hn hp v hv => h2 hle hn hp v hv⟩
  · obtain ⟨h1, h2⟩ := mL_sound h
    exact ⟨h1, fun hle hn hp v ⟨vs, e, hv⟩ => ⟨vs, e, h2 hle hn hp _ hv⟩⟩
  · obtain ⟨h1, h2⟩ := mT_sound h
    exact ⟨h1, fun hle hn hp v ⟨vs, e, hv⟩ => ⟨vs, e, h2 hle hn hp _ hv⟩⟩
  · cases h
    exact ⟨RLe.refl _, fun _ _ _ _ _ => trivial⟩
  · cases h

theorem mF_sound : ∀ {ρ ρ' : Ren} {l fr : List (Nat × SV)} {p : Prop}, mF ρ l fr = some (ρ', p) → RLe ρ ρ' ∧ ∀ {σ : Ren} {x1 x2 : Cx}, RLe ρ' σ → Nm σ x1 x2 → p → ∀ {nt : Nat} {a : Act}, RepF x2 nt fr a → RepF x1 nt l a
  | ρ, ρ', [], fr, p, h => by
    simp only [mF, Option.some.injEq, Prod.mk.injEq] at h
    obtain ⟨rfl, rfl⟩ := h
    exact ⟨RLe.refl _, fun _ _ _ _ _ hF => ⟨fun _ _ h => by simp [lk] at h, hF.siz, hF.dfr⟩⟩
  | ρ, ρ', (t, s) :: l, fr, p, h => by
    simp only [mF] at h
    split at h
    · rename_i s' hs'
      split at h
      · rename_i ρ1 p1 h1
        split at h
        · rename_i ρ2 p2 h2
          cases h
          obtain ⟨a1, a2⟩ := mS_sound h1
          obtain ⟨b1, b2⟩ := mF_sound h2
          refine ⟨a1.trans b1, fun hle hn hp nt a hF => ?_⟩
          obtain ⟨v, hv1, hv2⟩ := hF.sl t s' hs'
          exact cons_sound (b2 hle hn hp.2 hF) hv1 (a2 (b1.trans hle) hn hp.1 v hv2)
        · cases h
      · cases h
    · cases h

theorem mK_sound : ∀ {ρ ρ' : Ren} {stk : List Fm} {p : Prop}, mK ρ stk = some (ρ', p) → RLe ρ ρ' ∧ ∀ {σ : Ren} {x1 x2 : Cx}, RLe ρ' σ → Nm σ x1 x2 → p → ∀ f ∈ stk, ∀ {nt : Nat} {a : Act}, RepF x2 nt f.fr a → RepF x1 nt f.fr a
  | ρ, ρ', [], p, h => by
    simp only [mK, Option.some.injEq, Prod.mk.injEq] at h
    obtain ⟨rfl, rfl⟩ := h
    exact ⟨RLe.refl _, fun _ _ _ f hf => by cases hf⟩
  | ρ, ρ', g :: s, p, h => by
    simp only [mK] at h
    split at h
    · rename_i ρ1 p1 h1
      split at h
      · rename_i ρ2 p2 h2
        cases h
        obtain ⟨a1, a2⟩ := mF_sound h1
        obtain ⟨b1, b2⟩ := mK_sound h2
        refine ⟨a1.trans b1, fun hle hn hp f hf nt a hF => ?_⟩
        rcases List.mem_cons.1 hf with rfl | hf
        · exact a2 (b1.trans hle) hn hp.1 hF
        · exact b2 hle hn hp.2 f hf hF
      · cases h
    · cases h

theorem mO_sound {ρ ρ' : Ren} {o o' : Ob} {p : Prop} (h : mO ρ o o' = some (ρ', p)) : RLe ρ ρ' ∧ ∀ {σ : Ren} {x1 x2 : Cx}, RLe ρ' σ → Nm σ x1 x2 → p → ∀ b b', x1.η b = x2.η b' → RO x2 b' o' → RO x1 b o := by
  unfold mO at h
  split at h
  · split at h
    · rename_i e
      subst e
      obtain ⟨h1, h2⟩ := mL_sound h
      refine ⟨h1, fun hle hn hp b b' he ⟨k, vs, g1, g2, g3⟩ => ⟨k, vs, by rw [he]; exact g1, by rw [hn.w]; exact g2, h2 hle hn hp _ g3⟩⟩
    · cases h
  · split at h
    · rename_i e
      subst e
      split at h
      · rename_i e
        subst e
        cases h
        refine ⟨RLe.refl _, fun hle hn hp b b' he ⟨cs, g1, g2, g3⟩ => ?_⟩
        have hp : _ = _ := hp
        subst hp
        exact ⟨cs, by rw [he]; exact g1, by rw [he, hn.w]; exact g2, RdF.imp (fun _ _ h => rd_nm hn h) g3⟩
      · cases h
    · cases h
  · split at h
    · rename_i e
      subst e
      split at h
      · rename_i e
        subst e
        cases h
        refine ⟨RLe.refl _, fun hle hn hp b b' he ⟨k, cur, g1, g2, g3, g4, g5, g6⟩ => ?_⟩
        obtain ⟨hp, rfl⟩ := hp
        have hp : _ = _ := hp
        subst hp
        exact ⟨k, cur, by rw [he]; exact g1, by rw [hn.w]; exact g2, g3, g4, g5, RdF.imp (fun _ _ h => rd_nm hn h) g6⟩
      · cases h
    · cases h
  · split at h
    · rename_i ρ1 hb
      cases h
      obtain ⟨h1, h2⟩ := mB_le hb
      refine ⟨h1, fun hle hn hp b b' he ⟨r, q, g1, g2, g3, g4⟩ => ?_⟩
      obtain ⟨rfl, rfl⟩ := hp
      obtain ⟨k1, k2⟩ := hn.some_ _ _ (hle _ _ h2)
      exact ⟨r, q, by rw [he]; exact g1, k1, by rw [k2]; exact g3, by rw [hn.w]; exact g4⟩
    · cases h
  · split at h
    · rename_i e
      subst e
      split at h
      · rename_i e
        obtain ⟨rfl, rfl⟩ := e
        cases h
        refine ⟨RLe.refl _, fun hle hn hp b b' he ⟨r, arr, g1, g2, g3, g4⟩ => ?_⟩
        have hp : _ = _ := hp
        subst hp
        exact ⟨r, arr, by rw [he]; exact g1, by rw [hn.w]; exact g2, g3, g4⟩
      · cases h
    · cases h
  · cases h

theorem mH_sound : ∀ {ρ ρ' : Ren} {l hp : List (Nat × Ob)} {p : Prop}, mH ρ l hp = some (ρ', p) → RLe ρ ρ' ∧ ∀ {σ : Ren} {x1 x2 : Cx}, RLe ρ' σ → Nm σ x1 x2 → p →
    ∀ b o, lk l b = some o → (∃ b' o', lk σ b = some (some b') ∧ lk hp b' = some o' ∧ (RO x2 b' o' → RO x1 b o)) ∨ (lk σ b = some none ∧ RO x1 b o)
  | ρ, ρ', [], hp, p, h => by
    simp only [mH, Option.some.injEq, Prod.mk.injEq] at h
    obtain ⟨rfl, rfl⟩ := h
    exact ⟨RLe.refl _, fun _ _ _ b o h => by simp [lk] at h⟩
  | ρ, ρ', (c, o) :: l, hp, p, h => by
    simp only [mH] at h
    split at h
    · rename_i b' hb'
      split at h
      · rename_i o' ho'
        split at h
        · rename_i ρ1 p1 h1
          split at h
          · rename_i ρ2 p2 h2
            cases h
            obtain ⟨a1, a2⟩ := mO_sound h1
            obtain ⟨b1, b2⟩ := mH_sound h2
            refine ⟨a1.trans b1, fun hle hn hp b o2 hlk => ?_⟩
            simp only [lk] at hlk
            split at hlk
            · rename_i e
              subst e
              cases hlk
              have hs := hle _ _ (b1 _ _ (a1 _ _ hb'))
              exact .inl ⟨b', o', hs, ho', a2 (b1.trans hle) hn hp.1 b b' (hn.some_ _ _ hs).2⟩
            · exact b2 hle hn hp.2 b o2 hlk
          · cases h
        · cases h
      · cases h
    · rename_i hb'
      split at h
      · rename_i T d xs
        split at h
        · rename_i ρ2 p2 h2
          cases h
          obtain ⟨b1, b2⟩ := mH_sound h2
          refine ⟨b1, fun hle hn hp b o2 hlk => ?_⟩
          simp only [lk] at hlk
          split at hlk
          · rename_i e
            subst e
            cases hlk
            have hs := hle _ _ (b1 _ _ hb')
            obtain ⟨g1, g2⟩ := hn.none_ _ hs
            refine .inr ⟨hs, [], by rw [g2]; rfl, ?_, ?_⟩
            · rw [g2, hp.1]
              exact World.ownsRow_nil _ 0 T d.sz
            · rw [hp.1]; rfl
          · exact b2 hle hn hp.2 b o2 hlk
        · cases h
      · cases h
    · cases h

theorem small_sound : ∀ {ρ : Ren} {n : Nat}, small n ρ = true → ∀ b x, lk ρ b = some x → b < n
  | [], _, _, _, _, h => by simp [lk] at h
  | (c, y) :: ρ, n, h, b, x, hb => by
    simp only [small, Bool.and_eq_true, decide_eq_true_eq] at h
    simp only [lk] at hb
    split at hb
    · rename_i e; subst e; exact h.1
    · exact small_sound h.2 b x hb

theorem lk_mem {α : Type} : ∀ {ρ : List (Nat × α)} {b : Nat} {x : α}, lk ρ b = some x → (b, x) ∈ ρ
  | [], _, _, h => by simp [lk] at h
  | (c, y) :: ρ, b, x, h => by
    simp only [lk] at h
    split at h
    · rename_i e; subst e; cases h; simp
    · exact List.mem_cons_of_mem _ (lk_mem h)

theorem dist_sound : ∀ {ρ : Ren}, dist ρ = true → ∀ b c x, lk ρ b = some (some x) → lk ρ c = some (some x) → b = c
  | [], _, _, _, _, h, _ => by simp [lk] at h
  | (d, none) :: ρ, h, b, c, x, hb, hc => by
    simp only [dist] at h
    simp only [lk] at hb hc
    split at hb
    · cases hb
    · split at hc
      · cases hc
      · exact dist_sound h b c x hb hc
  | (d, some y) :: ρ, h, b, c, x, hb, hc => by
    simp only [dist, Bool.and_eq_true, List.all_eq_true] at h
    have no : ∀ e, lk ρ e = some (some y) → False := fun e he => by
      have := h.1 (e, some y) (lk_mem he)
      simp at this
    simp only [lk] at hb hc
    split at hb
    · rename_i e1
      cases hb
      split at hc
      · rename_i e2; rw [e1, e2]
      · exact (no c hc).elim
    · split at hc
      · cases hc
        exact (no b hb).elim
      · exact dist_sound h.2 b c x hb hc

theorem sub_sound {st st' : St} {stk : List Fm} (h : sub st st' stk) {w0 : W0} {cur : FI} {S : List (Fm × Act)} (hS : S.map (·.1) = stk) {η : Nat → Option Nat × Value} {a : Act} {w : World} (hR : RepA w0 cur st' S η a w) :
    ∃ η', RepA w0 cur st S η' a w := by
  unfold sub at h
  split at h
  · rename_i ρ1 p1 h1
    split at h
    · rename_i ρ2 p2 h2
      split at h
      · rename_i σ p3 h3
        simp only [Bool.and_eq_true] at h
        obtain ⟨⟨hsm, hdi⟩, hp1, hp2, hp3⟩ := h
        obtain ⟨a1, a2⟩ := mF_sound h1
        obtain ⟨b1, b2⟩ := mK_sound h2
        obtain ⟨c1, c2⟩ := mH_sound h3
        let η' : Nat → Option Nat × Value := fun b => match lk σ b with
          | some (some b') => η b'
          | some none => (none, .slice none 0 0)
          | none => (none, undef)
        let x2 := cxS w0 st'.hp (lt st'.nx) η w
        let x1 : Cx := cxS w0 st.hp (lt st.nx) η' w
        have hnm0 : ∀ ok, (∀ k, x2.ok k → ok k) → Nm σ ⟨w, η', ok, lt st.nx⟩ x2 := fun ok hok =>
          ⟨rfl, hok, fun b b' hb => ⟨small_sound hsm b _ hb, by show (match lk σ b with | some (some b') => η b' | some none => (none, Value.slice none 0 0) | none => (none, undef)) = η b'; rw [hb]⟩,
            fun b hb => ⟨small_sound hsm b _ hb, by show (match lk σ b with | some (some b') => η b' | some none => (none, Value.slice none 0 0) | none => (none, undef)) = _; rw [hb]⟩⟩
        have hdom : ∀ b o, lk st.hp b = some o → (∃ b' o', lk σ b = some (some b') ∧ lk st'.hp b' = some o') ∨ lk σ b = some none := fun b o hb => by
          rcases c2 (RLe.refl _) (hnm0 (fun _ => True) (fun _ _ => trivial)) hp3 b o hb with ⟨b', o', g1, g2, _⟩ | ⟨g1, _⟩
          · exact .inl ⟨b', o', g1, g2⟩
          · exact .inr g1
        have hη : ∀ b k, lk st.hp b ≠ none → (η' b).1 = some k → ∃ b', lk σ b = some (some b') ∧ lk st'.hp b' ≠ none ∧ (η b').1 = some k := fun b k hb hk => by
          cases ho : lk st.hp b with
          | none => exact (hb ho).elim
          | some o =>
            have hk' : (match lk σ b with | some (some b') => η b' | some none => (none, Value.slice none 0 0) | none => (none, undef)).1 = some k := hk
            rcases hdom b o ho with ⟨b', o', g1, g2⟩ | g1
            · rw [g1] at hk'
              exact ⟨b', g1, by rw [g2]; simp, hk'⟩
            · rw [g1] at hk'; cases hk'
        have hok : ∀ k, x2.ok k → x1.ok k := fun k hk => ⟨hk.1, fun b hb he => by
          obtain ⟨b', _, g2, g3⟩ := hη b k hb he
          exact hk.2 b' g2 g3⟩
        have hnm : Nm σ x1 x2 := hnm0 _ hok
        refine ⟨η', ⟨⟨fun b o hb => ?_, fun b c k hb hc hbk hck => ?_, fun b k hb hk => ?_, fun b hb => ?_, hR.1.1.bel⟩, hR.1.2⟩, a2 (b1.trans c1) hnm hp1 hR.2.1, fun p hp => ⟨?_, (hR.2.2 p hp).2⟩⟩
        · rcases c2 (RLe.refl _) hnm hp3 b o hb with ⟨b', o', g1, g2, g3⟩ | ⟨_, g1⟩
          · exact g3 (hR.1.1.obs b' o' g2)
          · exact g1
        · obtain ⟨b', g1, g2, g3⟩ := hη b k hb hbk
          obtain ⟨c', e1, e2, e3⟩ := hη c k hc hck
          have := hR.1.1.sep b' c' k g2 e2 g3 e3
          subst this
          exact dist_sound hdi b c b' g1 e1
        · obtain ⟨b', g1, g2, g3⟩ := hη b k hb hk
          exact hR.1.1.new b' k g2 g3
        · cases ho : lk st.hp b with
          | none => exact (hb ho).elim
          | some o =>
            rcases hdom b o ho with ⟨b', o', g1, _⟩ | g1
            · exact small_sound hsm b _ g1
            · exact small_sound hsm b _ g1
        · have : p.1 ∈ stk := by rw [← hS]; exact List.mem_map_of_mem hp
          exact b2 c1 hnm hp2 p.1 this (hR.2.2 p hp).1
      · exact h.elim
    · exact h.elim
  · exact h.elim

/-- slots forgotten, blocks named anew -/
theorem weaken {E : En} {cur : FI} {t : List It} {st st' : St} {stk : List Fm} (h : sub st st' stk) (hm : Mean E cur t st stk) : Mean E cur t st' stk := by
  intro w0 η S a w hS hR
  obtain ⟨η', hR'⟩ := sub_sound h hS hR
  exact hm w0 η' S a w hS hR'

/-- A CUT: what holds when a part of the text has been gone through, as a family of abstract states. -/
theorem cut_rule {E : En} {cur : FI} {c : Code} {r : List It} {st : St} {stk : List Fm} {α : Type} (I : α → Prop) (σ : α → St) (h1 : Mean E cur (.code c :: .fin (fun st' => ∃ y, I y ∧ sub (σ y) st' stk) :: r) st stk)
    (h2 : ∀ y, I y → Mean E cur r (σ y) stk) : Mean E cur (.code c :: r) st stk := by
  intro w0 η S a w hS hR
  have hfin : ∀ e a w, TW E.P w0 cur S (RR E.P w0 (Fin w0 E.post) cur S) (.fin (fun st' => ∃ y, I y ∧ sub (σ y) st' stk) :: r) e a w → TW E.P w0 cur S (RR E.P w0 (Fin w0 E.post) cur S) r e a w := by
    intro e a w hq
    cases e with
    | normal =>
      obtain ⟨η1, st1, hR1, y, hy, hs⟩ := hq
      obtain ⟨η2, hR2⟩ := sub_sound hs hS hR1
      exact h2 y hy w0 η2 S a w hS hR2
    | exit id => exact hq
    | goto l => exact hq
    | ret => exact hq
    | panic ch => exact hq
    | outgrown => exact hq
  exact wp_mono (h1 w0 η S a w hS hR) hfin

/-- A LOOP: what holds at each round's head, as a family of abstract states; a measure. -/
theorem loop_rule {E : En} {cur : FI} {c : Code} {r : List It} {st : St} {stk : List Fm} {α : Type} (I : α → Prop) (σ : α → St) (μ : α → Nat) (h0 : ∃ x, I x ∧ sub (σ x) st stk)
    (round : ∀ x, I x → Mean E cur (.code c :: .fin (fun st' => ∃ y, (I y ∧ μ y < μ x) ∧ sub (σ y) st' stk) :: r) (σ x) stk) : LoopOk E cur c r st stk := by
  refine ⟨?_⟩
  intro w0 η S a w hS hR
  obtain ⟨x0, hI0, hs0⟩ := h0
  obtain ⟨η0, hR0⟩ := sub_sound hs0 hS hR
  refine wp_loop_ghost (fun n a w => ∃ x η, I x ∧ μ x = n ∧ RepA w0 cur (σ x) S η a w) (μ x0) ⟨x0, η0, hI0, rfl, hR0⟩ ?_
  rintro n a w ⟨x, η, hI, rfl, hR⟩
  refine wp_mono (round x hI w0 η S a w hS hR) ?_
  intro e a' w' hq
  cases e with
  | normal =>
    obtain ⟨η1, st1, hR1, y, ⟨hy, hlt⟩, hs⟩ := hq
    obtain ⟨η2, hR2⟩ := sub_sound hs hS hR1
    exact ⟨μ y, hlt, y, η2, hy, rfl, hR2⟩
  | exit id => exact hq
  | goto l => exact hq
  | ret => exact hq
  | panic ch => exact hq
  | outgrown => exact hq


/-- A LOOP OF A FEW ROUNDS, gone through one by one. -/
def RoundsG (E : En) (cur : FI) (c : Code) (r : List It) (stk : List Fm) : Nat → St → Prop
  | 0 => fun _ => False
  | n + 1 => fun st => go E 100000 cur (.code c :: .fin (RoundsG E cur c r stk n) :: r) st stk
theorem unroll_rule {E : En} (hE : EnOk E) {cur : FI} {c : Code} {r : List It} {st : St} {stk : List Fm} (n : Nat) (h : RoundsG E cur c r stk n st) : LoopOk E cur c r st stk := by
  refine ⟨fun w0 η S a w hS hR => ?_⟩
  have key : ∀ n st η a w, RoundsG E cur c r stk n st → RepA w0 cur st S η a w → Code.rounds E.P c (TW E.P w0 cur S (RR E.P w0 (Fin w0 E.post) cur S) r) n a w := by
    intro n
    induction n with
    | zero => intro st η a w h _; exact h.elim
    | succ n ih =>
      intro st η a w h hR
      rw [rounds_succ]
      refine wp_mono (go_sound hE _ _ _ _ _ h w0 η S a w hS hR) ?_
      intro e a' w' hq
      cases e with
      | normal =>
        obtain ⟨η1, st1, hR1, hq⟩ := hq
        exact ih st1 η1 a' w' hq hR1
      | exit id => exact hq
      | goto l => exact hq
      | ret => exact hq
      | panic ch => exact hq
      | outgrown => exact hq
  exact wp_loop_rounds n (key n st η a w h hR)

end OE
