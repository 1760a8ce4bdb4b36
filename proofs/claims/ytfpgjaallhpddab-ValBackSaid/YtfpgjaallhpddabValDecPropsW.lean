/- The walk of val.DecodeProps. Own work. -/
import Derived.Test.YtfpgjaallhpddabValDecProps
set_option linter.unusedVariables false
set_option maxRecDepth 100000
namespace Go.Proofs.Ytfpgjaallhpddab
open Go Go.RowKit OE

def decPR (o : Option (List PD.T × Nat)) (r : SV) : Prop := ∃ c, (c = .dat PD (o.getD ([], 0)).1 ∨ ((o.getD ([], 0)).1 = [] ∧ c = .val (.slice none 0 0))) ∧
  r = .tup [(false, [c]), (false, [.int .i64 ((o.getD ([], 0)).2 : Nat)]), (false, [.bool (.sym o.isSome)])]
def dpSt (s : List UInt8) (k : Int) (n j z : Nat) : List PD.T → St
  | [] => ⟨[(0, .c (.str s)), (1, .c (.int .i64 k)), (4, .c (.val (.slice none 0 0))), (5, .c (.int .i64 z)), (25, .c (.int .u64 n)), (26, .c (.int .u64 j))], [], 0⟩
  | x :: xs => ⟨[(0, .c (.str s)), (1, .c (.int .i64 k)), (4, .c (.row 0)), (5, .c (.int .i64 z)), (25, .c (.int .u64 n)), (26, .c (.int .u64 j))], [(0, .row 41 PD (x :: xs))], 1⟩

theorem val_DecodeProps' (s : List UInt8) (k : Int) (hs : s.length ≤ 1000000) : FnD Try.prog 13 [.c (.str s), .c (.int .i64 k)] (decPR (decPs s k)) := by
  refine fn0 Try.func13 rfl rfl rfl ?_
  conv => whnf
  refine call1 (num_Get s k (by omega)) rfl ?_
  conv => whnf
  unfold decPs
  cases hg : Num.getN s k with
  | none =>
    refine tk rfl ?_
    conv => whnf
    exact ⟨_, .inr ⟨rfl, rfl⟩, rfl⟩
  | some p =>
    obtain ⟨n, i0⟩ := p
    obtain ⟨b1, b2, b3, b4, b5⟩ := Num.getN_bd hg
    dsimp only [Option.getD_some, Option.isSome_some]
    refine ⟨fun h1 => ?_, fun h1 => ?_⟩
    · simp at h1
      rw [if_pos (by omega)]
      conv => whnf
      exact ⟨_, .inr ⟨rfl, rfl⟩, rfl⟩
    simp at h1
    rw [if_neg (by omega)]
    conv => whnf
    refine loop0 (α := Nat × List PD.T × Nat) (fun p => p.1 ≤ n ∧ p.2.1.length = p.1 ∧ i0 ≤ p.2.2 ∧ k + p.2.2 ≤ s.length ∧ joinD p.2.1 (p.2.2 - i0) (decL (n - p.1) s (k + p.2.2)) = decL n s (k + i0) ∧ ∀ q ∈ p.2.1, (Lit.int .i64 q.2.1).wf = true)
      (fun p => dpSt s k n p.1 p.2.2 p.2.1) (fun p => n - p.1) ⟨(0, [], i0), ⟨by simp, rfl, Nat.le_refl _, by dsimp only; omega, by simp only [Nat.sub_self, Nat.sub_zero]; exact joinD_nil _, by simp⟩, ?_⟩ ?_
    · (conv => whnf); refine ⟨rfl, ?_, ?_, ?_⟩ <;> (repeat' apply And.intro) <;> first | exact trivial | rfl | exact wr_succ _ (by omega) | assumption | exact decide_eq_false (by assumption) | exact decide_eq_true (by assumption)
    rintro ⟨j, done, z⟩ ⟨hI1, hI2, hI3, hI4, hI5, hI6⟩
    dsimp only at hI1 hI2 hI3 hI4 hI5 hI6 ⊢
    cases done with
    | nil =>
      conv => whnf
      refine ⟨fun h2 => ?_, fun h2 => ?_⟩
      · have h2 : j < n := by simp at h2; omega
        rw [show n - j = (n - j - 1) + 1 by omega, joinD_step] at hI5
        have e1 : IntKind.wrap .i64 (k + z) = k + z := wr64 _ (by omega) (by omega)
        conv => whnf
        rw [e1]
        refine call1 (num_GetText s (k + z) 16 (by omega) (by decide)) rfl ?_
        conv => whnf
        cases gt : Num.getT s (k + z) 16 with
        | none =>
          rw [gt] at hI5
          refine tk rfl ?_
          conv => whnf
          rw [← hI5]
          exact ⟨_, .inr ⟨rfl, rfl⟩, rfl⟩
        | some q =>
          obtain ⟨t, i⟩ := q
          have hb := getT_bd gt
          rw [gt] at hI5
          dsimp only [Option.getD_some, Option.isSome_some] at hI5 ⊢
          refine fk rfl ?_
          conv => whnf
          have e2 : IntKind.wrap .i64 ((z : Int) + i) = ((z + i : Nat) : Int) := by rw [wr64 _ (by omega) (by omega)]; omega
          rw [e2]
          have e3 : IntKind.wrap .i64 (k + ((z + i : Nat) : Int)) = k + z + i := by rw [wr64 _ (by omega) (by omega)]; omega
          rw [e3]
          refine call1 (val_Decode s (k + z + i) hs) rfl ?_
          conv => whnf
          cases gd : decV s (k + z + i) with
          | none =>
            rw [gd] at hI5
            refine tk rfl ?_
            conv => whnf
            rw [← hI5]
            exact ⟨_, .inr ⟨rfl, rfl⟩, rfl⟩
          | some q =>
            obtain ⟨v, m⟩ := q
            have hb2 := decV_bd gd
            rw [gd] at hI5
            dsimp only [Option.getD_some, Option.isSome_some] at hI5 ⊢
            refine fk rfl ?_
            conv => whnf
            have e4 : IntKind.wrap .i64 (((z + i : Nat) : Int) + m) = ((z + i + m : Nat) : Int) := by rw [wr64 _ (by omega) (by omega)]; omega
            rw [e4]
            refine ⟨by show (0 + 1) * 48 ≤ 140737488355328; omega, ?_⟩
            conv => whnf
            refine ⟨(j + 1, [] ++ [(t, v)], z + i + m), ⟨⟨by dsimp only; omega, by dsimp only; rw [List.length_append, List.length_singleton, hI2], by dsimp only; omega, by dsimp only; omega, ?_, ?_⟩, by dsimp only; omega⟩, ?_⟩
            · dsimp only
              rw [← hI5, show n - (j + 1) = n - j - 1 by omega, show z + i + m - i0 = z - i0 + (i + m) by omega, show k + ((z + i + m : Nat) : Int) = k + z + i + m by omega]
            · intro p hp
              rcases List.mem_append.1 hp with hp | hp
              · cases hp
              · rw [List.mem_singleton.1 hp]; exact decV_kind gd
            · (conv => whnf)
              exact ⟨rfl, ⟨rfl, rfl, trivial, rfl, rfl, (by show ((j + 1 : Nat) : Int) = IntKind.wrap .u64 ((j : Int) + 1); rw [wru64 _ (by omega) (by omega)]; omega), trivial⟩, trivial, rfl, trivial⟩
      · have h2 : j = n := by simp at h2; omega
        rw [show n - j = 0 by omega] at hI5
        have hL : decL n s (k + i0) = some ([], z - i0) := by rw [← hI5]; simp [decL, joinD]
        rw [hL]
        dsimp only
        conv => whnf
        refine call1 ((val_Props [] (by simp)).args fun w ok => ⟨nilA, trivial⟩) rfl ?_
        conv => whnf
        refine ⟨fun h3 => ?_, fun h3 => ?_⟩
        · have h3 : propsS [] = false := by simpa using h3
          rw [if_neg (by rw [h3]; decide)]
          conv => whnf
          exact ⟨_, .inr ⟨rfl, rfl⟩, rfl⟩
        · have h3 : propsS [] = true := by simpa using h3
          rw [if_pos h3]
          conv => whnf
          refine ⟨_, .inr ⟨rfl, rfl⟩, ?_⟩
          show SV.tup [(false, [_]), (false, [.int .i64 z]), (false, [_])] = SV.tup [(false, [_]), (false, [.int .i64 ((i0 + (z - i0) : Nat) : Int)]), (false, [_])]
          rw [show i0 + (z - i0) = z by omega]
          rfl
    | cons x xs =>
      conv => whnf
      refine ⟨fun h2 => ?_, fun h2 => ?_⟩
      · have h2 : j < n := by simp at h2; omega
        rw [show n - j = (n - j - 1) + 1 by omega, joinD_step] at hI5
        have e1 : IntKind.wrap .i64 (k + z) = k + z := wr64 _ (by omega) (by omega)
        conv => whnf
        rw [e1]
        refine call1 (num_GetText s (k + z) 16 (by omega) (by decide)) rfl ?_
        conv => whnf
        cases gt : Num.getT s (k + z) 16 with
        | none =>
          rw [gt] at hI5
          refine tk rfl ?_
          conv => whnf
          rw [← hI5]
          exact ⟨_, .inr ⟨rfl, rfl⟩, rfl⟩
        | some q =>
          obtain ⟨t, i⟩ := q
          have hb := getT_bd gt
          rw [gt] at hI5
          dsimp only [Option.getD_some, Option.isSome_some] at hI5 ⊢
          refine fk rfl ?_
          conv => whnf
          have e2 : IntKind.wrap .i64 ((z : Int) + i) = ((z + i : Nat) : Int) := by rw [wr64 _ (by omega) (by omega)]; omega
          rw [e2]
          have e3 : IntKind.wrap .i64 (k + ((z + i : Nat) : Int)) = k + z + i := by rw [wr64 _ (by omega) (by omega)]; omega
          rw [e3]
          refine call1 (val_Decode s (k + z + i) hs) rfl ?_
          conv => whnf
          cases gd : decV s (k + z + i) with
          | none =>
            rw [gd] at hI5
            refine tk rfl ?_
            conv => whnf
            rw [← hI5]
            exact ⟨_, .inr ⟨rfl, rfl⟩, rfl⟩
          | some q =>
            obtain ⟨v, m⟩ := q
            have hb2 := decV_bd gd
            rw [gd] at hI5
            dsimp only [Option.getD_some, Option.isSome_some] at hI5 ⊢
            refine fk rfl ?_
            conv => whnf
            have e4 : IntKind.wrap .i64 (((z + i : Nat) : Int) + m) = ((z + i + m : Nat) : Int) := by rw [wr64 _ (by omega) (by omega)]; omega
            rw [e4]
            refine ⟨by show ((x :: xs).length + 1) * 48 ≤ 140737488355328; omega, ?_⟩
            conv => whnf
            refine ⟨(j + 1, (x :: xs) ++ [(t, v)], z + i + m), ⟨⟨by dsimp only; omega, by dsimp only; rw [List.length_append, List.length_singleton, hI2], by dsimp only; omega, by dsimp only; omega, ?_, ?_⟩, by dsimp only; omega⟩, ?_⟩
            · dsimp only
              rw [← hI5, show n - (j + 1) = n - j - 1 by omega, show z + i + m - i0 = z - i0 + (i + m) by omega, show k + ((z + i + m : Nat) : Int) = k + z + i + m by omega]
            · intro p hp
              rcases List.mem_append.1 hp with hp | hp
              · exact hI6 p hp
              · rw [List.mem_singleton.1 hp]; exact decV_kind gd
            · (conv => whnf)
              exact ⟨rfl, ⟨rfl, rfl, trivial, rfl, rfl, (by show ((j + 1 : Nat) : Int) = IntKind.wrap .u64 ((j : Int) + 1); rw [wru64 _ (by omega) (by omega)]; omega), trivial⟩, trivial, rfl, trivial⟩
      · have h2 : j = n := by simp at h2; omega
        rw [show n - j = 0 by omega] at hI5
        have hL : decL n s (k + i0) = some ((x :: xs), z - i0) := by rw [← hI5]; simp [decL, joinD]
        rw [hL]
        dsimp only
        conv => whnf
        refine lend0 (val_Props (x :: xs) hI6) rfl rfl ?_
        conv => whnf
        refine ⟨fun h3 => ?_, fun h3 => ?_⟩
        · have h3 : propsS (x :: xs) = false := by simpa using h3
          rw [if_neg (by rw [h3]; decide)]
          conv => whnf
          exact ⟨_, .inr ⟨rfl, rfl⟩, rfl⟩
        · have h3 : propsS (x :: xs) = true := by simpa using h3
          rw [if_pos h3]
          conv => whnf
          refine ⟨_, .inl rfl, ?_⟩
          show SV.tup [(false, [_]), (false, [.int .i64 z]), (false, [_])] = SV.tup [(false, [_]), (false, [.int .i64 ((i0 + (z - i0) : Nat) : Int)]), (false, [_])]
          rw [show i0 + (z - i0) = z by omega]
          rfl

def decPT (o : Option (List PD.T × Nat)) : SV := .tup [(false, [.dat PD (o.getD ([], 0)).1]), (false, [.int .i64 ((o.getD ([], 0)).2 : Nat)]), (false, [.bool (.sym o.isSome)])]
theorem val_DecodeProps (s : List UInt8) (k : Int) (hs : s.length ≤ 1000000) : FnD Try.prog 13 [.c (.str s), .c (.int .i64 k)] (· = decPT (decPs s k)) :=
  (val_DecodeProps' s k hs).res fun r hr w ok v hv => by
    obtain ⟨c, hc, rfl⟩ := hr
    rcases hc with rfl | ⟨h0, rfl⟩
    · exact hv
    · obtain ⟨vs, e, hl⟩ := hv
      obtain ⟨v1, m, e1, h1, h2⟩ := rl_cons hl
      refine ⟨vs, e, ?_⟩
      rw [e1]
      refine ⟨?_, h2⟩
      unfold RP at h1 ⊢
      simp only [Bool.false_eq_true, if_false] at h1 ⊢
      obtain ⟨y, hy, h3⟩ := h1
      cases hy
      exact ⟨_, rfl, by rw [h0]; exact nilA v1 h3⟩
end Go.Proofs.Ytfpgjaallhpddab
