/- The walk of the reference's DecodeProps. Own work; written by gendr.py. -/
import Derived.Test.YtfpgjaallhpddaaValDecPropsW
set_option linter.unusedVariables false
set_option maxRecDepth 100000
namespace Go.Proofs.Ytfpgjaallhpddaa
open Go Go.RowKit OE

def decPA' (o : Option (List PD.T × Nat)) (r : SV) : Prop := ∃ c, (c = .dat PD (o.getD ([], 0)).1 ∨ ((o.getD ([], 0)).1 = [] ∧ c = .val (.slice none 0 0))) ∧
  r = .agg [c, .int .i64 ((o.getD ([], 0)).2 : Nat), .bool (.sym o.isSome)]
def drSt (s : List UInt8) (k : Int) (n i0 j z : Nat) : List PD.T → St
  | [] => ⟨[(0, .c (.str s)), (1, .c (.int .i64 k)), (4, .c (.ptr 0 0)), (5, .c (.ptr 1 0)), (6, .c (.val (.slice none 0 0))), (7, .c (.int .i64 (k + z))), (8, .c (.int .i64 j))], [(0, .cells 99 [.val (.slice none 0 0), .int .i64 0, .bool .ff]), (1, .cells 135 [.int .u64 n, .int .i64 i0, .bool (.sym true)])], 2⟩
  | x :: xs => ⟨[(0, .c (.str s)), (1, .c (.int .i64 k)), (4, .c (.ptr 0 0)), (5, .c (.ptr 1 0)), (6, .c (.row 2)), (7, .c (.int .i64 (k + z))), (8, .c (.int .i64 j))], [(0, .cells 99 [.val (.slice none 0 0), .int .i64 0, .bool .ff]), (1, .cells 135 [.int .u64 n, .int .i64 i0, .bool (.sym true)]), (2, .row 78 PD (x :: xs))], 3⟩

theorem refval_DecodeProps' (s : List UInt8) (k : Int) (hs : s.length ≤ 1000000) : FnD Try.prog 63 [.c (.str s), .c (.int .i64 k)] (decPA' (decPs s k)) := by
  refine fn0 Try.func63 rfl rfl rfl ?_
  conv => whnf
  refine call1 (refnum_Get s k (by omega)) rfl ?_
  conv => whnf
  unfold decPs
  cases hg : Num.getN s k with
  | none =>
    refine tk rfl ?_
    conv => whnf
    exact ⟨_, .inr ⟨rfl, rfl⟩, rfl⟩
  | some p =>
    obtain ⟨n, i0⟩ := p
    obtain ⟨b1, b2, b3, b4, b5⟩ := Num.getN_bd hg
    dsimp only [Option.getD_some, Option.isSome_some]
    refine ⟨fun h1 => ?_, fun h1 => ?_⟩
    · simp at h1
      rw [if_pos (by omega)]
      conv => whnf
      exact ⟨_, .inr ⟨rfl, rfl⟩, rfl⟩
    simp at h1
    rw [if_neg (by omega)]
    conv => whnf
    have e9 : IntKind.wrap .i64 (k + i0) = k + i0 := wr64 _ (by omega) (by omega)
    rw [e9]
    refine loop0 (α := Nat × List PD.T × Nat) (fun p => p.1 ≤ n ∧ p.2.1.length = p.1 ∧ i0 ≤ p.2.2 ∧ k + p.2.2 ≤ s.length ∧ joinD p.2.1 (p.2.2 - i0) (decL (n - p.1) s (k + p.2.2)) = decL n s (k + i0))
      (fun p => drSt s k n i0 p.1 p.2.2 p.2.1) (fun p => n - p.1) ⟨(0, [], i0), ⟨by simp, rfl, Nat.le_refl _, by dsimp only; omega, by simp only [Nat.sub_self, Nat.sub_zero]; exact joinD_nil _⟩, ?_⟩ ?_
    · (conv => whnf); refine ⟨rfl, ?_, ?_, ?_⟩ <;> (repeat' apply And.intro) <;> first | exact trivial | rfl | exact wr_succ _ (by omega) | assumption | exact decide_eq_false (by assumption) | exact decide_eq_true (by assumption)
    rintro ⟨j, done, z⟩ ⟨hI1, hI2, hI3, hI4, hI5⟩
    dsimp only at hI1 hI2 hI3 hI4 hI5 ⊢
    cases done with
    | nil =>
      conv => whnf
      have e0 : IntKind.wrap .i64 (n : Int) = n := wr64 _ (by omega) (by omega)
      rw [e0]
      refine ⟨fun h2 => ?_, fun h2 => ?_⟩
      · have h2 : j < n := by simp at h2; omega
        rw [show n - j = (n - j - 1) + 1 by omega, joinD_step] at hI5
        conv => whnf
        refine call1 (refnum_GetText s (k + z) 16 (by omega) (by decide)) rfl ?_
        conv => whnf
        cases gt : Num.getT s (k + z) 16 with
        | none =>
          rw [gt] at hI5
          refine tk rfl ?_
          conv => whnf
          rw [← hI5]
          exact ⟨_, .inr ⟨rfl, rfl⟩, rfl⟩
        | some q =>
          obtain ⟨t, i⟩ := q
          have hb := getT_bd gt
          rw [gt] at hI5
          dsimp only [Option.getD_some, Option.isSome_some] at hI5 ⊢
          refine fk rfl ?_
          conv => whnf
          have e2 : IntKind.wrap .i64 (k + z + i) = k + z + i := wr64 _ (by omega) (by omega)
          rw [e2]
          refine call1 (refval_Decode s (k + z + i) hs) rfl ?_
          conv => whnf
          cases gd : decV s (k + z + i) with
          | none =>
            rw [gd] at hI5
            refine tk rfl ?_
            conv => whnf
            rw [← hI5]
            exact ⟨_, .inr ⟨rfl, rfl⟩, rfl⟩
          | some q =>
            obtain ⟨v, m⟩ := q
            have hb2 := decV_bd gd
            rw [gd] at hI5
            dsimp only [Option.getD_some, Option.isSome_some] at hI5 ⊢
            refine fk rfl ?_
            conv => whnf
            refine ⟨by show (0 + 1) * 48 ≤ 140737488355328; omega, ?_⟩
            conv => whnf
            have e4 : IntKind.wrap .i64 (k + z + IntKind.wrap .i64 ((i : Int) + m)) = k + ((z + i + m : Nat) : Int) := by
              rw [wr64 ((i : Int) + m) (by omega) (by omega), wr64 _ (by omega) (by omega)]; omega
            rw [e4]
            refine ⟨(j + 1, [] ++ [(t, v)], z + i + m), ⟨⟨by dsimp only; omega, by dsimp only; rw [List.length_append, List.length_singleton, hI2], by dsimp only; omega, by dsimp only; omega, ?_⟩, by dsimp only; omega⟩, ?_⟩
            · dsimp only
              rw [← hI5, show n - (j + 1) = n - j - 1 by omega, show z + i + m - i0 = z - i0 + (i + m) by omega, show k + ((z + i + m : Nat) : Int) = k + z + i + m by omega]
            · (conv => whnf); refine ⟨rfl, ?_, ?_, ?_⟩ <;> (repeat' apply And.intro) <;> first | exact trivial | rfl | exact wr_succ _ (by omega) | assumption | exact decide_eq_false (by assumption) | exact decide_eq_true (by assumption)
      · have h2 : j = n := by simp at h2; omega
        rw [show n - j = 0 by omega] at hI5
        have hL : decL n s (k + i0) = some ([], z - i0) := by rw [← hI5]; simp [decL, joinD]
        rw [hL]
        dsimp only
        conv => whnf
        refine call1 ((refval_Props []).args fun w ok => ⟨nilA, trivial⟩) rfl ?_
        conv => whnf
        refine ⟨fun h3 => ?_, fun h3 => ?_⟩
        · have h3 : propsS [] = false := by simpa using h3
          rw [if_neg (by rw [h3]; decide)]
          conv => whnf
          exact ⟨_, .inr ⟨rfl, rfl⟩, rfl⟩
        · have h3 : propsS [] = true := by simpa using h3
          rw [if_pos h3]
          have e5 : IntKind.wrap .i64 (k + z - k) = ((i0 + (z - i0) : Nat) : Int) := by rw [wr64 _ (by omega) (by omega)]; omega
          conv => whnf
          rw [e5]
          exact ⟨_, .inr ⟨rfl, rfl⟩, rfl⟩
    | cons x xs =>
      conv => whnf
      have e0 : IntKind.wrap .i64 (n : Int) = n := wr64 _ (by omega) (by omega)
      rw [e0]
      refine ⟨fun h2 => ?_, fun h2 => ?_⟩
      · have h2 : j < n := by simp at h2; omega
        rw [show n - j = (n - j - 1) + 1 by omega, joinD_step] at hI5
        conv => whnf
        refine call1 (refnum_GetText s (k + z) 16 (by omega) (by decide)) rfl ?_
        conv => whnf
        cases gt : Num.getT s (k + z) 16 with
        | none =>
          rw [gt] at hI5
          refine tk rfl ?_
          conv => whnf
          rw [← hI5]
          exact ⟨_, .inr ⟨rfl, rfl⟩, rfl⟩
        | some q =>
          obtain ⟨t, i⟩ := q
          have hb := getT_bd gt
          rw [gt] at hI5
          dsimp only [Option.getD_some, Option.isSome_some] at hI5 ⊢
          refine fk rfl ?_
          conv => whnf
          have e2 : IntKind.wrap .i64 (k + z + i) = k + z + i := wr64 _ (by omega) (by omega)
          rw [e2]
          refine call1 (refval_Decode s (k + z + i) hs) rfl ?_
          conv => whnf
          cases gd : decV s (k + z + i) with
          | none =>
            rw [gd] at hI5
            refine tk rfl ?_
            conv => whnf
            rw [← hI5]
            exact ⟨_, .inr ⟨rfl, rfl⟩, rfl⟩
          | some q =>
            obtain ⟨v, m⟩ := q
            have hb2 := decV_bd gd
            rw [gd] at hI5
            dsimp only [Option.getD_some, Option.isSome_some] at hI5 ⊢
            refine fk rfl ?_
            conv => whnf
            refine ⟨by show ((x :: xs).length + 1) * 48 ≤ 140737488355328; omega, ?_⟩
            conv => whnf
            have e4 : IntKind.wrap .i64 (k + z + IntKind.wrap .i64 ((i : Int) + m)) = k + ((z + i + m : Nat) : Int) := by
              rw [wr64 ((i : Int) + m) (by omega) (by omega), wr64 _ (by omega) (by omega)]; omega
            rw [e4]
            refine ⟨(j + 1, (x :: xs) ++ [(t, v)], z + i + m), ⟨⟨by dsimp only; omega, by dsimp only; rw [List.length_append, List.length_singleton, hI2], by dsimp only; omega, by dsimp only; omega, ?_⟩, by dsimp only; omega⟩, ?_⟩
            · dsimp only
              rw [← hI5, show n - (j + 1) = n - j - 1 by omega, show z + i + m - i0 = z - i0 + (i + m) by omega, show k + ((z + i + m : Nat) : Int) = k + z + i + m by omega]
            · (conv => whnf); refine ⟨rfl, ?_, ?_, ?_⟩ <;> (repeat' apply And.intro) <;> first | exact trivial | rfl | exact wr_succ _ (by omega) | assumption | exact decide_eq_false (by assumption) | exact decide_eq_true (by assumption)
      · have h2 : j = n := by simp at h2; omega
        rw [show n - j = 0 by omega] at hI5
        have hL : decL n s (k + i0) = some ((x :: xs), z - i0) := by rw [← hI5]; simp [decL, joinD]
        rw [hL]
        dsimp only
        conv => whnf
        refine lend0 (refval_Props (x :: xs)) rfl rfl ?_
        conv => whnf
        refine ⟨fun h3 => ?_, fun h3 => ?_⟩
        · have h3 : propsS (x :: xs) = false := by simpa using h3
          rw [if_neg (by rw [h3]; decide)]
          conv => whnf
          exact ⟨_, .inr ⟨rfl, rfl⟩, rfl⟩
        · have h3 : propsS (x :: xs) = true := by simpa using h3
          rw [if_pos h3]
          have e5 : IntKind.wrap .i64 (k + z - k) = ((i0 + (z - i0) : Nat) : Int) := by rw [wr64 _ (by omega) (by omega)]; omega
          conv => whnf
          rw [e5]
          exact ⟨_, .inl rfl, rfl⟩

def decPA (o : Option (List PD.T × Nat)) : SV := .agg [.dat PD (o.getD ([], 0)).1, .int .i64 ((o.getD ([], 0)).2 : Nat), .bool (.sym o.isSome)]
theorem refval_DecodeProps (s : List UInt8) (k : Int) (hs : s.length ≤ 1000000) : FnD Try.prog 63 [.c (.str s), .c (.int .i64 k)] (· = decPA (decPs s k)) :=
  (refval_DecodeProps' s k hs).res fun r hr w ok v hv => by
    obtain ⟨c, hc, rfl⟩ := hr
    rcases hc with rfl | ⟨h0, rfl⟩
    · exact hv
    · obtain ⟨vs, e, hl⟩ := hv
      obtain ⟨v1, m, e1, h1, h2⟩ := rl_cons hl
      refine ⟨vs, e, ?_⟩
      rw [e1]
      exact ⟨by rw [h0]; exact nilA v1 h1, h2⟩
end Go.Proofs.Ytfpgjaallhpddaa
