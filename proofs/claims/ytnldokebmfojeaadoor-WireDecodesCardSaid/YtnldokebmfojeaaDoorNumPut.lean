/- The walk of num.Put. Own work. -/
import Derived.Test.YtnldokebmfojeaaDoorTab
import Derived.Test.YtnldokebmfojeaaDoorNumSpec
set_option linter.unusedVariables false
namespace Go.Proofs.YtnldokebmfojeaaDoor
open Go Go.RowKit OE

def putSt (m : Nat) : List Int → St
  | [] => ⟨[(0, .c (.int .u64 m)), (3, .c (.val (.slice none 0 0)))], [], 0⟩
  | x :: xs => ⟨[(0, .c (.int .u64 m)), (3, .c (.row 0))], [(0, .row 5 (.int .u8) (x :: xs))], 1⟩

theorem put_byte (m : Nat) : bits .or .u8 (IntKind.wrap .u8 m) 128 = ((m % 128 + 128 : Nat) : Int) := by
  have e : IntKind.wrap .u8 (m : Int) = ((m % 256 : Nat) : Int) := by rw [wru8]; omega
  rw [e, or128 _ (by omega)]
  omega
theorem put_last (m : Nat) (h : m < 128) : byl [IntKind.wrap .u8 (m : Int)] = Num.putN m := by
  have e : IntKind.wrap .u8 (m : Int) = ((m : Nat) : Int) := by rw [wru8]; omega
  rw [e, Num.putN_lt h]
  rfl
theorem put_step (m : Nat) (h : 128 ≤ m) : byl [bits .or .u8 (IntKind.wrap .u8 (m : Int)) 128] ++ Num.putN (m / 128) = Num.putN m := by
  rw [put_byte, Num.putN_ge h]
  rfl
theorem byl_len (xs : List Int) : (byl xs).length = xs.length := by simp [byl]

theorem num_Put (n : Nat) (hn : n < 18446744073709551616) : FnD Tryd.prog 58 [.c (.int .u64 n)] (· = .c (.str (Num.putN n))) := by
  have hlen : ∀ (xs : List Int) (m : Nat), byl xs ++ Num.putN m = Num.putN n → xs.length ≤ 10 := by
    intro xs m h
    have h1 := Num.putN_ten hn
    rw [← h, List.length_append, byl_len] at h1
    omega
  refine fn0 Tryd.func58 rfl rfl rfl ?_
  conv => whnf
  refine loop0 (α := Nat × List Int) (fun p => p.1 < 18446744073709551616 ∧ byl p.2 ++ Num.putN p.1 = Num.putN n) (fun p => putSt p.1 p.2) (fun p => p.1) ⟨(n, []), ⟨hn, rfl⟩, ?_⟩ ?_
  · conv => whnf
    exact ⟨rfl, ⟨rfl, rfl, trivial⟩, trivial, trivial⟩
  · rintro ⟨m, xs⟩ ⟨h1, h2⟩
    dsimp only at h1 h2 ⊢
    have hl := hlen _ _ h2
    have hdiv : (m : Int) / 2 ^ min (Int.toNat 7) IntKind.u64.bits = ((m / 128 : Nat) : Int) := by
      show (m : Int) / 2 ^ 7 = _
      omega
    cases xs with
    | nil =>
      conv => whnf
      refine ⟨fun h3 => ?_, fun h3 => ?_⟩
      · have h3 : 128 ≤ m := by simp at h3; omega
        conv => whnf
        refine ⟨by show 1 * 1 ≤ _; omega, ?_⟩
        conv => whnf
        refine ⟨by decide, ?_⟩
        conv => whnf
        refine ⟨(m / 128, [bits .or .u8 (IntKind.wrap .u8 m) 128]), ⟨⟨by dsimp only; omega, ?_⟩, by dsimp only; omega⟩, ?_⟩
        · dsimp only
          rw [put_step m h3, ← h2]
          rfl
        · conv => whnf
          exact ⟨rfl, ⟨hdiv, trivial, trivial⟩, trivial, rfl, trivial⟩
      · have h3 : m < 128 := by simp at h3; omega
        conv => whnf
        refine ⟨by show 1 * 1 ≤ _; omega, ?_⟩
        conv => whnf
        rw [← h2, ← put_last m h3]
        rfl
    | cons x xs =>
      have e1 : ((x :: xs).length + 1) * 1 ≤ 140737488355328 := by omega
      conv => whnf
      refine ⟨fun h3 => ?_, fun h3 => ?_⟩
      · have h3 : 128 ≤ m := by simp at h3; omega
        conv => whnf
        refine ⟨e1, ?_⟩
        conv => whnf
        refine ⟨by decide, ?_⟩
        conv => whnf
        refine ⟨(m / 128, x :: xs ++ [bits .or .u8 (IntKind.wrap .u8 m) 128]), ⟨⟨by dsimp only; omega, ?_⟩, by dsimp only; omega⟩, ?_⟩
        · dsimp only
          rw [byl_app, List.append_assoc, put_step m h3, ← h2]
        · conv => whnf
          exact ⟨rfl, ⟨hdiv, trivial, trivial⟩, trivial, rfl, trivial⟩
      · have h3 : m < 128 := by simp at h3; omega
        conv => whnf
        refine ⟨e1, ?_⟩
        conv => whnf
        rw [← h2, ← put_last m h3, ← byl_app]
end Go.Proofs.YtnldokebmfojeaaDoor
