/- The types of this seat's translation, as the engine wants them; short rules. Written by a program of the session (oegen.py). -/
import Derived.Test.YtapkdhfdemgjmaaProg
import Derived.KernelRfl
import Derived.Test.YtapkdhfdemgjmaaOeOpen
import Derived.Test.YtapkdhfdemgjmaaOeAny2
namespace Go.Proofs.Ytapkdhfdemgjmaa
open Go Go.RowKit OE
def tab : List (Nat × TI) := [
  (1, ⟨.other, 1, 8, [.val .nilFunc], .bool⟩),
  (2, ⟨.int .i64, 1, 8, [.int .i64 0], (.int .i64)⟩),
  (3, ⟨.int .i64, 1, 8, [.int .i64 0], (.int .i64)⟩),
  (4, ⟨.bool, 1, 1, [.bool .ff], .bool⟩),
  (5, ⟨.int .u8, 1, 1, [.int .u8 0], (.int .u8)⟩),
  (6, ⟨.int .u8, 1, 1, [.int .u8 0], (.int .u8)⟩),
  (7, ⟨.strct [(0, 1, false), (1, 1, false), (2, 1, false), (3, 1, false)], 4, 24, [.int .i64 0, .int .i64 0, .bool .ff, .int .u8 0], (.pair (.int .i64) (.pair (.int .i64) (.pair .bool (.int .u8))))⟩),
  (8, ⟨.strct [(0, 1, false), (1, 1, false), (2, 1, false), (3, 1, false)], 4, 24, [.int .i64 0, .int .i64 0, .bool .ff, .int .u8 0], (.pair (.int .i64) (.pair (.int .i64) (.pair .bool (.int .u8))))⟩),
  (9, ⟨.str, 1, 16, [.str []], .str⟩),
  (10, ⟨.str, 1, 16, [.str []], .str⟩),
  (11, ⟨.str, 1, 16, [.str []], .str⟩),
  (12, ⟨.int .u64, 1, 8, [.int .u64 0], (.int .u64)⟩),
  (13, ⟨.strct [(0, 1, false), (1, 1, false)], 2, 24, [.str [], .int .u64 0], (.pair .str (.int .u64))⟩),
  (14, ⟨.strct [(0, 1, false), (1, 1, false)], 2, 24, [.str [], .int .u64 0], (.pair .str (.int .u64))⟩),
  (15, ⟨.ptr 54, 1, 8, [.val (.pointer none)], .bool⟩),
  (16, ⟨.ptr 57, 1, 8, [.val (.pointer none)], .bool⟩),
  (17, ⟨.ptr 67, 1, 8, [.val (.pointer none)], .bool⟩),
  (18, ⟨.strct [(0, 1, false)], 1, 8, [.val (.pointer none)], .bool⟩),
  (19, ⟨.strct [(0, 1, false)], 1, 8, [.val (.pointer none)], .bool⟩),
  (20, ⟨.other, 1, 16, [.val .nilIface], .bool⟩),
  (21, ⟨.int .i32, 1, 4, [.int .i32 0], (.int .i32)⟩),
  (22, ⟨.int .u64, 1, 8, [.int .u64 0], (.int .u64)⟩),
  (23, ⟨.other, 1, 8, [.val .nilFunc], .bool⟩),
  (24, ⟨.other, 1, 8, [.val .nilFunc], .bool⟩),
  (25, ⟨.other, 1, 8, [.val .nilFunc], .bool⟩),
  (26, ⟨.other, 1, 8, [.val .nilFunc], .bool⟩),
  (27, ⟨.other, 1, 8, [.val .nilFunc], .bool⟩),
  (28, ⟨.other, 1, 8, [.val .nilFunc], .bool⟩),
  (29, ⟨.other, 1, 8, [.val .nilFunc], .bool⟩),
  (30, ⟨.array 2 9, 2, 32, [.str [], .str []], (.pair .str .str)⟩),
  (32, ⟨.other, 1, 8, [.val .nilFunc], .bool⟩),
  (34, ⟨.other, 1, 8, [.val .nilFunc], .bool⟩),
  (35, ⟨.other, 1, 8, [.val .nilFunc], .bool⟩),
  (36, ⟨.slice 9, 1, 24, [.val (.slice none 0 0)], (.list .str)⟩),
  (38, ⟨.other, 1, 8, [.val .nilFunc], .bool⟩),
  (39, ⟨.other, 1, 8, [.val .nilFunc], .bool⟩),
  (40, ⟨.strct [(0, 1, false), (1, 1, false), (2, 1, false)], 3, 24, [.int .u64 0, .int .i64 0, .bool .ff], (.pair (.int .u64) (.pair (.int .i64) .bool))⟩),
  (41, ⟨.strct [(0, 1, false), (1, 1, false), (2, 1, false)], 3, 24, [.int .u64 0, .int .i64 0, .bool .ff], (.pair (.int .u64) (.pair (.int .i64) .bool))⟩),
  (42, ⟨.other, 1, 8, [.val .nilFunc], .bool⟩),
  (43, ⟨.strct [(0, 1, false), (1, 1, false), (2, 1, false)], 3, 24, [.int .i64 0, .int .i64 0, .bool .ff], (.pair (.int .i64) (.pair (.int .i64) .bool))⟩),
  (44, ⟨.strct [(0, 1, false), (1, 1, false), (2, 1, false)], 3, 24, [.int .i64 0, .int .i64 0, .bool .ff], (.pair (.int .i64) (.pair (.int .i64) .bool))⟩),
  (45, ⟨.other, 1, 8, [.val .nilFunc], .bool⟩),
  (46, ⟨.strct [(0, 1, false), (1, 1, false), (2, 1, false)], 3, 32, [.str [], .int .i64 0, .bool .ff], (.pair .str (.pair (.int .i64) .bool))⟩),
  (47, ⟨.strct [(0, 1, false), (1, 1, false), (2, 1, false)], 3, 32, [.str [], .int .i64 0, .bool .ff], (.pair .str (.pair (.int .i64) .bool))⟩),
  (48, ⟨.other, 1, 8, [.val .nilFunc], .bool⟩),
  (49, ⟨.other, 1, 8, [.val .nilFunc], .bool⟩),
  (50, ⟨.slice 5, 1, 24, [.val (.slice none 0 0)], (.list (.int .u8))⟩),
  (51, ⟨.int .u64, 1, 8, [.int .u64 0], (.int .u64)⟩),
  (52, ⟨.other, 1, 8, [.val .nilFunc], .bool⟩),
  (53, ⟨.strct [(0, 1, false), (1, 1, false), (2, 1, false), (3, 1, false)], 4, 40, [.val (.pointer none), .val (.pointer none), .val (.pointer none), .str []], (.pair .bool (.pair .bool (.pair .bool .str)))⟩),
  (54, ⟨.strct [(0, 1, false), (1, 1, false), (2, 1, false), (3, 1, false)], 4, 40, [.val (.pointer none), .val (.pointer none), .val (.pointer none), .str []], (.pair .bool (.pair .bool (.pair .bool .str)))⟩),
  (58, ⟨.other, 1, 8, [.val .nilFunc], .bool⟩),
  (59, ⟨.int .u32, 1, 4, [.int .u32 0], (.int .u32)⟩),
  (60, ⟨.int .u8, 1, 1, [.int .u8 0], (.int .u8)⟩),
  (61, ⟨.int .u8, 1, 1, [.int .u8 0], (.int .u8)⟩),
  (62, ⟨.other, 1, 8, [.val .nilFunc], .bool⟩),
  (63, ⟨.ptr 5, 1, 8, [.val (.pointer none)], .bool⟩),
  (64, ⟨.int .i32, 1, 4, [.int .i32 0], (.int .i32)⟩),
  (65, ⟨.int .i32, 1, 4, [.int .i32 0], (.int .i32)⟩),
  (66, ⟨.strct [(0, 1, false), (1, 1, false), (2, 1, false), (3, 1, false), (4, 1, false), (5, 1, false), (6, 1, false), (7, 1, false), (8, 1, false), (9, 1, false), (10, 1, false)], 11, 48, [.int .u64 0, .int .u64 0, .int .u32 0, .int .u8 0, .int .u8 0, .int .u8 0, .int .u8 0, .val .nilFunc, .val (.pointer none), .int .i32 0, .int .i32 0], (.pair (.int .u64) (.pair (.int .u64) (.pair (.int .u32) (.pair (.int .u8) (.pair (.int .u8) (.pair (.int .u8) (.pair (.int .u8) (.pair .bool (.pair .bool (.pair (.int .i32) (.int .i32)))))))))))⟩),
  (67, ⟨.strct [(0, 1, false), (1, 1, false), (2, 1, false), (3, 1, false), (4, 1, false), (5, 1, false), (6, 1, false), (7, 1, false), (8, 1, false), (9, 1, false), (10, 1, false)], 11, 48, [.int .u64 0, .int .u64 0, .int .u32 0, .int .u8 0, .int .u8 0, .int .u8 0, .int .u8 0, .val .nilFunc, .val (.pointer none), .int .i32 0, .int .i32 0], (.pair (.int .u64) (.pair (.int .u64) (.pair (.int .u32) (.pair (.int .u8) (.pair (.int .u8) (.pair (.int .u8) (.pair (.int .u8) (.pair .bool (.pair .bool (.pair (.int .i32) (.int .i32)))))))))))⟩)]
theorem tab_ok : TabOk Try.prog (lk tab) := tab_of (by kernel_rfl)
noncomputable def EnI (inl : Nat → Option (FI × Code)) (post : SV → Prop) : En := ⟨Try.prog, lk tab, inl, Post post⟩
def noI : Nat → Option (FI × Code) := fun _ => none
noncomputable def fiOf (f : Func) : FI := ⟨f, f.ntmps, f.results.toList⟩
theorem ok0 {post : SV → Prop} : EnOk (EnI noI post) := ⟨tab_ok, fun _ _ _ h => by cases h⟩
theorem mixed : Try.prog.follows .mixedOrders = true := by kernel_rfl
theorem fn0 {f : Nat} {fn : Func} {c : Code} {args : List SV} {post : SV → Prop} (hf : Try.prog.funcs[f]? = some fn) (hb : fn.body = some c) (hn : (fn.name == "runtime.NumGoroutine") = false)
    (hl : Nat.ble args.length fn.ntmps = true) (h : fcN (fun fr => go (EnI noI post) 100000 (fiOf fn) [.code c] ⟨fr, [], 0⟩ []) (num args 0)) : FnD Try.prog f args post :=
  fn_of (E := EnI noI post) (fi := fiOf fn) hf hb hn rfl rfl (Nat.le_of_ble_eq_true hl) rfl (go_sound ok0 _ _ _ _ _ (by rw [fcN_eq] at h; exact h))
theorem go0 {post : SV → Prop} {cur : FI} {t : List It} {st : St} {stk : List Fm} (h : go (EnI noI post) 100000 cur t st stk) : Mean (EnI noI post) cur t st stk := go_sound ok0 _ _ _ _ _ h
theorem call0 {post pf : SV → Prop} {cur : FI} {f : Nat} {args : List SV} {all : Array Oper} {o : Oper} {l : List Oper} {r : List It} {fr : List (Nat × SV)} {hp : List (Nat × Ob)} {nx : Nat} {stk : List Fm} (hF : FnD Try.prog f args pf) (hd : args.all isDs = true)
    (hk : ∀ s, pf s → fcF (fun fr' => go (EnI noI post) 100000 cur (.ops all l :: r) ⟨fr', hp, nx⟩ stk) (putF cur.nt fr o.dst s)) : CallOk (EnI noI post) cur f args all o l r ⟨fr, hp, nx⟩ stk :=
  call_rule (E := EnI noI post) hF hd fun s hs => go0 (by have := hk s hs; rw [fcF_eq] at this; exact this)
theorem call1 {post : SV → Prop} {cur : FI} {f : Nat} {args : List SV} {s : SV} {all : Array Oper} {o : Oper} {l : List Oper} {r : List It} {fr : List (Nat × SV)} {hp : List (Nat × Ob)} {nx : Nat} {stk : List Fm} (hF : FnD Try.prog f args (· = s)) (hd : args.all isDs = true)
    (hk : fcF (fun fr' => go (EnI noI post) 100000 cur (.ops all l :: r) ⟨fr', hp, nx⟩ stk) (putF cur.nt fr o.dst s)) : CallOk (EnI noI post) cur f args all o l r ⟨fr, hp, nx⟩ stk :=
  call0 hF hd fun s' hs => by subst hs; exact hk
theorem loop0 {post : SV → Prop} {cur : FI} {c : Code} {r : List It} {st : St} {stk : List Fm} {α : Type} (I : α → Prop) (σ : α → St) (μ : α → Nat) (h0 : ∃ x, I x ∧ sub (σ x) st stk)
    (round : ∀ x, I x → go (EnI noI post) 100000 cur (.code c :: .fin (fun st' => ∃ y, (I y ∧ μ y < μ x) ∧ sub (σ y) st' stk) :: r) (σ x) stk) : LoopOk (EnI noI post) cur c r st stk :=
  loop_rule (E := EnI noI post) I σ μ h0 fun x hx => go0 (round x hx)
theorem draw0 {post : SV → Prop} {cur : FI} {id : Nat} {all : Array Oper} {r : List It} {st : St} {stk : List Fm} (hB : Region.lexB .any all = true) (h : goQ (EnI noI post) cur all r stk all.toList st) :
    DrawOk (EnI noI post) cur id all r st stk := draw_rule (E := EnI noI post) ok0 mixed hB h
theorem callq0 {post : SV → Prop} {cur : FI} {f : Nat} {args : List SV} {all : Array Oper} {o : Oper} {l : List Oper} {r : List It} {fr : List (Nat × SV)} {hp : List (Nat × Ob)} {nx : Nat} {stk : List Fm} {s : SV} {u : Value} (hF : FnD Try.prog f args (· = s)) (hd : args.all isDs = true)
    (hu : vS s = some u) (hk : fcF (fun fr' => goQ (EnI noI post) cur all r stk l ⟨fr', hp, nx⟩) (putF cur.nt fr o.dst s)) : CallQ (EnI noI post) cur f args all o l r ⟨fr, hp, nx⟩ stk :=
  callq_rule (E := EnI noI post) hF hd hu (goQ_sound ok0 (by rw [fcF_eq] at hk; exact hk))
theorem any0 {post : SV → Prop} {cur : FI} {id : Nat} {all : Array Oper} {r : List It} {fr : List (Nat × SV)} {hp : List (Nat × Ob)} {nx : Nat} {stk : List Fm} (h : goR (EnI noI post) cur all r stk nx 0 all.toList [] fr hp) :
    DrawOk (EnI noI post) cur id all r ⟨fr, hp, nx⟩ stk := any_rule (E := EnI noI post) ok0 mixed h
theorem callr0 {post : SV → Prop} {cur : FI} {f : Nat} {args : List SV} {all : Array Oper} {o : Oper} {l : List Oper} {r : List It} {stk : List Fm} {n0 j : Nat} {recs : List Rec} {fin fr : List (Nat × SV)} {hin hp : List (Nat × Ob)} {s : SV}
    (hF : FnD Try.prog f args (· = s)) (hd : args.all isDs = true) (hk : putR all j cur.nt o fin hin [] fr hp (fun rc => goR (EnI noI post) cur all r stk n0 (j + 1) l (recs ++ [rc])) s) :
    CallR (EnI noI post) cur f args all o l r stk n0 j recs fin hin fr hp := callr_rule (E := EnI noI post) ok0 hF hd hk
theorem after0 {post : SV → Prop} {cur : FI} {r : List It} {st : St} {stk : List Fm} (h : go (EnI noI post) 100000 cur r st stk) : AfterQ (EnI noI post) cur r st stk := ⟨go0 h⟩
end Go.Proofs.Ytapkdhfdemgjmaa
