/- Several texts of the proof, one behind the other; put together by a program of the session (mrg.py). Own work. -/
import Derived.Maps.RangeRun
import Derived.Laws.StructEq
import Derived.Lib.Overlaps
import Derived.Lib.Bytealg
import Derived.Laws.BitsAllLaws
import GoSem.Claim
import Derived.OpenShut
import Derived.SizedLaws
import Derived.WideShapes
import Derived.Test.YtmdjonckcapkeaaDoorPart2
/- OE, part 15: rules for operations that the run does not take by itself: range over a map, two structs told equal. Own work; generic over the program. -/
set_option linter.unusedVariables false
namespace OE
open Go Go.RowKit

/-- an operation whose run is known in each world that the state stands for -/
theorem stuck_rule {E : En} {cur : FI} {all : Array Oper} {o : Oper} {l : List Oper} {r : List It} {fr : List (Nat × SV)} {hp : List (Nat × Ob)} {nx : Nat} {stk : List Fm}
    (h : ∀ w0 η S a w, RepA w0 cur ⟨fr, hp, nx⟩ S η a w → ∃ sv v w' η' hp' nx', (execOp a.eval ⟨o.dst, o.op, o.type, o.pos, o.after, none⟩).run E.P w = .ok (.value v) w' ∧
      RepH w0 hp' (lt nx') η' w' ∧ (cxS w0 hp (lt nx) η w).le (cxS w0 hp' (lt nx') η' w') ∧ RS (cxS w0 hp' (lt nx') η' w') sv v ∧ Mean E cur (.ops all l :: r) ⟨putF cur.nt fr o.dst sv, hp', nx'⟩ stk) :
    StuckOk E cur all o l r ⟨fr, hp, nx⟩ stk := by
  refine ⟨fun w0 η S a w hS hR => ?_⟩
  obtain ⟨sv, v, w', η', hp', nx', hrun, hH, hle, hv, hm⟩ := h w0 η S a w hR
  simp only [TW, wpList, Region.wanted, if_true]
  left
  unfold Oper.wp
  rw [hrun, Oper.upon_value]
  have hR' := hR.heap hH hle
  exact hm w0 η' S _ w' hS (hR'.fr (putF_sound hR'.2.1 hv))

/-- 'range m' -/
theorem range_rule {E : En} (ht : TabOk E.P E.ti) {cur : FI} {all : Array Oper} {o : Oper} {l : List Oper} {r : List It} {fr : List (Nat × SV)} {hp : List (Nat × Ob)} {nx : Nat} {stk : List Fm} {T T' k e : TypeId} {x : Operand} {i : TI} {b : Nat} {kd0 kd vd : D} {es : List (kd.T × vd.T)}
    (ho : o.op = .range T x) (hi : E.ti T = some i) (hk : i.tk = .map k e kd0) (hx : ev fr x = .c (.mp b)) (hb : lk hp b = some (.dmp T' kd vd es))
    (hm : Mean E cur (.ops all l :: r) ⟨putF cur.nt fr o.dst (.c (.ptr nx 0)), (nx, .itr b es.length []) :: rm hp nx, nx + 1⟩ stk) : StuckOk E cur all o l r ⟨fr, hp, nx⟩ stk := by
  refine stuck_rule fun w0 η S a w hR => ?_
  have hH := hR.1.1
  have hxv := ev_sound hR.2.1 x
  rw [hx] at hxv
  obtain ⟨hbn, q, hq, hxv⟩ := hxv
  obtain ⟨rr, arr, h1, h2, h3, h4⟩ := hH.obs b _ hb
  have hq' : rr = q := by
    have hq : (η b).1 = some q := hq
    have h1 : (η b).1 = some rr := h1
    rw [h1] at hq; cases hq; rfl
  subst hq'
  have hu := (tk_map (P := E.P) (t := T) (by have := (ht.is hi).tk; rw [hk] at this; exact this)).1
  have hrun : (execOp a.eval ⟨o.dst, o.op, o.type, o.pos, o.after, none⟩).run E.P w = .ok (.value (.pointer (some ⟨w.heap.size, 0, none⟩))) (w.alloc (.mapIter (some rr) es.length #[] es.length)) := by
    simp only [execOp, ho, hxv]
    rw [Sem.run_bind, run_range_map w T k e rr arr es.length hu h2]
    rfl
  have hnx : ¬ lt nx nx := Nat.lt_irrefl _
  have htn := turns_allocr (nx := nx) (hp := hp) (η := η) (w := w) (.mapIter (some rr) es.length #[] es.length)
  have hle := step_le (p := (some w.heap.size, undef)) (ob := .itr b es.length []) hnx hH rm_sub htn (fun k hk => .inl (by cases hk; exact Nat.le_refl _))
  have hH' := step_rep (p := (some w.heap.size, undef)) (ob := .itr b es.length []) hnx hH rm_sub htn (fun k hk => .inl (by cases hk; simp)) ⟨w.heap.size, rr, by simp [cxS, upd], .inl hbn, by
      have : b ≠ nx := by intro e; subst e; exact hnx hbn
      simp only [cxS, upd, this, if_false]; exact h1, heap_alloc_new w _⟩
  rw [nmE_lt (Nat.le_succ nx)] at hle hH'
  exact ⟨.c (.ptr nx 0), _, _, _, _, _, hrun, hH', hle, ⟨Nat.lt_succ_self _, w.heap.size, by simp [cxS, upd], rfl⟩, hm⟩

theorem left_mem {kd vd : D} {es : List (kd.T × vd.T)} {arr : Array MapEntry} (h3 : RL (DmR kd vd) es arr.toList) (h4 : ∀ (i : Nat) (e : MapEntry), arr[i]? = some e → e.born = i) {seen : List Nat} {e : MapEntry} (he : e ∈ (leftOf arr seen.toArray).toList) :
    ∃ (i : Nat) (hi : i < es.length), i ∉ seen ∧ arr[i]? = some e ∧ e.born = i ∧ e.key = kd.v es[i].1 ∧ e.val = vd.v es[i].2 := by
  simp only [leftOf, Array.toList_filter, List.mem_filter] at he
  obtain ⟨h1, h2⟩ := he
  obtain ⟨i, hi, rfl⟩ := List.getElem_of_mem h1
  have hi' : i < arr.size := by simpa using hi
  have hget : arr[i]? = some arr.toList[i] := by simp [hi']
  obtain ⟨p, hp, g1, g2⟩ := RL.at_ h3 (i := i) (b := arr.toList[i]) (by simp [hi'])
  obtain ⟨hlt, rfl⟩ := List.getElem?_eq_some_iff.1 hp
  have hb := h4 i _ hget
  exact ⟨i, hlt, by rw [hb] at h2; simpa using h2, hget, hb, g1, g2⟩

/-- 'next' over a map: nothing is left; or any entry that is left -/
theorem next_rule {E : En} {cur : FI} {all : Array Oper} {o : Oper} {l : List Oper} {r : List It} {fr : List (Nat × SV)} {hp : List (Nat × Ob)} {nx : Nat} {stk : List Fm} {T' : TypeId} {x : Operand} {b m : Nat} {kd vd : D} {es : List (kd.T × vd.T)} {n : Nat} {seen : List Nat}
    (ho : o.op = .next x false) (hx : ev fr x = .c (.ptr b 0)) (hb : lk hp b = some (.itr m n seen)) (hm : lk hp m = some (.dmp T' kd vd es)) (hn : n = es.length) (hkp : kd.plain = true) (hvp : vd.plain = true)
    (h1 : (∀ i, i < es.length → i ∈ seen) → Mean E cur (.ops all l :: r) ⟨putF cur.nt fr o.dst (.tup [(false, [.bool .ff])]), hp, nx⟩ stk)
    (h2 : ∀ (i : Nat) (hi : i < es.length), i ∉ seen → Mean E cur (.ops all l :: r) ⟨putF cur.nt fr o.dst (.tup [(false, [.bool .tt]), partD kd es[i].1, partD vd es[i].2]), (b, .itr m n (seen ++ [i])) :: rm hp b, nx⟩ stk) :
    StuckOk E cur all o l r ⟨fr, hp, nx⟩ stk := by
  refine stuck_rule fun w0 η S a w hR => ?_
  have hH := hR.1.1
  have hxv := ev_sound hR.2.1 x
  rw [hx] at hxv
  obtain ⟨hbn, kk, hkk, hxv⟩ := hxv
  obtain ⟨rr, q, g1, g2, g3, g4⟩ := hH.obs b _ hb
  obtain ⟨q', arr, e1, e2, e3, e4, e5, e6⟩ := hH.obs m _ hm
  have hq' : kk = rr := by
    have hkk : (η b).1 = some kk := hkk
    have g1 : (η b).1 = some rr := g1
    rw [g1] at hkk; cases hkk; rfl
  subst hq'
  have hq2 : q' = q := by
    have e1 : (η m).1 = some q' := e1
    have g3 : (η m).1 = some q := g3
    rw [g3] at e1; cases e1; rfl
  subst hq2
  subst hn
  have hlen : arr.size = es.length := by have := RL.len e3; simpa using this.symm
  have hold : ∀ y ∈ arr.toList, y.born < es.length := fun y hy => by
    obtain ⟨i, hi, rfl⟩ := List.getElem_of_mem hy
    have hi' : i < arr.size := by simpa using hi
    rw [e4 i _ (by simp [hi'])]; omega
  have hex : ∀ w'' v, (Instr.next (.pointer (some ⟨kk, 0, none⟩)) false o.type).run E.P w = .ok v w'' → (execOp a.eval ⟨o.dst, o.op, o.type, o.pos, o.after, none⟩).run E.P w = .ok (.value v) w'' := fun w'' v hrun => by
    simp only [execOp, ho, hxv]
    have : (⟨kk, 0 + 0, none⟩ : Addr) = ⟨kk, 0, none⟩ := rfl
    rw [Sem.run_bind, hrun]
    rfl
  rcases run_next_at (P := E.P) w o.type kk q' es.length es.length seen.toArray arr es.length g4 e2 hold (Nat.le_refl _) with ⟨h0, hrun⟩ | ⟨e, he, w1, hw1, hrun⟩
  · refine ⟨.tup [(false, [.bool .ff])], _, _, η, hp, nx, hex _ _ hrun, hH, Cx.le.refl _, ⟨_, rfl, ⟨⟨.bool .ff, rfl, rfl⟩, trivial⟩⟩, h1 fun i hi => ?_⟩
    apply Classical.byContradiction
    intro hns
    have hi' : i < arr.size := by omega
    have : arr.toList[i]'(by simpa using hi') ∈ (leftOf arr seen.toArray).toList := by
      simp only [leftOf, Array.toList_filter, List.mem_filter]
      refine ⟨List.getElem_mem _, ?_⟩
      rw [e4 i _ (by simp [hi'])]
      simpa using hns
    have h0 : (leftOf arr seen.toArray).toList.length = 0 := by simpa using h0
    rw [List.length_eq_zero_iff.1 h0] at this
    cases this
  · obtain ⟨i, hi, hns, hget, hborn, hkey, hval⟩ := left_mem e3 e4 he
    have hheap : w1.heap = w.heap := by rcases hw1 with rfl | rfl <;> rfl
    have hos : w1.os = w.os := by rcases hw1 with rfl | rfl <;> rfl
    have htp : w1.tape = w.tape := by rcases hw1 with rfl | rfl <;> rfl
    have hout : w1.output = w.output := by rcases hw1 with rfl | rfl <;> rfl
    have hklt : kk < w1.heap.size := by rw [hheap]; exact (Array.getElem?_eq_some_iff.1 g4).1
    have hset : (ChangeMaps.setBlock w1 kk (.mapIter (some q') es.length (seen.toArray.push e.born) es.length)).heap[kk]? = some (.mapIter (some q') es.length (seen ++ [i]).toArray es.length) := by
      simp [ChangeMaps.setBlock, hklt, hborn]
    have hnm : lk hp b ≠ none := by rw [hb]; simp
    obtain ⟨k1, k2⟩ := step_set (w' := ChangeMaps.setBlock w1 kk (.mapIter (some q') es.length (seen.toArray.push e.born) es.length)) (ob' := .itr m es.length (seen ++ [i])) hH (b := b) (k := kk) hnm hkk hos htp hout (by simp [ChangeMaps.setBlock, hheap])
      (fun j hj => by simp only [ChangeMaps.setBlock]; rw [Array.getElem?_setIfInBounds_ne (Ne.symm hj), hheap]) ⟨kk, q', g1, g2, g3, hset⟩
    refine ⟨.tup [(false, [.bool .tt]), partD kd es[i].1, partD vd es[i].2], _, _, η, _, nx, hex _ _ hrun, k1, k2, ⟨_, rfl, ⟨⟨.bool .tt, rfl, rfl⟩, ?_, ?_, trivial⟩⟩, h2 i hi hns⟩
    · rw [hkey]; exact partD_sound _ hkp
    · rw [hval]; exact partD_sound _ hvp

/-- the entry that 'next' has come to -/
theorem entry_rule {E : En} {cur : FI} {all : Array Oper} {o : Oper} {l : List Oper} {r : List It} {fr : List (Nat × SV)} {hp : List (Nat × Ob)} {nx : Nat} {stk : List Fm} {T' : TypeId} {x : Operand} {b m : Nat} {kd vd : D} {es : List (kd.T × vd.T)} {n : Nat} {seen : List Nat} {i : Nat}
    (ho : o.op = .entry x) (hx : ev fr x = .c (.ptr b 0)) (hb : lk hp b = some (.itr m n (seen ++ [i]))) (hm : lk hp m = some (.dmp T' kd vd es)) (hn : n = es.length) (hi : i < es.length) (hkp : kd.plain = true) (hvp : vd.plain = true)
    (h2 : Mean E cur (.ops all l :: r) ⟨putF cur.nt fr o.dst (.tup [partD kd es[i].1, partD vd es[i].2]), hp, nx⟩ stk) :
    StuckOk E cur all o l r ⟨fr, hp, nx⟩ stk := by
  refine stuck_rule fun w0 η S a w hR => ?_
  have hH := hR.1.1
  have hxv := ev_sound hR.2.1 x
  rw [hx] at hxv
  obtain ⟨hbn, kk, hkk, hxv⟩ := hxv
  obtain ⟨rr, q, g1, g2, g3, g4⟩ := hH.obs b _ hb
  obtain ⟨q', arr, e1, e2, e3, e4, e5, e6⟩ := hH.obs m _ hm
  have hq' : kk = rr := by
    have hkk : (η b).1 = some kk := hkk
    have g1 : (η b).1 = some rr := g1
    rw [g1] at hkk; cases hkk; rfl
  subst hq'
  have hq2 : q' = q := by
    have e1 : (η m).1 = some q' := e1
    have g3 : (η m).1 = some q := g3
    rw [g3] at e1; cases e1; rfl
  subst hq2
  subst hn
  have hlen : arr.size = es.length := by have := RL.len e3; simpa using this.symm
  have hi' : i < arr.size := by omega
  have hget : arr[i]? = some arr[i] := by simp [hi']
  have hborn := e4 i _ hget
  obtain ⟨p, hp', f1, f2⟩ := RL.at_ e3 (i := i) (b := arr[i]) (by simp [hi'])
  obtain ⟨hlt, rfl⟩ := List.getElem?_eq_some_iff.1 hp'
  have hnd : (arr.toList.map (·.born)).Nodup := by
    have : arr.toList.map (·.born) = List.range arr.toList.length := by
      refine List.ext_getElem (by simp) fun j h1 h2 => ?_
      have hj : j < arr.size := by simpa using h1
      simp [e4 j _ (by simp [hj] : arr[j]? = some arr[j])]
    rw [this]
    exact List.nodup_range
  have hrun := run_entry_at (P := E.P) w kk q' es.length seen.toArray arr es.length arr[i] (by rw [show w.heap[kk]? = _ from g4, hborn]; simp) e2 (by simp) hnd
  refine ⟨.tup [partD kd es[i].1, partD vd es[i].2], .tuple #[arr[i].key, arr[i].val], w, η, hp, nx, ?_, hH, Cx.le.refl _, ⟨_, rfl, ⟨?_, ?_, trivial⟩⟩, h2⟩
  · simp only [execOp, ho, hxv]
    rw [Sem.run_bind, hrun]
    rfl
  · rw [f1]; exact partD_sound _ hkp
  · rw [f2]; exact partD_sound _ hvp

/-! ### two structs told equal -/

/-- types that are told equal part by part, of this kind of data -/
def eqtB (P : Program) : Nat → TypeId → D → Bool
  | 0, _, _ => false
  | n + 1, t, d => match P.underlying t with
    | some (.int k) => decide (d = .int k)
    | some .bool => decide (d = .bool)
    | some .string => decide (d = .str)
    | some (.struct fs) => (match d with | .pair _ _ => true | _ => false) && d.plain && P.cellsOf t == d.sz && !P.stoodInHeld t && fs.all (fun f => f.name != "_" && (P.info? f.type).isSome) && partsB P (eqtB P n) (fs.toList.map fun f => (f.type, f.offset)) 0 d
    | _ => false

theorem eqt_plain {P : Program} {n : Nat} {t : TypeId} {d : D} (h : eqtB P n t d = true) : d.plain = true := by
  cases n with
  | zero => simp [eqtB] at h
  | succ n =>
    unfold eqtB at h
    split at h
    · simp only [decide_eq_true_eq] at h; subst h; rfl
    · simp only [decide_eq_true_eq] at h; subst h; rfl
    · simp only [decide_eq_true_eq] at h; subst h; rfl
    · simp only [Bool.and_eq_true] at h; exact h.1.1.1.1.2
    · cases h

section
variable {P : Program} (w : World)

theorem run_part_of {n : Nat} {t : TypeId} {d : D} (h : eqtB P n t d = true) (hi : (P.info? t).isSome = true) (hsz : P.cellsOf t = d.sz) {cs : Array Value} {o : Nat} {y : d.T} (hc : (cs.toList.drop o).take d.sz = d.vs y) :
    (part t cs o).run P w = .ok (d.v y) w := by
  have hpl := eqt_plain h
  obtain ⟨j, hj⟩ := Option.isSome_iff_exists.1 hi
  have hsz' : j.size = d.sz := by
    have : P.cellsOf t = j.size := by simp [Program.cellsOf, hj]
    omega
  cases n with
  | zero => simp [eqtB] at h
  | succ n =>
    have one : d.sz = 1 → ∀ u, d.vs y = [u] → cs[o]? = some u := fun h1 u hu => by
      rw [h1, hu] at hc
      have := congrArg (fun l => l[0]?) hc
      simpa using this
    unfold eqtB at h
    split at h
    · rename_i k hu
      simp only [decide_eq_true_eq] at h; subst h
      unfold part isAgg
      simp [run_underlying hu, one rfl _ rfl, D.v]
    · rename_i hu
      simp only [decide_eq_true_eq] at h; subst h
      unfold part isAgg
      simp [run_underlying hu, one rfl _ rfl, D.v]
    · rename_i hu
      simp only [decide_eq_true_eq] at h; subst h
      unfold part isAgg
      simp [run_underlying hu, one rfl _ rfl, D.v]
    · rename_i fs hu
      simp only [Bool.and_eq_true] at h
      cases d with
      | pair a b =>
        rw [run_part hu hj hsz' cs o w, if_pos (show isAggD (some (TypeDesc.struct fs)) = true from rfl)]
        congr 1
        simp only [D.v, Value.agg.injEq]
        apply Array.ext'
        rw [← hc]
        simp [List.take_drop]
      | _ => simp at h
    · cases h

theorem eqt_fields {n m : Nat} (ih : ∀ {t : TypeId} {d : D} {x y : d.T}, eqtB P n t d = true → (Op.equalIn m t (d.v x) (d.v y)).run P w = .ok (d.eqb x y) w) :
    ∀ {fl : List Field} {p : Nat} {d : D} {x y : d.T} {xs ys : Array Value}, d.plain = true → (∀ f ∈ fl, f.name ≠ "_" ∧ (P.info? f.type).isSome = true) → partsB P (eqtB P n) (fl.map fun f => (f.type, f.offset)) p d = true →
      (xs.toList.drop p).take d.sz = d.vs x → (ys.toList.drop p).take d.sz = d.vs y → (Op.eqFields m xs ys fl).run P w = .ok (d.eqb x y) w
  | [], _, _, _, _, _, _, _, _, h, _, _ => by simp [partsB] at h
  | [f], p, d, x, y, xs, ys, hp, hf, h, hx, hy => by
    simp only [List.map_cons, List.map_nil, partsB, Bool.and_eq_true, beq_iff_eq] at h
    obtain ⟨⟨rfl, h1⟩, h2⟩ := h
    obtain ⟨f1, f2⟩ := hf f (by simp)
    simp only [Op.eqFields, ne_eq, f1, not_false_eq_true, if_true, Sem.run_bind, run_part_of w h2 f2 h1 hx, run_part_of w h2 f2 h1 hy, Result.andThen_ok, ih h2]
    cases d.eqb x y <;> simp
  | f :: g :: r, p, d, x, y, xs, ys, hp, hf, h, hx, hy => by
    simp only [List.map_cons, partsB] at h
    split at h
    · rename_i a b
      simp only [Bool.and_eq_true, beq_iff_eq] at h
      obtain ⟨⟨⟨rfl, h1⟩, h2⟩, h3⟩ := h
      simp only [D.plain, Bool.and_eq_true] at hp
      obtain ⟨f1, f2⟩ := hf f (by simp)
      have cut : ∀ {cs : List Value} {z : (D.pair a b).T}, (cs.drop f.offset).take (D.pair a b).sz = (D.pair a b).vs z → (cs.drop f.offset).take a.sz = a.vs z.1 ∧ (cs.drop (f.offset + a.sz)).take b.sz = b.vs z.2 := by
        intro cs z hc
        simp only [D.sz, D.vs, List.take_add, List.drop_drop] at hc
        have hl : ((cs.drop f.offset).take a.sz).length = (a.vs z.1).length := by
          have := congrArg List.length hc
          have ha := D.vs_len z.1 hp.1
          have hb := D.vs_len z.2 hp.2
          simp only [List.length_append, List.length_take, List.length_drop, ha, hb] at this ⊢
          have := b.sz_pos
          omega
        exact List.append_inj hc hl
      obtain ⟨x1, x2⟩ := cut hx
      obtain ⟨y1, y2⟩ := cut hy
      have := eqt_fields ih (fl := g :: r) (xs := xs) (ys := ys) hp.2 (fun q hq => hf q (List.mem_cons_of_mem _ hq)) h3 x2 y2
      rw [Op.eqFields]
      simp only [ne_eq, f1, not_false_eq_true, if_true, Sem.run_bind, run_part_of w h2 f2 h1 x1, run_part_of w h2 f2 h1 y1, Result.andThen_ok, ih h2, D.eqb]
      cases a.eqb x.1 y.1
      · simp
      · simpa using this
    · cases h

theorem run_eqt : ∀ (n : Nat) {m : Nat} {t : TypeId} {d : D} {x y : d.T}, n ≤ m → eqtB P n t d = true → (Op.equalIn m t (d.v x) (d.v y)).run P w = .ok (d.eqb x y) w
  | 0, _, _, _, _, _, _, h => by simp [eqtB] at h
  | n + 1, 0, _, _, _, _, hm, _ => by omega
  | n + 1, m + 1, t, d, x, y, hm, h => by
    have hpl := eqt_plain h
    unfold eqtB at h
    split at h
    · rename_i k hu
      simp only [decide_eq_true_eq] at h; subst h
      simp only [D.v, D.eqb]
      rw [run_equalIn_int w m t k k x y hu]
      congr 1
    · rename_i hu
      simp only [decide_eq_true_eq] at h; subst h
      simp only [D.v, D.eqb]
      rw [run_equalIn_bool' w m t x y hu]
      congr 1
    · rename_i hu
      simp only [decide_eq_true_eq] at h; subst h
      simp only [D.v, D.eqb]
      rw [run_equalIn_string w m t _ _ hu]
      congr 1
      rw [ByteArray.toList_eq, ByteArray.toList_eq]
      show (List.beq x y) = decide (x = y)
      have : ∀ a b : List UInt8, (a == b) = decide (a = b) := fun a b => by
        by_cases h : a = b
        · simp [h]
        · simp [h]
      exact this x y
    · rename_i fs hu
      simp only [Bool.and_eq_true, beq_iff_eq, Bool.not_eq_true', Array.all_eq_true_iff_forall_mem, bne_iff_ne] at h
      obtain ⟨⟨⟨⟨⟨h1, h2⟩, h3⟩, h4⟩, h5⟩, h6⟩ := h
      have hfo : P.fieldsOf t = fs := by simp [Program.fieldsOf, hu]
      cases d with
      | pair a b =>
        simp only [D.v]
        rw [run_equalIn_struct w m t _ _ (by rw [hfo]; exact hu) h4, hfo]
        refine eqt_fields w (n := n) (fun h => run_eqt n (by omega) h) hpl (fun f hf => by simpa using h5 f (by simpa using hf)) h6 ?_ ?_
        · rw [List.drop_zero, ← D.vs_len x hpl]; simp
        · rw [List.drop_zero, ← D.vs_len y hpl]; simp
      | _ => simp at h1
    · cases h
end

def isPr : D → Bool
  | .pair _ _ => true
  | _ => false
/-- '==' between two structs of plain data -/
theorem eqs_rule {E : En} {cur : FI} {all : Array Oper} {o : Oper} {l : List Oper} {r : List It} {fr : List (Nat × SV)} {hp : List (Nat × Ob)} {nx : Nat} {stk : List Fm} {t rt : TypeId} {x y : Operand} (d : D) {p q : d.T} {n : Nat}
    (ho : o.op = .binOp .eql t x y rt) (hB : eqtB E.P n t d = true) (hn : Nat.ble n 10000 = true) (hg : E.P.eqGuardType E.P.depth t = false) (hpr : isPr d = true) (hx : psS d (ev fr x) = some p) (hy : psS d (ev fr y) = some q)
    (hm : Mean E cur (.ops all l :: r) ⟨putF cur.nt fr o.dst (.c (.bool (.sym (d.eqb p q)))), hp, nx⟩ stk) : StuckOk E cur all o l r ⟨fr, hp, nx⟩ stk := by
  refine stuck_rule fun w0 η S a w hR => ?_
  have hpl := eqt_plain hB
  have hxv := psS_sound hpl hx (ev_sound hR.2.1 x)
  have hyv := psS_sound hpl hy (ev_sound hR.2.1 y)
  have he := run_eqt (P := E.P) w n (m := 10000) (x := p) (y := q) (Nat.le_of_ble_eq_true hn) hB
  refine ⟨.c (.bool (.sym (d.eqb p q))), .bool (d.eqb p q), w, η, hp, nx, ?_, hR.1.1, Cx.le.refl _, rfl, hm⟩
  cases d with
  | pair a b =>
    simp only [execOp, ho, hxv, hyv]
    simp only [D.v] at he ⊢
    rw [Sem.run_bind, Sem.run_bind, run_eqGuard_agg w _ _ _ _ _ _ hg]
    simp only [Result.andThen_ok]
    rw [run_eql_struct, he]
    rfl
  | _ => simp [isPr] at hpr

/-! ### an own row's capacity is known from here on -/

def rpC (b : Nat) (y : C) : C → C
  | .row b' => match Nat.beq b' b with | true => y | false => .row b'
  | c => c
def rpT (b : Nat) (y : C) : List (Bool × List C) → List (Bool × List C)
  | [] => []
  | (g, l) :: r => (g, l.map (rpC b y)) :: rpT b y r
def rpS (b : Nat) (y : C) : SV → SV
  | .c x => .c (rpC b y x)
  | .agg l => .agg (l.map (rpC b y))
  | .tup l => .tup (rpT b y l)
  | .un => .un
def rpF (b : Nat) (y : C) : List (Nat × SV) → List (Nat × SV)
  | [] => []
  | (t, s) :: r => (t, rpS b y s) :: rpF b y r

section
variable {x : Cx} {b : Nat} {y : C}
theorem rpC_sound (hy : ∀ v, RC x (.row b) v → RC x y v) {c : C} {v : Value} (h : RC x c v) : RC x (rpC b y c) v := by
  unfold rpC
  split
  · split
    · rename_i e
      have e := Nat.eq_of_beq_eq_true e
      subst e
      exact hy v h
    · exact h
  · exact h
theorem rpL_sound (hy : ∀ v, RC x (.row b) v → RC x y v) : ∀ {l : List C} {m : List Value}, RL (RC x) l m → RL (RC x) (l.map (rpC b y)) m
  | [], [], _ => trivial
  | _ :: _, _ :: _, ⟨h1, h2⟩ => ⟨rpC_sound hy h1, rpL_sound hy h2⟩
  | [], _ :: _, h => h.elim
  | _ :: _, [], h => h.elim
theorem rpT_sound (hy : ∀ v, RC x (.row b) v → RC x y v) : ∀ {l : List (Bool × List C)} {m : List Value}, RL (RP x) l m → RL (RP x) (rpT b y l) m
  | [], [], _ => trivial
  | (g, l) :: _, _ :: _, ⟨h1, h2⟩ => by
    refine ⟨?_, rpT_sound hy h2⟩
    unfold RP at *
    cases g with
    | true =>
      simp only [if_true] at h1 ⊢
      obtain ⟨vs, e, h⟩ := h1
      exact ⟨vs, e, rpL_sound hy h⟩
    | false =>
      simp only [Bool.false_eq_true, if_false] at h1 ⊢
      obtain ⟨y, rfl, h⟩ := h1
      exact ⟨_, rfl, rpC_sound hy h⟩
  | [], _ :: _, h => h.elim
  | _ :: _, [], h => h.elim
theorem rpS_sound (hy : ∀ v, RC x (.row b) v → RC x y v) {s : SV} {v : Value} (h : RS x s v) : RS x (rpS b y s) v := by
  cases s with
  | c x => exact rpC_sound hy h
  | agg l => obtain ⟨vs, e, h⟩ := h; exact ⟨vs, e, rpL_sound hy h⟩
  | tup l => obtain ⟨vs, e, h⟩ := h; exact ⟨vs, e, rpT_sound hy h⟩
  | un => trivial
theorem lk_rpF : ∀ (fr : List (Nat × SV)) (t : Nat), lk (rpF b y fr) t = (lk fr t).map (rpS b y)
  | [], _ => rfl
  | (c, s) :: r, t => by
    simp only [rpF, lk]
    split
    · rfl
    · exact lk_rpF r t
end

/-- AN OWN ROW THAT IS NOT EMPTY: what its capacity is, is a number from here on. -/
theorem open_rule {E : En} {cur : FI} {t : List It} {fr : List (Nat × SV)} {hp : List (Nat × Ob)} {nx : Nat} {stk : List Fm} {b : Nat} {T : TypeId} {d : D} {xs : List d.T} (hb : lk hp b = some (.row T d xs)) (hne : xs.length ≠ 0)
    (hm : ∀ c, xs.length ≤ c → c ≤ 9223372036854775807 → Mean E cur t ⟨rpF b (.sub b 0 d.sz xs.length c) fr, (b, .wid T d xs c) :: rm hp b, nx⟩ stk) : Mean E cur t ⟨fr, hp, nx⟩ stk := by
  intro w0 η S a w hS hR
  have hH := hR.1.1
  obtain ⟨cs, r1, r2, r3⟩ := hH.obs b _ hb
  have r1 : (η b).1 = (η b).2.ownBlock := r1
  have r2 : w.ownsRow 0 T d.sz (η b).2 xs.length cs := r2
  rcases r2.2 with ⟨_, h0⟩ | ⟨g, cap, cur', hv, _, hg, hc1, hc2, hc3, hc4⟩
  · exact (hne h0).elim
  have hg1 : (η b).1 = some g := by rw [r1, hv]; rfl
  have hdom : ∀ c, (lk ((b, Ob.wid T d xs cap) :: rm hp b) c ≠ none) = (lk hp c ≠ none) := fun c => by
    rw [lk_put, eq_iff_iff]
    by_cases hc : c = b
    · subst hc; simp [hb]
    · simp [hc]
  have hok : okS w0 ((b, Ob.wid T d xs cap) :: rm hp b) η w = okS w0 hp η w := by funext k; simp only [okS, hdom]
  have hcx : cxS w0 ((b, Ob.wid T d xs cap) :: rm hp b) (lt nx) η w = cxS w0 hp (lt nx) η w := by unfold cxS; rw [hok]
  have hy : ∀ v, RC (cxS w0 hp (lt nx) η w) (.row b) v → RC (cxS w0 hp (lt nx) η w) (.sub b 0 d.sz xs.length cap) v := fun v ⟨h1, h2, _⟩ => by
    have h2 : v = (η b).2 := h2
    exact ⟨h1, hc1, hc2, g, 0, hg1, by rw [h2, hv], fun _ => by simp⟩
  refine hm cap hc1 (by simpa only [maxLen_eq] using hc2) w0 η S a w hS ⟨⟨⟨fun c o ho => ?_, fun c e k h1 h2 => hH.sep c e k (by rw [← hdom]; exact h1) (by rw [← hdom]; exact h2), fun c k h1 => hH.new c k (by rw [← hdom]; exact h1), fun c h1 => hH.nxt c (by rw [← hdom]; exact h1), hH.bel⟩, hR.1.2⟩, ?_, fun p hp => ⟨?_, (hR.2.2 p hp).2⟩⟩
  · rw [hcx]
    rw [lk_put] at ho
    by_cases hc : c = b
    · subst hc
      simp only [if_true, Option.some.injEq] at ho
      subst ho
      exact ⟨g, cur', hg1, hg, hc3, hc1, hc2, by rw [hc4]; exact r3⟩
    · simp only [hc, if_false] at ho
      exact hH.obs c o ho
  · rw [hcx]
    refine ⟨fun t' sv ht => ?_, hR.2.1.siz, hR.2.1.dfr⟩
    rw [lk_rpF] at ht
    cases h : lk fr t' with
    | none => rw [h] at ht; cases ht
    | some s =>
      rw [h] at ht
      simp only [Option.map_some, Option.some.injEq] at ht
      subst ht
      obtain ⟨v, h1, h2⟩ := hR.2.1.sl t' s h
      exact ⟨v, h1, rpS_sound hy h2⟩
  · rw [hcx]
    exact (hR.2.2 p hp).1

/-- a call's operation comes to the call, whatever is called -/
theorem run_cl {E : En} {x : Cx} {g : Operand → SV} {ρ : Operand → Value} (hg : ∀ o, RS x (g o) (ρ o)) {o : Oper} {f : Nat} {args : List SV} (h : cl g o.op = some (f, args)) :
    ∃ vs : Array Value, RL (RS x) args vs.toList ∧ ∀ w, (execOp ρ o).run E.P w = (callFunc f vs).run E.P w := by
  unfold cl at h
  split at h
  · rename_i c ho
    split at h
    · rename_i X hc
      split at h
      · rename_i f' caps hX
        simp only [Option.some.injEq, Prod.mk.injEq] at h
        obtain ⟨rfl, rfl⟩ := h
        have hx := hg X
        rw [hX] at hx
        obtain ⟨cs, e, hcs⟩ := hx
        refine ⟨c.args.map ρ ++ cs, ?_, fun w => ?_⟩
        · rw [Array.toList_append]
          refine RL.app ?_ ?_
          · have := rl_map hg c.args.toList
            simpa using this
          · exact caps_rs hcs
        · simp only [execOp, ho, resolve, hc, e, Deferred.ofValue, invoke, Sem.run_bind, Sem.run_pure, Result.andThen_ok, Array.empty_append]
      · rename_i f' b off hX
        simp only [Option.some.injEq, Prod.mk.injEq] at h
        obtain ⟨rfl, rfl⟩ := h
        have hx := hg X
        rw [hX] at hx
        obtain ⟨g1, k, g2, e⟩ := hx
        refine ⟨#[.pointer (some ⟨k, off, none⟩)] ++ c.args.map ρ, ?_, fun w => ?_⟩
        · rw [Array.toList_append]
          refine ⟨⟨g1, k, g2, rfl⟩, ?_⟩
          have := rl_map hg c.args.toList
          simpa using this
        · simp only [execOp, ho, resolve, hc, e, Deferred.ofValue, invoke, Sem.run_bind, Sem.run_pure, Result.andThen_ok, Array.append_empty]
      · cases h
    · cases h
  · cases h

theorem rl_two {x : Cx} {s t : SV} {vs : Array Value} (h : RL (RS x) [s, t] vs.toList) : ∃ v u, vs = #[v, u] ∧ RS x s v ∧ RS x t u := by
  obtain ⟨l⟩ := vs
  match l, h with
  | [v, u], ⟨h1, h2, _⟩ => exact ⟨v, u, rfl, h1, h2⟩

/-- slices.overlaps, at a row of the call's own and a part of another one -/
theorem ovl_rule {E : En} (hE : EnOk E) {cur : FI} {f : Nat} {fn : Func} {all : Array Oper} {o : Oper} {l : List Oper} {r : List It} {fr : List (Nat × SV)} {hp : List (Nat × Ob)} {nx : Nat} {stk : List Fm} {tS tR e T2 T : TypeId} {i : TI} {b2 b o1 sz n c c0 : Nat} {d2 d : D} {ys : List d2.T} {xs : List d.T}
    (hf : E.P.funcs[f]? = some fn) (hname : (fn.name == "runtime.NumGoroutine") = false) (hb : fn.body.isNone = true) (hn : Extern.findNext fn = none) (he : Extern.find fn = some (Extern.SlicesOverlaps.overlaps #[tS, tS] #[tR])) (hi : E.ti tS = some i) (hk : i.tk = .slice e) (hes : (sz? E.ti e).isSome = true)
    (h2 : lk hp b2 = some (.row T2 d2 ys)) (h1 : lk hp b = some (.wid T d xs c0)) (hne : Nat.beq b2 b = false) (hy : ys.length ≠ 0) (hx : xs.length ≠ 0)
    (hm : Mean E cur (.ops all l :: r) ⟨putF cur.nt fr o.dst (.c (.bool .ff)), hp, nx⟩ stk) : CallOk E cur f [.c (.row b2), .c (.sub b o1 sz n c)] all o l r ⟨fr, hp, nx⟩ stk := by
  refine ⟨?_⟩
  rintro ⟨args0, hcl, ha⟩
  refine (stuck_rule (o := o) fun w0 η S a w hR => ?_).out
  obtain ⟨vs, hvs, hrun⟩ := run_cl (E := E) (ev_sound hR.2.1) (o := ⟨o.dst, o.op, o.type, o.pos, o.after, none⟩) hcl
  have hvs := nzs_sound hvs
  rw [← ha] at hvs
  obtain ⟨v, u, rfl, ⟨g1, g2, _⟩, ⟨_, _, _, k, o', gk, gu, _⟩⟩ := rl_two hvs
  have hH := hR.1.1
  obtain ⟨cs, r1, r2, r3⟩ := hH.obs b2 _ h2
  have r1 : (η b2).1 = (η b2).2.ownBlock := r1
  have r2 : w.ownsRow 0 T2 d2.sz (η b2).2 ys.length cs := r2
  have g2 : v = (η b2).2 := g2
  rcases r2.2 with ⟨_, h0⟩ | ⟨g, cap, cur2, hv, _, hg, hc1, hc2, hc3, hc4⟩
  · exact (hy h0).elim
  obtain ⟨k3, cur3, hk3, hcur, hcs3, hlc, hcm', hf3⟩ := hH.obs b _ h1
  have hkk : k3 = k := by have : some k3 = some k := hk3.symm.trans gk; simpa using this
  subst hkk
  have hgk : g ≠ k3 := fun e => by
    have hb2 : (η b2).1 = some g := by rw [r1, hv]; rfl
    have := hH.sep b2 b g (by rw [h2]; simp) (by rw [h1]; simp) hb2 (by rw [e]; exact hk3)
    subst this
    simp at hne
  have is := hE.tab.is hi
  have hu : E.P.underlying tS = some (.slice e) := by
    have := is.tk
    rw [hk] at this
    exact tk_slice this
  obtain ⟨sze, hsze⟩ := Option.isSome_iff_exists.1 hes
  obtain ⟨ie, hie, hie2⟩ := sz_some hsze
  obtain ⟨j, hj, hjs, _⟩ := (hE.tab.is hie).info
  have hcur0 : cur3.size ≠ 0 := by
    rw [hcs3]
    exact Nat.mul_ne_zero (by omega) (by have := D.sz_pos d; omega)
  have hov := Lib.run_overlaps_apart (P := E.P) w tS tR e hu sze (fun w' => by simp [Go.sizeOf, typeInfo, hj, hjs, hie2]) ⟨g, 0, none⟩ ⟨k3, o', none⟩ ys.length cap n c hgk T2 T cur2.size cur3.size (by simp [World.shape?, hg]) (by have : w.heap[k3]? = some (.cells cur3 T (0, 0)) := hcur; simp only [World.shape?, this]) hcur0
    (by simp [World.frozen?, hg]) (by have : w.heap[g]? = some (.cells cur2 T2 (0, 0)) := hg; simp only [World.frozen?, this]; simp)
  refine ⟨.c (.bool .ff), .bool false, w, η, hp, nx, ?_, hH, Cx.le.refl _, rfl, hm⟩
  rw [hrun, run_callFunc_extern hf hname hb hn he, g2, hv, gu, hov]
  rfl

/-- the machine's own comparison of two texts -/
theorem cmps_rule {E : En} {cur : FI} {f : Nat} {fn : Func} {all : Array Oper} {o : Oper} {l : List Oper} {r : List It} {fr : List (Nat × SV)} {hp : List (Nat × Ob)} {nx : Nat} {stk : List Fm} {a b : List UInt8}
    (hf : E.P.funcs[f]? = some fn) (hname : (fn.name == "runtime.NumGoroutine") = false) (hb : fn.body.isNone = true) (hn : Extern.findNext fn = none) (he : Extern.find fn = some Extern.BytealgCompare.compare)
    (hm : Mean E cur (.ops all l :: r) ⟨putF cur.nt fr o.dst (.c (.int .i64 (Lib.compareBytes a b))), hp, nx⟩ stk) : CallOk E cur f [.c (.str a), .c (.str b)] all o l r ⟨fr, hp, nx⟩ stk := by
  refine ⟨?_⟩
  rintro ⟨args0, hcl, ha⟩
  refine (stuck_rule (o := o) fun w0 η S ac w hR => ?_).out
  obtain ⟨vs, hvs, hrun⟩ := run_cl (E := E) (ev_sound hR.2.1) (o := ⟨o.dst, o.op, o.type, o.pos, o.after, none⟩) hcl
  have hvs := nzs_sound hvs
  rw [← ha] at hvs
  obtain ⟨v, u, rfl, gv, gu⟩ := rl_two hvs
  have gv := rs_str gv
  have gu := rs_str gu
  refine ⟨.c (.int .i64 (Lib.compareBytes a b)), .int .i64 (Lib.compareBytes a b), w, η, hp, nx, ?_, hR.1.1, Cx.le.refl _, rfl, hm⟩
  rw [hrun, run_callFunc_extern hf hname hb hn he, gv, gu, Lib.run_compareString]
  rfl
end OE

/- OE, part 20: contracts whose results are memory of their own. Own work; generic over the program. -/
set_option linter.unusedVariables false
namespace OE
open Go Go.RowKit

/-! ### names shifted -/

def shC (n : Nat) : C → C
  | .ptr b o => .ptr (b + n) o
  | .prw b i s o => .prw (b + n) i s o
  | .row b => .row (b + n)
  | .mp b => .mp (b + n)
  | .chn b => .chn (b + n)
  | .csl b k => .csl (b + n) k
  | .sub b o s k c => .sub (b + n) o s k c
  | .fn f l => .fn f (l.map fun p => (p.1 + n, p.2))
  | .bm f b o => .bm f (b + n) o
  | c => c
def shL (n : Nat) : List C → List C
  | [] => []
  | c :: l => shC n c :: shL n l
def shT (n : Nat) : List (Bool × List C) → List (Bool × List C)
  | [] => []
  | (b, c) :: l => (b, shL n c) :: shT n l
def shS (n : Nat) : SV → SV
  | .c x => .c (shC n x)
  | .agg l => .agg (shL n l)
  | .tup l => .tup (shT n l)
  | .un => .un
def shO (n : Nat) : Ob → Ob
  | .cells T l => .cells T (shL n l)
  | .lmp T k es => .lmp T k (es.map fun p => (p.1, shS n p.2))
  | .itr m k s => .itr (m + n) k s
  | o => o
/-- objects under shifted names, ahead of others -/
def shH (n : Nat) (tl : List (Nat × Ob)) : List (Nat × Ob) → List (Nat × Ob)
  | [] => tl
  | (b, o) :: r => (b + n, shO n o) :: shH n tl r

theorem lk_shH (n : Nat) (tl : List (Nat × Ob)) : ∀ (hp : List (Nat × Ob)) (c : Nat), lk (shH n tl hp) c = (if n ≤ c then (match lk hp (c - n) with | some o => some (shO n o) | none => lk tl c) else lk tl c)
  | [], c => by simp [shH, lk]
  | (b, o) :: r, c => by
    simp only [shH, lk, lk_shH n tl r c]
    by_cases h : n ≤ c
    · rw [if_pos h, if_pos h]
      by_cases e : c = b + n
      · have : c - n = b := by omega
        rw [if_pos e, if_pos this]
      · have : c - n ≠ b := by omega
        rw [if_neg e, if_neg this]
    · have : c ≠ b + n := by omega
      rw [if_neg h, if_neg h, if_neg this]

structure Sh (n : Nat) (x y : Cx) : Prop where
  w : y.w = x.w
  ok : ∀ k, x.ok k → y.ok k
  nm : ∀ b, x.nm b → y.nm (b + n)
  eta : ∀ b, x.nm b → y.η (b + n) = x.η b

section
variable {n : Nat} {x y : Cx}
theorem Sh.rd (h : Sh n x y) {d : D} {z : d.T} {cs : List Value} (hr : Rd x.w x.ok d z cs) : Rd y.w y.ok d z cs := Rd.mono h.ok (fun _ _ => by rw [h.w]) hr
theorem shC_sound (h : Sh n x y) : ∀ {c : C} {v : Value}, RC x c v → RC y (shC n c) v
  | .int _ _, _, h' => h'
  | .bool _, _, h' => h'
  | .str _, _, h' => h'
  | .ptr b off, _, ⟨h1, k, h2, h3⟩ => ⟨h.nm _ h1, k, by rw [h.eta b h1]; exact h2, h3⟩
  | .pel d _ off, _, ⟨k, o, cells, T, fz, cs, h1, h2, h3, h4, h5⟩ => ⟨k, o, cells, T, fz, cs, h1, h.ok k h2, by rw [h.w]; exact h3, h.rd h4, h5⟩
  | .prw b _ _ _, _, ⟨h1, k, h2, h3⟩ => ⟨h.nm _ h1, k, by rw [h.eta b h1]; exact h2, h3⟩
  | .row b, _, ⟨h1, h2, h3⟩ => ⟨h.nm _ h1, by rw [h.eta b h1]; exact h2, h3⟩
  | .dat d _, _, h' => by
    have h' : Rd x.w x.ok (.list d) _ _ := h'
    exact (h.rd h' : Rd y.w y.ok (.list d) _ _)
  | .val _, _, h' => h'
  | .fn f caps, _, ⟨vs, e, h'⟩ => by
    refine ⟨vs, e, ?_⟩
    generalize vs.toList = l at h'
    clear e
    induction caps generalizing l with
    | nil => cases l with
      | nil => trivial
      | cons => exact h'.elim
    | cons p caps ih =>
      cases l with
      | nil => exact h'.elim
      | cons u l =>
        obtain ⟨⟨h1, k, h2, h3⟩, h4⟩ := h'
        exact ⟨⟨h.nm _ h1, k, by rw [h.eta _ h1]; exact h2, h3⟩, ih l h4⟩
  | .bm _ b _, _, ⟨h1, k, h2, h3⟩ => ⟨h.nm _ h1, k, by rw [h.eta b h1]; exact h2, h3⟩
  | .mp b, _, ⟨h1, k, h2, h3⟩ => ⟨h.nm _ h1, k, by rw [h.eta b h1]; exact h2, h3⟩
  | .chn b, _, ⟨h1, k, h2, h3⟩ => ⟨h.nm _ h1, k, by rw [h.eta b h1]; exact h2, h3⟩
  | .csl b _, _, ⟨h1, k, h2, h3⟩ => ⟨h.nm _ h1, k, by rw [h.eta b h1]; exact h2, h3⟩
  | .glb _, _, h' => h'
  | .sub b _ _ _ _, _, ⟨h1, g1, g2, k, o', h2, h3⟩ => ⟨h.nm _ h1, g1, g2, k, o', by rw [h.eta b h1]; exact h2, h3⟩
theorem shL_sound (h : Sh n x y) : ∀ {l : List C} {m : List Value}, RL (RC x) l m → RL (RC y) (shL n l) m
  | [], [], _ => trivial
  | _ :: _, _ :: _, ⟨h1, h2⟩ => ⟨shC_sound h h1, shL_sound h h2⟩
  | [], _ :: _, h' => h'.elim
  | _ :: _, [], h' => h'.elim
theorem shT_sound (h : Sh n x y) : ∀ {l : List (Bool × List C)} {m : List Value}, RL (RP x) l m → RL (RP y) (shT n l) m
  | [], [], _ => trivial
  | (g, l) :: _, _ :: _, ⟨h1, h2⟩ => by
    refine ⟨?_, shT_sound h h2⟩
    unfold RP at *
    cases g with
    | true =>
      simp only [if_true] at h1 ⊢
      obtain ⟨vs, e, h'⟩ := h1
      exact ⟨vs, e, shL_sound h h'⟩
    | false =>
      simp only [Bool.false_eq_true, if_false] at h1 ⊢
      obtain ⟨y, rfl, h'⟩ := h1
      exact ⟨_, rfl, shC_sound h h'⟩
  | [], _ :: _, h' => h'.elim
  | _ :: _, [], h' => h'.elim
theorem shS_sound (h : Sh n x y) {s : SV} {v : Value} (h' : RS x s v) : RS y (shS n s) v := by
  cases s with
  | c x => exact shC_sound h h'
  | agg l => obtain ⟨vs, e, h'⟩ := h'; exact ⟨vs, e, shL_sound h h'⟩
  | tup l => obtain ⟨vs, e, h'⟩ := h'; exact ⟨vs, e, shT_sound h h'⟩
  | un => trivial
theorem shO_sound (h : Sh n x y) {b : Nat} (hb : x.nm b) : ∀ {o : Ob}, RO x b o → RO y (b + n) (shO n o)
  | .cells T l, ⟨k, vs, h1, h2, h3⟩ => ⟨k, vs, by rw [h.eta b hb]; exact h1, by rw [h.w]; exact h2, shL_sound h h3⟩
  | .lmp T k es, ⟨r, arr, h1, h2, h3, h4, h5, h6⟩ => by
    refine ⟨r, arr, by rw [h.eta b hb]; exact h1, by rw [h.w]; simpa using h2, ?_, h4, fun p hp => ?_, ?_⟩
    · clear h1 h2 h4 h5 h6
      generalize arr.toList = l at h3
      induction es generalizing l with
      | nil => cases l with
        | nil => trivial
        | cons => exact h3.elim
      | cons p es ih =>
        cases l with
        | nil => exact h3.elim
        | cons u l => exact ⟨⟨h3.1.1, shS_sound h h3.1.2⟩, ih l h3.2⟩
    · obtain ⟨q, hq, rfl⟩ := List.mem_map.1 hp
      exact h5 q hq
    · rw [List.pairwise_map]; exact h6
  | .dmp T kd vd es, ⟨r, arr, h1, h2, h3, h4⟩ => ⟨r, arr, by rw [h.eta b hb]; exact h1, by rw [h.w]; exact h2, h3, h4⟩
  | .wid T d xs c, ⟨k, cur, h1, h2, h3, h4, h5, h6⟩ => ⟨k, cur, by rw [h.eta b hb]; exact h1, by rw [h.w]; exact h2, h3, h4, h5, RdF.imp (fun _ _ => h.rd) h6⟩
  | .chan cap d xs s r, ⟨k, h1, h2⟩ => ⟨k, by rw [h.eta b hb]; exact h1, by rw [h.w]; exact h2⟩
  | .itr m k seen, ⟨r, q, h1, h2, h3, h4⟩ => ⟨r, q, by rw [h.eta b hb]; exact h1, h.nm _ h2, by rw [h.eta m h2]; exact h3, by rw [h.w]; exact h4⟩
  | .row T d xs, ⟨cs, h1, h2, h3⟩ => ⟨cs, by rw [h.eta b hb]; exact h1, by rw [h.eta b hb, h.w]; exact h2, RdF.imp (fun _ _ => h.rd) h3⟩
end

/-! ### the contract -/

/-- A FUNCTION's CONTRACT: data go in; what comes out holds memory of its own, that nobody else has. -/
def FnO (P : Program) (f : Nat) (args : List SV) (s : SV) (hp : List (Nat × Ob)) (n : Nat) : Prop :=
  (∃ fn, P.funcs[f]? = some fn ∧ fn.body.isSome = true ∧ (fn.name == "runtime.NumGoroutine") = false) ∧
  ∀ w ok (vs : Array Value), OkW w ok → RL (RS (DX w ok)) args vs.toList →
    Calls P f vs w fun e w' => ∃ v η, e = .returned v ∧ RepH ⟨w, ok, fun _ => False⟩ hp (lt n) η w' ∧ RS (cxS ⟨w, ok, fun _ => False⟩ hp (lt n) η w') s v

/-- what such a run comes to -/
def PostO (s : SV) (hp : List (Nat × Ob)) (n : Nat) (r : SV) (st : St) : Prop := sub ⟨[(0, s)], hp, n⟩ ⟨[(0, r)], st.hp, st.nx⟩ []

/-- THE CONTRACT, BY A RUN over abstract states. -/
theorem fno_of {E : En} {fi : FI} {f : Nat} {c : Code} {args : List SV} {s : SV} {hp : List (Nat × Ob)} {n : Nat} (hf : E.P.funcs[f]? = some fi.fn) (hb : fi.fn.body = some c) (hn : (fi.fn.name == "runtime.NumGoroutine") = false) (ht : fi.fn.ntmps = fi.nt)
    (hr : fi.fn.results.toList = fi.res) (hl : args.length ≤ fi.nt) (hp0 : E.post = PostO s hp n) (hm : Mean E fi [.code c] ⟨num args 0, [], 0⟩ []) : FnO E.P f args s hp n := by
  refine ⟨⟨fi.fn, hf, by rw [hb]; rfl, hn⟩, fun w ok vs hok hvs => ?_⟩
  refine calls_of_wp hf hb ?_
  have hle : (DX w ok).le (cxS ⟨w, ok, fun _ => False⟩ [] (lt 0) (fun _ => (none, undef)) w) :=
    ⟨fun _ h => h.elim, fun _ h => h.elim, fun k hk => ⟨⟨hok.lt k hk, fun _ => hk⟩, fun b h => absurd rfl h⟩, fun _ _ => rfl⟩
  have hF := enter_rep (x := cxS ⟨w, ok, fun _ => False⟩ [] (lt 0) (fun _ => (none, undef)) w) (RL.imp (fun _ _ => RS.mono hle) hvs) hl
  rw [← ht] at hF
  refine wp_mono (hm ⟨w, ok, fun _ => False⟩ (fun _ => (none, undef)) [] _ w rfl ⟨⟨⟨fun _ _ h => by simp [lk] at h, fun _ _ _ h => absurd rfl h, fun _ _ h => absurd rfl h, fun _ h => absurd rfl h, BelO.refl _ hok.gl⟩, hr⟩, by rw [← ht]; exact hF, fun _ h => by cases h⟩) ?_
  intro e a' w' hq
  have fin : RR E.P ⟨w, ok, fun _ => False⟩ (Fin ⟨w, ok, fun _ => False⟩ E.post) fi [] a' w' → a'.defers = [] ∧ ∃ v, (results fi.fn a'.tmps).run E.P w' = .ok v w' ∧
      (∃ v' η, (Ending.returned v : Ending) = .returned v' ∧ RepH ⟨w, ok, fun _ => False⟩ hp (lt n) η w' ∧ RS (cxS ⟨w, ok, fun _ => False⟩ hp (lt n) η w') s v') := by
    rintro ⟨h1, v, h2, η, sv, st, h3, h4, h5⟩
    refine ⟨h1, v, h2, v, ?_⟩
    rw [hp0] at h5
    have hR : RepA ⟨w, ok, fun _ => False⟩ ⟨fi.fn, 1, fi.res⟩ ⟨[(0, sv)], st.hp, st.nx⟩ [] η { a' with tmps := #[v], defers := [] } w' := by
      refine ⟨⟨h3, hr⟩, ⟨fun t sv' ht => ?_, rfl, rfl⟩, fun _ h => by cases h⟩
      simp only [lk] at ht
      split at ht
      · rename_i e
        cases ht
        subst e
        exact ⟨v, rfl, h4⟩
      · cases ht
    obtain ⟨η', hR'⟩ := sub_sound h5 rfl hR
    obtain ⟨u, hu, hv⟩ := hR'.2.1.sl 0 s rfl
    have : u = v := by simpa using hu.symm
    subst this
    exact ⟨η', rfl, hR'.1.1, hv⟩
  cases e with
  | normal => exact fin hq
  | ret => exact fin hq
  | exit id => exact hq.elim
  | goto l => exact hq.elim
  | panic ch => exact hq.elim
  | outgrown => exact hq.elim

/-- A CALL, by such a contract: what comes out has names from here on. -/
theorem callo_rule {E : En} {cur : FI} {f : Nat} {args : List SV} {all : Array Oper} {o : Oper} {l : List Oper} {r : List It} {st : St} {stk : List Fm} {s : SV} {hp : List (Nat × Ob)} {n : Nat} (hF : FnO E.P f args s hp n) (hd : args.all isDs = true)
    (hk : Mean E cur (.ops all l :: r) ⟨putF cur.nt st.fr o.dst (shS st.nx s), shH st.nx st.hp hp, n + st.nx⟩ stk) : CallOk E cur f args all o l r st stk := by
  refine ⟨?_⟩
  rintro ⟨args0, hcl, rfl⟩ z η S a w hS hR
  obtain ⟨⟨fn, hf1, hf2, hf3⟩, hF⟩ := hF
  obtain ⟨vs, hvs, hrun⟩ := run_call (E := E) (ev_sound hR.2.1) hcl hf1 hf2 hf3
  have hvs := nzs_sound hvs
  simp only [TW, wpList, Region.wanted, if_true]
  left
  unfold Oper.wp
  have hexec : execOp a.eval ⟨o.dst, o.op, o.type, o.pos, o.after, none⟩ = execOp a.eval o := rfl
  rw [hexec, hrun, Oper.upon_enter]
  have hargs : RL (RS (DX w (okS z st.hp η w))) (args0.map nzS) vs.toList := rls_data (x := cxS z st.hp (lt st.nx) η w) (y := DX w (okS z st.hp η w)) (fun _ h => h) (fun _ _ => rfl) hd hvs
  refine (hF w (okS z st.hp η w) vs (OkW.of hR.1.1) hargs).mono ?_
  rintro e w' ⟨v, ηe, rfl, hE, hv⟩
  have hH := hR.1.1
  let η' : Nat → Option Nat × Value := fun b => if b < st.nx then η b else ηe (b - st.nx)
  let hp' := shH st.nx st.hp hp
  have hcase : ∀ c o', lk hp' c = some o' → (∃ b ob, c = b + st.nx ∧ lk hp b = some ob ∧ o' = shO st.nx ob) ∨ (c < st.nx ∧ lk st.hp c = some o') := fun c o' h => by
    have h : lk (shH st.nx st.hp hp) c = some o' := h
    rw [lk_shH] at h
    split at h
    · rename_i hle
      split at h
      · rename_i ob hob
        cases h
        exact .inl ⟨c - st.nx, ob, by omega, hob, rfl⟩
      · exact .inr ⟨hH.nxt c (by rw [h]; simp), h⟩
    · rename_i hle
      exact .inr ⟨by omega, h⟩
  have hin : ∀ c, lk hp' c ≠ none → (∃ b, c = b + st.nx ∧ lk hp b ≠ none) ∨ (c < st.nx ∧ lk st.hp c ≠ none) := fun c h => by
    cases ho : lk hp' c with
    | none => exact (h ho).elim
    | some o' =>
      rcases hcase c o' ho with ⟨b, ob, h1, h2, _⟩ | ⟨h1, h2⟩
      · exact .inl ⟨b, h1, by rw [h2]; simp⟩
      · exact .inr ⟨h1, by rw [h2]; simp⟩
  have e1 : ∀ c, c < st.nx → η' c = η c := fun c h => if_pos h
  have e2 : ∀ b, η' (b + st.nx) = ηe b := fun b => by
    show (if b + st.nx < st.nx then η (b + st.nx) else ηe (b + st.nx - st.nx)) = _
    rw [if_neg (by omega), Nat.add_sub_cancel]
  have hnewE : ∀ b k, lk hp b ≠ none → (ηe b).1 = some k → w.heap.size ≤ k ∧ k < w'.heap.size := fun b k h1 h2 => let h := hE.new b k h1 h2; ⟨Nat.not_lt.1 fun h' => h.1 ⟨h', id⟩, h.2⟩
  have hBel : Below w.heap.size w w' := hE.bel.out fun _ => id
  have hle : (cxS z st.hp (lt st.nx) η w).le (cxS z hp' (lt (n + st.nx)) η' w') := by
    refine ⟨fun b hb => e1 b hb, fun b hb => ?_, fun k hk => ⟨⟨Nat.lt_of_lt_of_le hk.1.1 hE.bel.size, hk.1.2⟩, fun c hc he => ?_⟩, fun k hk => hBel.block k hk.1.1⟩
    · have : b < st.nx := hb
      show b < n + st.nx
      omega
    · rcases hin c hc with ⟨b, rfl, hb⟩ | ⟨h1, h2⟩
      · rw [e2] at he
        have := (hnewE b k hb he).1
        have h1 : k < w.heap.size := hk.1.1
        omega
      · rw [e1 c h1] at he
        exact hk.2 c h2 he
  have hSh : Sh st.nx (cxS ⟨w, okS z st.hp η w, fun _ => False⟩ hp (lt n) ηe w') (cxS z hp' (lt (n + st.nx)) η' w') := by
    refine ⟨rfl, fun k hk => ⟨⟨hk.1.1, fun hlt => ?_⟩, fun c hc he => ?_⟩, fun b hb => ?_, fun b _ => e2 b⟩
    · have : k < w.heap.size := Nat.lt_of_lt_of_le hlt.1 hH.bel.size
      exact (hk.1.2 ⟨this, id⟩).1.2 hlt
    · rcases hin c hc with ⟨b, rfl, hb⟩ | ⟨h1, h2⟩
      · rw [e2] at he
        exact hk.2 b hb he
      · rw [e1 c h1] at he
        have h3 := (hH.new c k h2 he).2
        exact (hk.1.2 ⟨h3, id⟩).2 c h2 he
    · have : b < n := hb
      show b + st.nx < n + st.nx
      omega
  have hRH : RepH z hp' (lt (n + st.nx)) η' w' := by
    refine ⟨fun c o' ho => ?_, fun c d k hc hd hck hdk => ?_, fun c k hc hk => ?_, fun c hc => ?_, ?_⟩
    · rcases hcase c o' ho with ⟨b, ob, rfl, h2, rfl⟩ | ⟨h1, h2⟩
      · exact shO_sound hSh (hE.nxt b (by rw [h2]; simp)) (hE.obs b ob h2)
      · exact RO.mono hle h1 (fun k hk => hBel.block k (hH.new c k (by rw [h2]; simp) hk).2) (hH.obs c o' h2)
    · rcases hin c hc with ⟨b, rfl, hb⟩ | ⟨h1, h2⟩
      · rw [e2] at hck
        rcases hin d hd with ⟨b2, rfl, hb2⟩ | ⟨g1, g2⟩
        · rw [e2] at hdk
          rw [hE.sep b b2 k hb hb2 hck hdk]
        · rw [e1 d g1] at hdk
          have := (hnewE b k hb hck).1
          have := (hH.new d k g2 hdk).2
          omega
      · rw [e1 c h1] at hck
        rcases hin d hd with ⟨b2, rfl, hb2⟩ | ⟨g1, g2⟩
        · rw [e2] at hdk
          have := (hnewE b2 k hb2 hdk).1
          have := (hH.new c k h2 hck).2
          omega
        · rw [e1 d g1] at hdk
          exact hH.sep c d k h2 g2 hck hdk
    · rcases hin c hc with ⟨b, rfl, hb⟩ | ⟨h1, h2⟩
      · rw [e2] at hk
        have h3 := hnewE b k hb hk
        exact ⟨W0.new (Nat.le_trans hH.bel.size h3.1), h3.2⟩
      · rw [e1 c h1] at hk
        have h3 := hH.new c k h2 hk
        exact ⟨h3.1, Nat.lt_of_lt_of_le h3.2 hE.bel.size⟩
    · rcases hin c hc with ⟨b, rfl, hb⟩ | ⟨h1, h2⟩
      · have : b < n := hE.nxt b hb
        show b + st.nx < n + st.nx
        omega
      · show c < n + st.nx
        omega
    · exact hH.bel.below hBel
  have hR' := hR.heap hRH hle
  exact hk z η' S _ w' hS (hR'.fr (putF_sound hR'.2.1 (shS_sound hSh hv)))

/-- what comes out may be told as data -/
theorem FnO.dat {P : Program} {f : Nat} {args : List SV} {s s' : SV} {hp : List (Nat × Ob)} {n : Nat} (h : FnO P f args s hp n) (hs : cvS hp s = some s') : FnD P f args (· = s') := by
  refine ⟨h.1, fun w ok vs hok hvs => (h.2 w ok vs hok hvs).mono ?_⟩
  rintro e w' ⟨v, η, rfl, h3, h4⟩
  refine ⟨s', v, rfl, rfl, cvS_sound (ok := fun k => (ok k ∨ w.heap.size ≤ k) ∧ k < w'.heap.size) h3 (fun k hk => ⟨?_, hk.1.1⟩) (fun k h1 h2 => ⟨.inr (Nat.not_lt.1 fun h => h1 ⟨h, id⟩), h2⟩) hs h4, h3.bel.out fun _ => id⟩
  by_cases hlt : k < w.heap.size
  · exact .inl (hk.1.2 ⟨hlt, id⟩)
  · exact .inr (by omega)

/-! ### a list, told equal to nil -/

def isNeq : BinOp → Option Bool
  | .eql => some false
  | .neq => some true
  | _ => none

/-- a list that is nil is empty -/
theorem nilq_rule {E : En} (hE : EnOk E) {cur : FI} {all : Array Oper} {o : Oper} {l : List Oper} {r : List It} {fr : List (Nat × SV)} {hp : List (Nat × Ob)} {nx : Nat} {stk : List Fm} {op : BinOp} {t rt e : TypeId} {x y : Operand} {i : TI} {c : C} {nq : Bool} (em : Prop)
    (ho : o.op = .binOp op t x y rt) (hop : isNeq op = some nq) (hi : E.ti t = some i) (hk : i.tk = .slice e) (hx : ev fr x = .c c) (hy : ev fr y = .c (.val (.slice none 0 0)))
    (hc : (∃ (d : D) (xs : List d.T), c = .dat d xs ∧ em = (xs = [])) ∨ ∃ (b : Nat) (T : TypeId) (d : D) (xs : List d.T), c = .row b ∧ lk hp b = some (.row T d xs) ∧ em = (xs = []))
    (h1 : em → Mean E cur (.ops all l :: r) ⟨putF cur.nt fr o.dst (.c (.bool (ofW (!nq)))), hp, nx⟩ stk) (h2 : Mean E cur (.ops all l :: r) ⟨putF cur.nt fr o.dst (.c (.bool (ofW nq))), hp, nx⟩ stk) : StuckOk E cur all o l r ⟨fr, hp, nx⟩ stk := by
  refine stuck_rule fun w0 η S a w hR => ?_
  have hH := hR.1.1
  have hxv := ev_sound hR.2.1 x
  have hyv := ev_sound hR.2.1 y
  rw [hx] at hxv
  rw [hy] at hyv
  obtain ⟨ey, _⟩ := hyv
  have is := hE.tab.is hi
  have hu : E.P.underlying t = some (.slice e) := by
    have := is.tk
    rw [hk] at this
    exact tk_slice this
  have key : ∃ (A : Option Addr) (n k : Nat), a.eval x = .slice A n k ∧ (A = none → em) := by
    rcases hc with ⟨d, xs, rfl, rfl⟩ | ⟨b, T, d, xs, rfl, hb, rfl⟩
    · have hx' : Rd w (okS w0 hp η w) (.list d) xs [a.eval x] := hxv
      simp only [Rd] at hx'
      obtain ⟨A, k, e1, hl, _, hn, hr⟩ := hx'
      simp only [List.cons.injEq, and_true] at e1
      refine ⟨A, xs.length, k, e1, fun hA => ?_⟩
      have := hn hA
      exact List.eq_nil_of_length_eq_zero (by omega)
    · obtain ⟨g1, g2, g3⟩ := hxv
      obtain ⟨cs, r1, r2, r3⟩ := hH.obs b _ hb
      have g2 : a.eval x = (η b).2 := g2
      have r2 : w.ownsRow 0 T d.sz (η b).2 xs.length cs := r2
      rcases r2.2 with ⟨hv, hn⟩ | ⟨g, cap, cur', hv, _⟩
      · exact ⟨none, 0, 0, g2.trans hv, fun _ => List.eq_nil_of_length_eq_zero hn⟩
      · exact ⟨some ⟨g, 0, none⟩, xs.length, cap, g2.trans hv, fun h => by cases h⟩
  obtain ⟨A, n, k, ex, hA⟩ := key
  have he : ∀ w, (Op.equal t (.slice A n k) (.slice none 0 0)).run E.P w = .ok A.isNone w := by
    intro w
    show (Op.equalIn (9999 + 1) t (.slice A n k) (.slice none 0 0)).run E.P w = _
    unfold Op.equalIn
    cases A with
    | none => simp only [Sem.run_bind, und_run hu, Result.andThen_ok, Sem.run_pure, Option.isNone_none]
    | some a => simp only [Sem.run_bind, und_run hu, Result.andThen_ok, Sem.run_pure, Option.isNone_some]
  have hrun : (execOp a.eval ⟨o.dst, o.op, o.type, o.pos, o.after, none⟩).run E.P w = .ok (.value (.bool (if nq = true then !A.isNone else A.isNone))) w := by
    have hy2 : Yields E.P w (.bool (if nq = true then !A.isNone else A.isNone)) (execOp a.eval ⟨o.dst, o.op, o.type, o.pos, o.after, none⟩) := by
      refine bin_yields (by rw [ex]; simp) (by rw [ex]; simp) (fun w => ?_) ho
      rw [ex, ey]
      unfold isNeq at hop
      split at hop
      · cases hop; simp only [binOp, Sem.run_bind, he, Result.andThen_ok]; rfl
      · cases hop; simp only [binOp, Sem.run_bind, he, Result.andThen_ok]; rfl
      · cases hop
    exact hy2 w (Below.refl _ _)
  cases hAn : A with
  | none =>
    refine ⟨.c (.bool (ofW (!nq))), _, w, η, hp, nx, hrun, hH, Cx.le.refl _, ?_, h1 (hA hAn)⟩
    rw [hAn]
    cases nq <;> exact rfl
  | some ad =>
    refine ⟨.c (.bool (ofW nq)), _, w, η, hp, nx, hrun, hH, Cx.le.refl _, ?_, h2⟩
    rw [hAn]
    cases nq <;> exact rfl

/-- AN OWN ROW: it is nil, or what its capacity is is a number from here on. -/
theorem open1_rule {E : En} {cur : FI} {t : List It} {fr : List (Nat × SV)} {hp : List (Nat × Ob)} {nx : Nat} {stk : List Fm} {b : Nat} {T : TypeId} {d : D} {xs : List d.T} (hb : lk hp b = some (.row T d xs))
    (h0 : xs = [] → Mean E cur t ⟨rpF b (.val (.slice none 0 0)) fr, rm hp b, nx⟩ stk)
    (hm : ∀ c, xs.length ≤ c → c ≤ 9223372036854775807 → Mean E cur t ⟨rpF b (.sub b 0 d.sz xs.length c) fr, (b, .wid T d xs c) :: rm hp b, nx⟩ stk) : Mean E cur t ⟨fr, hp, nx⟩ stk := by
  intro w0 η S a w hS hR
  have hH := hR.1.1
  obtain ⟨cs, r1, r2, r3⟩ := hH.obs b _ hb
  have r1 : (η b).1 = (η b).2.ownBlock := r1
  have r2 : w.ownsRow 0 T d.sz (η b).2 xs.length cs := r2
  rcases r2.2 with ⟨hv, h00⟩ | ⟨g, cap, cur', hv, _, hg, hc1, hc2, hc3, hc4⟩
  · have hx : xs = [] := List.eq_nil_of_length_eq_zero h00
    have hle : (cxS w0 hp (lt nx) η w).le (cxS w0 (rm hp b) (lt nx) η w) := fz_le b
    have hdom : ∀ c o, lk (rm hp b) c = some o → lk hp c = some o := fun c o h => rm_sub c o h
    have hdom' : ∀ c, lk (rm hp b) c ≠ none → lk hp c ≠ none := fun c h => by
      cases ho : lk (rm hp b) c with
      | none => exact (h ho).elim
      | some o => rw [hdom c o ho]; simp
    have hy : ∀ v, RC (cxS w0 (rm hp b) (lt nx) η w) (.row b) v → RC (cxS w0 (rm hp b) (lt nx) η w) (.val (.slice none 0 0)) v := fun v ⟨h1, h2, _⟩ => by
      have h2 : v = (η b).2 := h2
      exact ⟨h2.trans hv, rfl⟩
    refine h0 hx w0 η S a w hS ⟨⟨⟨fun c o ho => ?_, fun c e k h1 h2 => hH.sep c e k (hdom' c h1) (hdom' e h2), fun c k h1 => hH.new c k (hdom' c h1), fun c h1 => hH.nxt c (hdom' c h1), hH.bel⟩, hR.1.2⟩, ?_, fun p hp => ⟨RepF.mono hle (hR.2.2 p hp).1, (hR.2.2 p hp).2⟩⟩
    · exact RO.mono hle (hH.nxt c (by rw [hdom c o ho]; simp)) (fun _ _ => rfl) (hH.obs c o (hdom c o ho))
    · refine ⟨fun t' sv ht => ?_, hR.2.1.siz, hR.2.1.dfr⟩
      rw [lk_rpF] at ht
      cases h : lk fr t' with
      | none => rw [h] at ht; cases ht
      | some s =>
        rw [h] at ht
        simp only [Option.map_some, Option.some.injEq] at ht
        subst ht
        obtain ⟨v, h1, h2⟩ := hR.2.1.sl t' s h
        exact ⟨v, h1, rpS_sound hy (RS.mono hle h2)⟩
  have hg1 : (η b).1 = some g := by rw [r1, hv]; rfl
  have hdom : ∀ c, (lk ((b, Ob.wid T d xs cap) :: rm hp b) c ≠ none) = (lk hp c ≠ none) := fun c => by
    rw [lk_put, eq_iff_iff]
    by_cases hc : c = b
    · subst hc; simp [hb]
    · simp [hc]
  have hok : okS w0 ((b, Ob.wid T d xs cap) :: rm hp b) η w = okS w0 hp η w := by funext k; simp only [okS, hdom]
  have hcx : cxS w0 ((b, Ob.wid T d xs cap) :: rm hp b) (lt nx) η w = cxS w0 hp (lt nx) η w := by unfold cxS; rw [hok]
  have hy : ∀ v, RC (cxS w0 hp (lt nx) η w) (.row b) v → RC (cxS w0 hp (lt nx) η w) (.sub b 0 d.sz xs.length cap) v := fun v ⟨h1, h2, _⟩ => by
    have h2 : v = (η b).2 := h2
    exact ⟨h1, hc1, hc2, g, 0, hg1, by rw [h2, hv], fun _ => by simp⟩
  refine hm cap hc1 (by simpa only [maxLen_eq] using hc2) w0 η S a w hS ⟨⟨⟨fun c o ho => ?_, fun c e k h1 h2 => hH.sep c e k (by rw [← hdom]; exact h1) (by rw [← hdom]; exact h2), fun c k h1 => hH.new c k (by rw [← hdom]; exact h1), fun c h1 => hH.nxt c (by rw [← hdom]; exact h1), hH.bel⟩, hR.1.2⟩, ?_, fun p hp => ⟨?_, (hR.2.2 p hp).2⟩⟩
  · rw [hcx]
    rw [lk_put] at ho
    by_cases hc : c = b
    · subst hc
      simp only [if_true, Option.some.injEq] at ho
      subst ho
      exact ⟨g, cur', hg1, hg, hc3, hc1, hc2, by rw [hc4]; exact r3⟩
    · simp only [hc, if_false] at ho
      exact hH.obs c o ho
  · rw [hcx]
    refine ⟨fun t' sv ht => ?_, hR.2.1.siz, hR.2.1.dfr⟩
    rw [lk_rpF] at ht
    cases h : lk fr t' with
    | none => rw [h] at ht; cases ht
    | some s =>
      rw [h] at ht
      simp only [Option.map_some, Option.some.injEq] at ht
      subst ht
      obtain ⟨v, h1, h2⟩ := hR.2.1.sl t' s h
      exact ⟨v, h1, rpS_sound hy h2⟩
  · rw [hcx]
    exact (hR.2.2 p hp).1

/-! ### an array whose elements are got by numbers that are not known -/

def psN (d : D) : Nat → List C → Option (List d.T)
  | 0, [] => some []
  | n + 1, l => match d.ps l with
    | some (y, r) => match psN d n r with
      | some ys => some (y :: ys)
      | none => none
    | none => none
  | _, _ => none
theorem psN_sound {x : Cx} {d : D} : ∀ {n : Nat} {l : List C} {ys : List d.T} {vs : List Value}, psN d n l = some ys → RL (RC x) l vs → RdF (Rd x.w x.ok d) ys vs ∧ ys.length = n
  | 0, [], ys, vs, h, hl => by
    simp only [psN, Option.some.injEq] at h
    subst h
    cases vs with
    | nil => exact ⟨rfl, rfl⟩
    | cons _ _ => exact hl.elim
  | n + 1, l, ys, vs, h, hl => by
    simp only [psN] at h
    split at h
    · rename_i y r hy
      split at h
      · rename_i ys' hr
        cases h
        obtain ⟨v1, v2, e, h1, h2⟩ := D.ps_sound hy hl
        obtain ⟨g1, g2⟩ := psN_sound hr h2
        exact ⟨⟨v1, v2, e, h1, g1⟩, by simp [g2]⟩
      · cases h
    · cases h
  | 0, _ :: _, _, _, h, _ => by simp [psN] at h

/-- cells of an array are its elements, one behind the other -/
theorem arr_rule {E : En} {cur : FI} {t : List It} {fr : List (Nat × SV)} {hp : List (Nat × Ob)} {nx : Nat} {stk : List Fm} {b n : Nat} {T : TypeId} {d : D} {l : List C} {xs : List d.T} (hb : lk hp b = some (.cells T l)) (hps : psN d n l = some xs) (hn : n ≤ 4096)
    (hm : Mean E cur t ⟨fr, (b, .wid T d xs n) :: rm hp b, nx⟩ stk) : Mean E cur t ⟨fr, hp, nx⟩ stk := by
  intro w0 η S a w hS hR
  have hH := hR.1.1
  have hdom : ∀ c, (lk ((b, Ob.wid T d xs n) :: rm hp b) c ≠ none) = (lk hp c ≠ none) := fun c => by
    rw [lk_put, eq_iff_iff]
    by_cases hc : c = b
    · subst hc; simp [hb]
    · simp [hc]
  have hok : okS w0 ((b, Ob.wid T d xs n) :: rm hp b) η w = okS w0 hp η w := by funext k; simp only [okS, hdom]
  have hcx : cxS w0 ((b, Ob.wid T d xs n) :: rm hp b) (lt nx) η w = cxS w0 hp (lt nx) η w := by unfold cxS; rw [hok]
  refine hm w0 η S a w hS ⟨⟨⟨fun c o ho => ?_, fun c e k h1 h2 => hH.sep c e k (by rw [← hdom]; exact h1) (by rw [← hdom]; exact h2), fun c k h1 => hH.new c k (by rw [← hdom]; exact h1), fun c h1 => hH.nxt c (by rw [← hdom]; exact h1), hH.bel⟩, hR.1.2⟩, ?_, fun p hp => ⟨?_, (hR.2.2 p hp).2⟩⟩
  · rw [hcx]
    rw [lk_put] at ho
    by_cases hc : c = b
    · subst hc
      simp only [if_true, Option.some.injEq] at ho
      subst ho
      obtain ⟨k, vs, h1, h2, h3⟩ := hH.obs c _ hb
      obtain ⟨g1, g2⟩ := psN_sound hps h3
      have hlen : vs.toList.length = n * d.sz := by rw [RdF.len (fun _ _ => Rd.len) g1, g2]
      refine ⟨k, vs, h1, h2, by rw [← Array.length_toList]; exact hlen, by omega, by simp only [maxLen_eq]; omega, ?_⟩
      rw [g2, ← hlen, List.take_length]
      exact g1
    · simp only [hc, if_false] at ho
      exact hH.obs c o ho
  · rw [hcx]; exact hR.2.1
  · rw [hcx]; exact (hR.2.2 p hp).1
end OE

/- OE, part 10: small facts on leaves: wraps, bits, bytes. Own work. -/
namespace OE
open Go Go.RowKit

/-- a test whose outcome is known -/
theorem tk {b : Bool} {X Y : Prop} (hb : b = true) (hx : X) : (b = true → X) ∧ (b = false → Y) := ⟨fun _ => hx, fun h => by rw [hb] at h; cases h⟩
theorem fk {b : Bool} {X Y : Prop} (hb : b = false) (hy : Y) : (b = true → X) ∧ (b = false → Y) := ⟨fun h => (by rw [hb] at h; cases h), fun _ => hy⟩

theorem wf_i64 {a : Int} (h : (Lit.int .i64 a).wf = true) : -9223372036854775808 ≤ a ∧ a ≤ 9223372036854775807 := by
  simpa [Lit.wf, IntKind.min, IntKind.max, IntKind.bits, IntKind.signed] using h
theorem wf_u64 {a : Int} (h : (Lit.int .u64 a).wf = true) : 0 ≤ a ∧ a ≤ 18446744073709551615 := by
  simpa [Lit.wf, IntKind.min, IntKind.max, IntKind.bits, IntKind.signed] using h

theorem wr64 (x : Int) (h0 : -9223372036854775808 ≤ x) (h1 : x ≤ 9223372036854775807) : IntKind.wrap .i64 x = x := by
  have e : IntKind.wrap .i64 x = if (9223372036854775808 : Int) ≤ x % 18446744073709551616 then x % 18446744073709551616 - 18446744073709551616 else x % 18446744073709551616 := by
    simp [IntKind.wrap, IntKind.bits, IntKind.signed]
  rw [e]
  split <;> omega
theorem wru64 (x : Int) (h0 : 0 ≤ x) (h1 : x ≤ 18446744073709551615) : IntKind.wrap .u64 x = x := by
  have e : IntKind.wrap .u64 x = x % 18446744073709551616 := by simp [IntKind.wrap, IntKind.bits, IntKind.signed]
  rw [e]; omega
theorem wru64m (x : Int) : IntKind.wrap .u64 x = x % 18446744073709551616 := by simp [IntKind.wrap, IntKind.bits, IntKind.signed]
theorem wru8 (x : Int) : IntKind.wrap .u8 x = x % 256 := by simp [IntKind.wrap, IntKind.bits, IntKind.signed]
theorem wr64m (x : Int) : IntKind.wrap .i64 x = if (9223372036854775808 : Int) ≤ x % 18446744073709551616 then x % 18446744073709551616 - 18446744073709551616 else x % 18446744073709551616 := by
  simp [IntKind.wrap, IntKind.bits, IntKind.signed]

theorem and127 (c : Nat) (h : c < 256) : bits .and .u8 (c : Int) 127 = ((c % 128 : Nat) : Int) := by
  have := u8_and_nat c 127 h (by omega)
  rw [show ((127 : Nat) : Int) = 127 from rfl] at this
  rw [this, show (127 : Nat) = 2 ^ 7 - 1 from rfl, Nat.and_two_pow_sub_one_eq_mod]
theorem or128 (c : Nat) (h : c < 256) : bits .or .u8 (c : Int) 128 = ((c % 128 + 128 : Nat) : Int) := by
  have := u8_or_nat c 128 h (by omega)
  rw [show ((128 : Nat) : Int) = 128 from rfl] at this
  rw [this]
  congr 1
  have e1 : ∀ d : Nat, d < 128 → d ||| 128 = d + 128 := by
    intro d hd
    rw [Nat.or_comm]
    have := Nat.two_pow_add_eq_or_of_lt (i := 7) (b := d) hd 1
    simp only [Nat.mul_one, show (2 : Nat) ^ 7 = 128 from rfl] at this
    omega
  by_cases hc : c < 128
  · rw [e1 c hc, Nat.mod_eq_of_lt hc]
  · have e2 : c = c % 128 + 128 := by omega
    have e3 := e1 (c % 128) (Nat.mod_lt _ (by omega))
    rw [← e3]
    rw [← e3] at e2
    conv => lhs; rw [e2]
    rw [Nat.or_assoc, Nat.or_self]
theorem or_apart (n m i : Nat) (hn : n < 2 ^ i) (hb : n + m * 2 ^ i < 18446744073709551616) : bits .or .u64 (n : Int) ((m * 2 ^ i : Nat) : Int) = ((n + m * 2 ^ i : Nat) : Int) := by
  rw [u64_or_nat n (m * 2 ^ i) (by omega) (by omega)]
  congr 1
  rw [Nat.or_comm, Nat.mul_comm, ← Nat.two_pow_add_eq_or_of_lt hn]
  omega

theorem xor_max (a : Nat) (h : a < 18446744073709551616) : a ^^^ 18446744073709551615 = 18446744073709551615 - a := by
  have e := congrArg BitVec.toNat (BitVec.xor_allOnes (x := BitVec.ofNat 64 a))
  rw [BitVec.toNat_xor, BitVec.toNat_allOnes, BitVec.toNat_not, BitVec.toNat_ofNat, Nat.mod_eq_of_lt h] at e
  exact e
theorem wrx (x : Nat) (hx : x < 18446744073709551616) : IntKind.wrap .i64 (x : Int) = if x < 9223372036854775808 then (x : Int) else x - 18446744073709551616 := by
  rw [wr64m]; split <;> split <;> omega
theorem xor64_zero (a : Int) (h0 : -9223372036854775808 ≤ a) (h1 : a ≤ 9223372036854775807) : bits .xor .i64 a 0 = a := by
  have : bits .xor .i64 a 0 = IntKind.wrap .i64 ((BitVec.ofInt 64 a ^^^ 0#64).toNat : Nat) := rfl
  rw [this, BitVec.xor_zero, wrx _ (BitVec.isLt _), BitVec.toNat_ofInt]
  split <;> omega
theorem xor64_one (a : Int) (h0 : -9223372036854775808 ≤ a) (h1 : a ≤ 9223372036854775807) : bits .xor .i64 a (-1) = -a - 1 := by
  have : bits .xor .i64 a (-1) = IntKind.wrap .i64 ((BitVec.ofInt 64 a ^^^ BitVec.allOnes 64).toNat : Nat) := rfl
  rw [this, BitVec.xor_allOnes, wrx _ (BitVec.isLt _), BitVec.toNat_not, BitVec.toNat_ofInt]
  split <;> omega

theorem bt_nat (s : List UInt8) (i : Nat) (h : i < s.length) : bt s (i : Int) = ((s[i]).toNat : Int) := by
  simp [bt, h]
theorem gt_nat {d : D} (xs : List d.T) (i : Nat) (h : i < xs.length) : gt xs (i : Int) = xs[i] := by
  unfold gt
  simp [List.getD, h]
theorem bt_rng (s : List UInt8) (i : Int) : 0 ≤ bt s i ∧ bt s i < 256 := by
  unfold bt
  have := (s.getD i.toNat 0).toNat_lt
  omega

theorem byl_app (xs ys : List Int) : byl (xs ++ ys) = byl xs ++ byl ys := by simp [byl]


/-! ### lists, gone through by a number -/

theorem eqL_len {α : Type} {f : α → α → Bool} : ∀ {l m : List α}, l.length ≠ m.length → eqL f l m = false
  | [], [], h => by simp at h
  | [], _ :: _, _ => rfl
  | _ :: _, [], _ => rfl
  | a :: l, b :: m, h => by simp only [eqL, eqL_len (l := l) (m := m) (by simpa using h), Bool.and_false]
theorem eqL_step {α : Type} {f : α → α → Bool} {l m : List α} {i : Nat} (h1 : i < l.length) (h2 : i < m.length) : eqL f (l.drop i) (m.drop i) = (f l[i] m[i] && eqL f (l.drop (i + 1)) (m.drop (i + 1))) := by
  rw [List.drop_eq_getElem_cons h1, List.drop_eq_getElem_cons h2]; rfl
theorem eqL_end {α : Type} {f : α → α → Bool} {l m : List α} {i : Nat} (h1 : l.length ≤ i) (h2 : m.length ≤ i) : eqL f (l.drop i) (m.drop i) = true := by
  rw [List.drop_of_length_le h1, List.drop_of_length_le h2]; rfl
theorem any_step {α : Type} {f : α → Bool} {l : List α} {i : Nat} (h1 : i < l.length) : (l.drop i).any f = (f l[i] || (l.drop (i + 1)).any f) := by
  rw [List.drop_eq_getElem_cons h1]; rfl
theorem any_end {α : Type} {f : α → Bool} {l : List α} {i : Nat} (h1 : l.length ≤ i) : (l.drop i).any f = false := by
  rw [List.drop_of_length_le h1]; rfl
theorem all_step {α : Type} {f : α → Bool} {l : List α} {i : Nat} (h1 : i < l.length) : (l.drop i).all f = (f l[i] && (l.drop (i + 1)).all f) := by
  rw [List.drop_eq_getElem_cons h1]; rfl
theorem all_end {α : Type} {f : α → Bool} {l : List α} {i : Nat} (h1 : l.length ≤ i) : (l.drop i).all f = true := by
  rw [List.drop_of_length_le h1]; rfl
theorem find_step {α : Type} {f : α → Bool} {l : List α} {i : Nat} (h1 : i < l.length) : (l.drop i).find? f = (match f l[i] with | true => some l[i] | false => (l.drop (i + 1)).find? f) := by
  rw [List.drop_eq_getElem_cons h1]; rfl
theorem find_end {α : Type} {f : α → Bool} {l : List α} {i : Nat} (h1 : l.length ≤ i) : (l.drop i).find? f = none := by
  rw [List.drop_of_length_le h1]; rfl
theorem take_step {α : Type} {l : List α} {i : Nat} (h1 : i < l.length) : l.take (i + 1) = l.take i ++ [l[i]] := by
  rw [List.take_succ_eq_append_getElem h1]
theorem filter_step {α : Type} {f : α → Bool} {l : List α} {i : Nat} (h1 : i < l.length) : (l.take (i + 1)).filter f = (l.take i).filter f ++ (if f l[i] = true then [l[i]] else []) := by
  rw [take_step h1, List.filter_append]
  congr 1
  cases h : f l[i] <;> simp [h]
theorem wr_succ (i : Nat) (h : i + 1 ≤ 9223372036854775807) : ((i + 1 : Nat) : Int) = IntKind.wrap .i64 ((i : Int) + 1) := by rw [wr64 _ (by omega) (by omega)]; omega
theorem wr_succ' (i : Nat) (h : i + 1 ≤ 9223372036854775807) : IntKind.wrap .i64 ((i : Int) + 1) = ((i + 1 : Nat) : Int) := (wr_succ i h).symm

/-! ### maps of data -/

section
variable {kd vd : D}
theorem mset_cons (p : kd.T × vd.T) (l : List (kd.T × vd.T)) (k : kd.T) (v : vd.T) : mset (p :: l) k v = if kd.eqb p.1 k = true then (k, v) :: l else p :: mset l k v := by
  unfold mset
  simp only [midx]
  by_cases h : kd.eqb p.1 k = true
  · simp [h]
  · simp only [h]
    cases midx l k <;> simp
theorem mval_cons (p : kd.T × vd.T) (l : List (kd.T × vd.T)) (k : kd.T) : mval (p :: l) k = if kd.eqb p.1 k = true then p.2 else mval l k := by
  unfold mval
  simp only [midx]
  by_cases h : kd.eqb p.1 k = true
  · simp [h]
  · simp only [h]
    cases midx l k <;> simp
theorem mval_mset : ∀ (es : List (kd.T × vd.T)) (k : kd.T) (v : vd.T) (k' : kd.T), mval (mset es k v) k' = if k = k' then v else mval es k'
  | [], k, v, k' => by
    have : mset ([] : List (kd.T × vd.T)) k v = [(k, v)] := rfl
    rw [this, mval_cons]
    by_cases h : k = k'
    · rw [if_pos ((D.eqb_iff kd _ _).2 h), if_pos h]
    · rw [if_neg (fun e => h ((D.eqb_iff kd _ _).1 e)), if_neg h]
  | p :: l, k, v, k' => by
    rw [mset_cons]
    by_cases h : kd.eqb p.1 k = true
    · have hp := (D.eqb_iff kd _ _).1 h
      rw [if_pos h, mval_cons, mval_cons]
      by_cases h2 : k = k'
      · subst h2; rw [if_pos ((D.eqb_iff kd _ _).2 rfl), if_pos rfl]
      · rw [if_neg (fun e => h2 ((D.eqb_iff kd _ _).1 e)), if_neg h2, hp, if_neg (fun e => h2 ((D.eqb_iff kd _ _).1 e))]
    · rw [if_neg h, mval_cons, mval_cons, mval_mset l k v k']
      by_cases h2 : k = k'
      · subst h2; rw [if_neg h, if_pos rfl, if_pos rfl]
      · rw [if_neg h2, if_neg h2]
theorem mval_nil (k : kd.T) : mval ([] : List (kd.T × vd.T)) k = vd.df := rfl
theorem mval_mem {es : List (kd.T × vd.T)} (h : es.Pairwise (fun p q => p.1 ≠ q.1)) {i : Nat} (hi : i < es.length) : mval es es[i].1 = es[i].2 := by
  have hm := midx_at h (k := es[i].1) (v := es[i].2) (i := i) (by simp [hi])
  unfold mval
  rw [hm]
  simp [hi]
theorem mval_get {es : List (kd.T × vd.T)} {k : kd.T} (h : mval es k ≠ vd.df) : ∃ (i : Nat) (hi : i < es.length), es[i] = (k, mval es k) := by
  unfold mval at h ⊢
  cases hm : midx es k with
  | none => rw [hm] at h; exact (h rfl).elim
  | some i =>
    obtain ⟨v, hv⟩ := midx_some hm
    obtain ⟨hi, e⟩ := List.getElem?_eq_some_iff.1 hv
    exact ⟨i, hi, by simp [hv, e]⟩
theorem ent_mset (es : List (kd.T × vd.T)) (y : kd.T) (v : vd.T) : mput (ment es y) ((midx es y).getD es.length) v = mset es y v := by
  unfold mput ment mhas mset
  cases hm : midx es y with
  | none => simp
  | some i =>
    obtain ⟨u, hu⟩ := midx_some hm
    simp [hu]
theorem mval_ment (es : List (kd.T × vd.T)) (y : kd.T) : mval (ment es y) y = mval es y := by
  have key : ∀ l : List (kd.T × vd.T), midx l y = none → mval (l ++ [(y, vd.df)]) y = vd.df := by
    intro l
    induction l with
    | nil => intro _; rw [List.nil_append, mval_cons, if_pos ((D.eqb_iff kd _ _).2 rfl)]
    | cons p l ih =>
      intro h
      simp only [midx] at h
      split at h
      · cases h
      · rename_i hp
        simp only [Option.map_eq_none_iff] at h
        rw [List.cons_append, mval_cons, if_neg hp]
        exact ih h
  unfold ment mhas
  cases hm : midx es y with
  | none =>
    simp only [Option.isSome_none, Bool.false_eq_true, if_false]
    rw [key es hm]
    unfold mval
    rw [hm]
  | some i => simp
theorem ent_len (es : List (kd.T × vd.T)) (y : kd.T) : (midx es y).getD es.length < (ment es y).length := by
  unfold ment mhas
  cases hm : midx es y with
  | none => simp
  | some i =>
    obtain ⟨u, hu⟩ := midx_some hm
    obtain ⟨hi, _⟩ := List.getElem?_eq_some_iff.1 hu
    simpa using hi
end

theorem nodup_bd : ∀ {n : Nat} {l : List Nat}, l.Nodup → (∀ i ∈ l, i < n) → l.length ≤ n
  | 0, [], _, _ => Nat.le_refl _
  | 0, a :: l, _, h => by have := h a (by simp); omega
  | n + 1, l, hd, h => by
    have h1 := nodup_bd (n := n) (l := l.filter (· != n)) (hd.sublist List.filter_sublist) (fun i hi => by
      simp only [List.mem_filter, bne_iff_ne] at hi
      have := h i hi.1; omega)
    have h2 : l.length ≤ (l.filter (· != n)).length + 1 := by
      have hc : l.count n ≤ 1 := List.nodup_iff_count.1 hd n
      have := List.length_eq_countP_add_countP (l := l) (p := (· != n))
      rw [← List.countP_eq_length_filter]
      have e : List.countP (fun a => decide ¬(a != n) = true) l = l.count n := by
        unfold List.count
        congr 1
        funext a
        by_cases h : a = n <;> simp [h]
      omega
    omega

/-! ### arguments that are nil -/
theorem FnD.args {P : Program} {f : Nat} {as bs : List SV} {post : SV → Prop} (h : FnD P f as post) (hs : ∀ w ok, RL (fun b a => ∀ v, RS (DX w ok) b v → RS (DX w ok) a v) bs as) : FnD P f bs post := by
  refine ⟨h.1, fun w ok vs hok hvs => h.2 w ok vs hok ?_⟩
  have key : ∀ {bs as : List SV} {m : List Value}, RL (fun b a => ∀ v, RS (DX w ok) b v → RS (DX w ok) a v) bs as → RL (RS (DX w ok)) bs m → RL (RS (DX w ok)) as m := by
    intro bs
    induction bs with
    | nil =>
      intro as m h1 h2
      cases as with
      | nil => exact h2
      | cons _ _ => exact h1.elim
    | cons b bs ih =>
      intro as m h1 h2
      cases as with
      | nil => exact h1.elim
      | cons a as =>
        obtain ⟨v, m', rfl, g1, g2⟩ := rl_cons h2
        exact ⟨h1.1 v g1, ih h1.2 g2⟩
  exact key (hs w ok) hvs
theorem nilA {w : World} {ok : Nat → Prop} {d : D} (v : Value) (h : RS (DX w ok) (.c (.val (.slice none 0 0))) v) : RS (DX w ok) (.c (.dat d [])) v := by
  obtain ⟨rfl, _⟩ := h
  show Rd w ok (.list d) [] [_]
  simp only [Rd]
  exact ⟨none, 0, rfl, by simp, by simp [maxLen], fun _ => rfl, .inl rfl⟩
theorem sameA {w : World} {ok : Nat → Prop} {a : SV} (v : Value) (h : RS (DX w ok) a v) : RS (DX w ok) a v := h
/-- a result told in another way -/
theorem FnD.res {P : Program} {f : Nat} {args : List SV} {pf : SV → Prop} {s : SV} (h : FnD P f args pf) (hs : ∀ r, pf r → ∀ w ok v, RS (DX w ok) r v → RS (DX w ok) s v) : FnD P f args (· = s) :=
  ⟨h.1, fun w ok vs ho hv => (h.2 w ok vs ho hv).mono fun _ _ ⟨r, v, e, h1, h2, h3⟩ => ⟨s, v, e, rfl, hs r h1 _ _ v h2, h3⟩⟩
/-- a list, or nil -/
def nilOr (d : D) (l : List d.T) (r : SV) : Prop := r = .c (.dat d l) ∨ (l = [] ∧ r = .c (.val (.slice none 0 0)))
theorem FnD.nil {P : Program} {f : Nat} {args : List SV} {d : D} {l : List d.T} (h : FnD P f args (nilOr d l)) : FnD P f args (· = .c (.dat d l)) :=
  h.res fun r hr w ok v hv => by
    rcases hr with rfl | ⟨rfl, rfl⟩
    · exact hv
    · exact nilA v hv
end OE

/- OE, part 11: an argument that is data, opened. Own work; generic over the program. -/
namespace OE
open Go Go.RowKit

mutual
/-- a type reads as this kind of data -/
def tyD (P : Program) : Nat → TypeId → D → Bool
  | 0, _, _ => false
  | n + 1, t, d => match P.underlying t with
    | some (.int k) => decide (d = .int k)
    | some .bool => decide (d = .bool)
    | some .string => decide (d = .str)
    | some (.slice e) => match d with
      | .list a => P.cellsOf e == a.sz && decide (0 < P.bytesOf e) && tyD P n e a
      | _ => false
    | some (.struct fs) => P.cellsOf t == d.sz && tyP P n (fs.toList.map fun f => (f.type, f.offset)) 0 d
    | some (.array m e) => P.cellsOf t == d.sz && tyP P n ((List.range m).map fun i => (e, i * P.cellsOf e)) 0 d
    | _ => false
/-- parts, one behind the other -/
def tyP (P : Program) : Nat → List (TypeId × Nat) → Nat → D → Bool
  | 0, _, _, _ => false
  | _ + 1, [], _, _ => false
  | n + 1, [(t, o)], p, d => o == p && P.cellsOf t == d.sz && tyD P n t d
  | n + 1, (t, o) :: r, p, d => match d with
    | .pair a b => o == p && P.cellsOf t == a.sz && tyD P n t a && tyP P n r (p + a.sz) b
    | _ => false
end

/-- sizes as they come in -/
def Wf : (d : D) → d.T → Prop
  | .int k, n => (Lit.int k n).wf = true
  | .bool, _ => True
  | .str, s => s.length ≤ 140737488351232
  | .pair a b, p => Wf a p.1 ∧ Wf b p.2
  | .list a, xs => xs.length ≤ 140737488351232 ∧ ∀ x ∈ xs, Wf a x

instance Wf.dec : ∀ (d : D) (x : d.T), Decidable (Wf d x)
  | .int k, n => inferInstanceAs (Decidable ((Lit.int k n).wf = true))
  | .bool, _ => inferInstanceAs (Decidable True)
  | .str, s => inferInstanceAs (Decidable (s.length ≤ 140737488351232))
  | .pair a b, p => @instDecidableAnd _ _ (Wf.dec a p.1) (Wf.dec b p.2)
  | .list a, xs => @instDecidableAnd _ _ (inferInstanceAs (Decidable (xs.length ≤ 140737488351232))) (@List.decidableBAll _ _ (Wf.dec a) xs)

theorem cell_some {w : World} {a : Addr} {v : Value} (h : w.cell? a = some v) : a.spot = none ∧ ∃ c T fz, w.heap[a.block]? = some (.cells c T fz) ∧ c[a.off]? = some v := by
  unfold World.cell? at h
  split at h
  · rename_i c T fz hc
    split at h
    · cases h
    · rename_i hs
      exact ⟨by simpa using hs, c, T, fz, hc, h⟩
  · cases h

section
variable {H : Type} {enc : TypeId × Value → H} {P : Program} {w : World} {sp : Nat → Bool} {held : Bool}

theorem rdf_of {α : Type} {R : α → List Value → Prop} {sz : Nat} : ∀ {n : Nat} {L : List Value} (g : Nat → α), (∀ i, i < n → R (g i) ((L.drop (i * sz)).take sz)) → (L.length = n * sz) → RdF R ((List.range n).map g) L
  | 0, L, g, _, hl => by simp at hl; subst hl; rfl
  | n + 1, L, g, h, hl => by
    rw [List.range_succ_eq_map, List.map_cons, List.map_map]
    refine ⟨L.take sz, L.drop sz, (List.take_append_drop sz L).symm, by simpa using h 0 (by omega), ?_⟩
    have := rdf_of (n := n) (L := L.drop sz) (fun i => g (i + 1)) (fun i hi => by
      have := h (i + 1) (by omega)
      rw [List.drop_drop]
      rw [show sz + i * sz = (i + 1) * sz from by rw [Nat.add_mul]; omega]
      exact this) (by rw [List.length_drop, hl, Nat.add_mul]; omega)
    exact this

theorem pick_fn {α : Type} (d : α) {n : Nat} {p : Nat → α → Prop} (h : ∀ i, i < n → ∃ y, p i y) : ∃ g : Nat → α, ∀ i, i < n → p i (g i) := by
  induction n with
  | zero => exact ⟨fun _ => d, fun i hi => by omega⟩
  | succ n ih =>
    obtain ⟨g, hg⟩ := ih fun i hi => h i (by omega)
    obtain ⟨y, hy⟩ := h n (by omega)
    refine ⟨fun i => if i = n then y else g i, fun i hi => ?_⟩
    dsimp only
    split
    · rename_i e; subst e; exact hy
    · exact hg i (by omega)

/-- cells that are there one behind the other -/
theorem row_of {C : Array Value} {off len sz : Nat} {cs : Nat → List Value} (hs : 0 < sz) (h : ∀ i, i < len → (cs i).length = sz ∧ ∀ j, j < sz → C[off + i * sz + j]? = (cs i)[j]?) :
    ((C.toList.drop off).take (len * sz)).length = len * sz ∧ ∀ i, i < len → ((((C.toList.drop off).take (len * sz)).drop (i * sz)).take sz) = cs i := by
  have hex : ∀ q, q < len * sz → ∃ v, C[off + q]? = some v := by
    intro q hq
    have hi : q / sz < len := by rw [Nat.div_lt_iff_lt_mul hs]; exact hq
    obtain ⟨h1, h2⟩ := h (q / sz) hi
    have hj := h2 (q % sz) (Nat.mod_lt _ hs)
    rw [Nat.add_assoc, Nat.mul_comm, Nat.div_add_mod] at hj
    rw [hj]
    exact ⟨_, List.getElem?_eq_getElem (by rw [h1]; exact Nat.mod_lt _ hs)⟩
  have hlen : ((C.toList.drop off).take (len * sz)).length = len * sz := by
    rw [List.length_take, List.length_drop, Array.length_toList]
    rcases Nat.lt_or_ge (C.size - off) (len * sz) with hlt | hge
    · obtain ⟨v, hv⟩ := hex (C.size - off) hlt
      have := (Array.getElem?_eq_some_iff.1 hv).1
      omega
    · omega
  refine ⟨hlen, fun i hi => ?_⟩
  obtain ⟨h1, h2⟩ := h i hi
  have hle : (i + 1) * sz ≤ len * sz := Nat.mul_le_mul_right _ hi
  rw [Nat.add_mul, Nat.one_mul] at hle
  apply List.ext_getElem?
  intro j
  rw [List.getElem?_take]
  split
  · rename_i hj
    rw [List.getElem?_drop, List.getElem?_take, if_pos (by omega), List.getElem?_drop, Array.getElem?_toList, ← h2 j hj, Nat.add_assoc]
  · rw [List.getElem?_eq_none (by omega)]

theorem all_weights {e : TypeId} : ∀ {xs : List (DataW H)} {x : DataW H}, x ∈ xs → ∀ m ∈ x.weights P e, m ∈ DataW.weightsAll P e xs
  | y :: ys, x, hx, m, hm => by
    simp only [DataW.weightsAll, List.mem_append]
    rcases List.mem_cons.1 hx with rfl | h
    · exact .inl hm
    · exact .inr (all_weights h m hm)
  | [], x, hx, _, _ => by simp at hx

mutual
theorem trod_rd : ∀ (n : Nat) {t : TypeId} {d : D} {fuel : Nat} {cs : List Value} {x : DataW H × List MemPlace}, tyD P n t d = true → DataW.trod enc P w 0 sp held fuel t cs = some x → (∀ m ∈ x.1.weights P t, m ≤ reachBytes) →
    ∃ y : d.T, Rd w (fun k => k < w.heap.size) d y cs ∧ Wf d y
  | 0, _, _, _, _, _, h, _, _ => by simp [tyD] at h
  | n + 1, t, d, fuel, cs, x, h, hx, hw => by
    unfold tyD at h
    split at h
    · rename_i k ht
      simp only [decide_eq_true_eq] at h
      subst h
      obtain ⟨m, rfl, rfl, hwf⟩ := DataW.trod_int ht hx
      exact ⟨m, rfl, hwf⟩
    · rename_i ht
      simp only [decide_eq_true_eq] at h
      subst h
      obtain ⟨b, rfl, rfl⟩ := DataW.trod_bool ht hx
      exact ⟨b, rfl, trivial⟩
    · rename_i ht
      simp only [decide_eq_true_eq] at h
      subst h
      obtain ⟨s, rfl, rfl, _⟩ := DataW.trod_string ht hx
      refine ⟨s.data.toList, rfl, ?_⟩
      have := hw s.data.toList.length (by simp [DataW.weights])
      exact this
    · rename_i e ht
      split at h
      · rename_i a
        simp only [Bool.and_eq_true, beq_iff_eq, decide_eq_true_eq] at h
        obtain ⟨⟨h1, h2⟩, h3⟩ := h
        rcases DataW.trod_slice ht hx with ⟨rfl, rfl⟩ | ⟨A, len, cap, elems, rest, m, rfl, rfl, rfl, hb, hl, hm, hlen, hel, hsp, hns⟩
        · exact ⟨[], ⟨none, 0, rfl, Nat.le_refl _, Nat.zero_le _, fun _ => rfl, .inl rfl⟩, by simp, by simp⟩
        · have hlen' : len ≤ 140737488351232 := by
            have h5 := hw ((elems.map (·.1)).length + (rest.map (·.1)).length |> (· * P.bytesOf e)) (by simp [DataW.weights, ht])
            simp only [List.length_map] at h5
            rw [hlen] at h5
            have h6 : len * 1 ≤ (len + rest.length) * P.bytesOf e := Nat.mul_le_mul (by omega) h2
            have h7 : reachBytes = 140737488351232 := rfl
            omega
          have each : ∀ i, i < len → ∃ cs' y, w.cells? 0 (A.add (i * P.cellsOf e)) (P.cellsOf e) = some cs' ∧ Rd w (fun k => k < w.heap.size) a y cs' ∧ Wf a y := by
            intro i hi
            have := hel i hi
            rw [List.getElem?_eq_getElem (by omega), Option.bind_eq_some_iff] at this
            obtain ⟨cs', hc1, hc2⟩ := this
            obtain ⟨y, hy1, hy2⟩ := trod_rd n h3 hc2 (fun z hz => hw z (by
              simp only [DataW.weights, ht, List.mem_cons, List.mem_append]
              exact .inr (.inl (all_weights (x := elems[i].1) (List.mem_map_of_mem (List.getElem_mem _)) z hz))))
            exact ⟨cs', y, hc1, hy1, hy2⟩
          by_cases h0 : len = 0
          · subst h0
            exact ⟨[], ⟨some A, cap, rfl, Nat.zero_le _, hm, fun h => (by cases h), .inl rfl⟩, by simp, by simp⟩
          · have hsz := a.sz_pos
            obtain ⟨g, hg⟩ := pick_fn ([], a.df) (p := fun i (q : List Value × a.T) => w.cells? 0 (A.add (i * P.cellsOf e)) (P.cellsOf e) = some q.1 ∧ Rd w (fun k => k < w.heap.size) a q.2 q.1 ∧ Wf a q.2) (fun i hi => by
              obtain ⟨cs', y, q1, q2, q3⟩ := each i hi
              exact ⟨(cs', y), q1, q2, q3⟩)
            have c0 := World.cells?_some (hg 0 (by omega)).1
            rw [h1] at c0
            have hv0 := c0.2.2 0 hsz
            rw [List.getElem?_eq_getElem (by omega)] at hv0
            simp only [Nat.zero_mul] at hv0
            obtain ⟨hspot, C, T, fz, hheap, _⟩ := cell_some hv0
            obtain ⟨k, off, spot⟩ := A
            simp only [Addr.add, if_true] at hspot hheap
            subst hspot
            have hcell : ∀ i, i < len → (g i).1.length = a.sz ∧ ∀ j, j < a.sz → C[off + i * a.sz + j]? = ((g i).1)[j]? := by
              intro i hi
              have ci := World.cells?_some (hg i hi).1
              rw [h1] at ci
              refine ⟨ci.2.1, fun j hj => ?_⟩
              have := ci.2.2 j hj
              rw [add_plain', add_plain', cell_of hheap] at this
              exact this
            obtain ⟨r1, r2⟩ := row_of hsz hcell
            refine ⟨(List.range len).map fun i => (g i).2, ⟨some ⟨k, off, none⟩, cap, by simp, by simpa using hl, hm, fun h => (by cases h), .inr ⟨k, off, C, T, fz, rfl, (Array.getElem?_eq_some_iff.1 hheap).1, hheap, ?_⟩⟩, by simpa using hlen', ?_⟩
            · rw [List.length_map, List.length_range]
              refine rdf_of (fun i => (g i).2) (fun i hi => ?_) r1
              rw [r2 i hi]
              exact (hg i hi).2.1
            · intro y hy
              simp only [List.mem_map, List.mem_range] at hy
              obtain ⟨i, hi, rfl⟩ := hy
              exact (hg i hi).2.2
      · cases h
    · rename_i fs ht
      simp only [Bool.and_eq_true, beq_iff_eq] at h
      obtain ⟨h1, h2⟩ := h
      obtain ⟨xs, m, rfl, rfl, hl, hxl, hel⟩ := DataW.trod_struct ht hx
      obtain ⟨y, hy1, hy2, hy3⟩ := trod_parts (m := m) n (xs := xs) h2 (cs := cs) (fun i t' o hi => by
        rw [List.getElem?_map] at hi
        simp only [Option.map_eq_some_iff, Prod.mk.injEq] at hi
        obtain ⟨f, hf, rfl, rfl⟩ := hi
        exact hel i f (by simpa using hf)) (fun i t' o x hi hxi z hz => by
        rw [List.getElem?_map] at hi
        simp only [Option.map_eq_some_iff, Prod.mk.injEq] at hi
        obtain ⟨f, hf, rfl, rfl⟩ := hi
        refine hw z ?_
        simp only [DataW.weights, ht]
        exact DataW.weights_mem_each (j := i) (t := f.type) (d := x.1) (by simp only [Array.getElem?_toList] at hf; simp [List.getElem?_map, hf]) (by simp [List.getElem?_map, hxi]) z hz) (by simpa using hxl)
      rw [List.drop_zero, List.take_of_length_le (by omega)] at hy1
      exact ⟨y, hy1, hy2⟩
    · rename_i q e ht
      simp only [Bool.and_eq_true, beq_iff_eq] at h
      obtain ⟨h1, h2⟩ := h
      obtain ⟨xs, m, rfl, rfl, hl, hxl, hel⟩ := DataW.trod_array ht hx
      obtain ⟨y, hy1, hy2, hy3⟩ := trod_parts (m := m) n (xs := xs) h2 (cs := cs) (fun i t' o hi => by
        rw [List.getElem?_map] at hi
        simp only [Option.map_eq_some_iff, Prod.mk.injEq] at hi
        obtain ⟨i', hf, rfl, rfl⟩ := hi
        rw [List.getElem?_eq_some_iff] at hf
        obtain ⟨hf1, hf2⟩ := hf
        simp at hf1 hf2
        subst hf2
        exact hel i hf1) (fun i t' o x hi hxi z hz => by
        rw [List.getElem?_map] at hi
        simp only [Option.map_eq_some_iff, Prod.mk.injEq] at hi
        obtain ⟨i', hf, rfl, rfl⟩ := hi
        refine hw z ?_
        simp only [DataW.weights, ht]
        exact all_weights (x := x.1) (List.mem_map_of_mem (List.mem_of_getElem? hxi)) z hz) (by simpa using hxl)
      rw [List.drop_zero, List.take_of_length_le (by omega)] at hy1
      exact ⟨y, hy1, hy2⟩
    · cases h
theorem trod_parts : ∀ (n : Nat) {pl : List (TypeId × Nat)} {p : Nat} {d : D} {m : Nat} {cs : List Value} {xs : List (DataW H × List MemPlace)}, tyP P n pl p d = true →
    (∀ (i : Nat) (t : TypeId) (o : Nat), pl[i]? = some (t, o) → DataW.trod enc P w 0 sp held m t ((cs.drop o).take (P.cellsOf t)) = xs[i]?) → (∀ (i : Nat) (t : TypeId) (o : Nat) (x : DataW H × List MemPlace), pl[i]? = some (t, o) → xs[i]? = some x → ∀ z ∈ x.1.weights P t, z ≤ reachBytes) → (xs.length = pl.length) →
    ∃ y : d.T, Rd w (fun k => k < w.heap.size) d y ((cs.drop p).take d.sz) ∧ Wf d y ∧ True
  | 0, _, _, _, _, _, _, h, _, _, _ => by simp [tyP] at h
  | n + 1, [], _, _, _, _, _, h, _, _, _ => by simp [tyP] at h
  | n + 1, [(t, o)], p, d, m, cs, xs, h, hx, hw, hl => by
    simp only [tyP, Bool.and_eq_true, beq_iff_eq] at h
    obtain ⟨⟨rfl, h1⟩, h2⟩ := h
    have h0 := hx 0 t o rfl
    obtain ⟨x, hx0⟩ : ∃ x, xs[0]? = some x := ⟨_, List.getElem?_eq_getElem (by simp at hl; omega)⟩
    rw [hx0] at h0
    obtain ⟨y, hy1, hy2⟩ := trod_rd n h2 h0 (hw 0 t o x rfl hx0)
    exact ⟨y, by rw [← h1]; exact hy1, hy2, trivial⟩
  | n + 1, (t, o) :: q :: r, p, d, m, cs, xs, h, hx, hw, hl => by
    simp only [tyP] at h
    split at h
    · rename_i a b
      simp only [Bool.and_eq_true, beq_iff_eq] at h
      obtain ⟨⟨⟨rfl, h1⟩, h2⟩, h3⟩ := h
      have h0 := hx 0 t o rfl
      cases xs with
      | nil => simp at hl
      | cons x xs =>
        obtain ⟨y, hy1, hy2⟩ := trod_rd n h2 h0 (hw 0 t o x rfl rfl)
        obtain ⟨z, hz1, hz2, _⟩ := trod_parts n (xs := xs) h3 (cs := cs) (fun i t' o' hi => hx (i + 1) t' o' (by simpa using hi)) (fun i t' o' x' hi hxi => hw (i + 1) t' o' x' (by simpa using hi) (by simpa using hxi)) (by simpa using hl)
        refine ⟨(y, z), ⟨_, _, ?_, hy1, hz1⟩, ⟨hy2, hz2⟩, trivial⟩
        rw [h1, D.sz, List.take_add, List.drop_drop]
    · cases h
end

/-- AN ARGUMENT THAT IS A SLICE OF DATA. -/
theorem open_list {t e : TypeId} {a : D} {n : Nat} {v : Value} {dt : DataW H} {ps : List MemPlace} {r : Reach} {b0 : Nat} (h : tyD P n t (.list a) = true) (ht : P.underlying t = some (.slice e)) (hval : Value.okWide P w r b0 t v) (hd : DataW.Trod enc P w 0 sp held t v dt ps) (hw : ∀ m ∈ dt.weights P t, m ≤ reachBytes) :
    ∃ xs : List a.T, RS (DX w (fun k => k < w.heap.size)) (.c (.dat a xs)) v ∧ Wf (.list a) xs := by
  obtain ⟨fuel, hf⟩ := hd
  obtain ⟨xs, h1, h2⟩ := trod_rd n h hf hw
  refine ⟨xs, ?_, h2⟩
  obtain ⟨a', l', c', rfl⟩ := Go.WideShapes.okWide_slice ht hval
  exact h1

theorem okWide_arr {t e : TypeId} {n : Nat} {v : Value} {r : Reach} {b0 : Nat} (ht : P.underlying t = some (.array n e)) (h : Value.okWide P w r b0 t v) : ∃ cs, v = .agg cs := by
  simp only [Value.okWide, ht] at h
  obtain ⟨cs, h1, _⟩ := h
  exact ⟨cs, h1⟩
theorem okWide_str {t : TypeId} {fs : Array Field} {v : Value} {r : Reach} {b0 : Nat} (ht : P.underlying t = some (.struct fs)) (h : Value.okWide P w r b0 t v) : ∃ cs, v = .agg cs := by
  obtain ⟨cs, h1, _⟩ := Go.WideShapes.okWide_struct ht h
  exact ⟨cs, h1⟩

/-- AN ARGUMENT THAT IS AN AGGREGATE OF DATA. -/
theorem open_agg {t : TypeId} {d : D} {n : Nat} {v : Value} {dt : DataW H} {ps : List MemPlace} (h : tyD P n t d = true) (hv : ∃ cs, v = .agg cs) (hd : DataW.Trod enc P w 0 sp held t v dt ps) (hw : ∀ m ∈ dt.weights P t, m ≤ reachBytes) :
    ∃ y : d.T, RS (DX w (fun k => k < w.heap.size)) (.agg (d.cs y)) v ∧ Wf d y := by
  obtain ⟨fuel, hf⟩ := hd
  obtain ⟨y, h1, h2⟩ := trod_rd n h hf hw
  obtain ⟨cs, rfl⟩ := hv
  exact ⟨y, ⟨cs, rfl, rl_cs (x := DX w (fun k => k < w.heap.size)) h1⟩, h2⟩

theorem sized_each {ts : List TypeId} {ds : List (DataW H)} (h : (DataW.weightsEach P ts ds).all (· ≤ reachBytes) = true) {j : Nat} {t : TypeId} {d : DataW H} (ht : ts[j]? = some t) (hd : ds[j]? = some d) : ∀ m ∈ d.weights P t, m ≤ reachBytes := by
  intro m hm
  have := List.all_eq_true.1 h m (DataW.weights_mem_each ht hd m hm)
  simpa using this
end
end OE
