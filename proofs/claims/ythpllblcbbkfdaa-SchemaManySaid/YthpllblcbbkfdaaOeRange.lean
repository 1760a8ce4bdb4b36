/- OE, part 15: rules for operations that the run does not take by itself: range over a map, two structs told equal. Own work; generic over the program. -/
import Derived.Test.YthpllblcbbkfdaaOeSub
import Derived.Maps.RangeRun
import Derived.Laws.StructEq
import Derived.Lib.Overlaps
import Derived.Lib.Bytealg
set_option linter.unusedVariables false
namespace OE
open Go Go.RowKit

/-- an operation whose run is known in each world that the state stands for -/
theorem stuck_rule {E : En} {cur : FI} {all : Array Oper} {o : Oper} {l : List Oper} {r : List It} {fr : List (Nat × SV)} {hp : List (Nat × Ob)} {nx : Nat} {stk : List Fm}
    (h : ∀ w0 η S a w, RepA w0 cur ⟨fr, hp, nx⟩ S η a w → ∃ sv v w' η' hp' nx', (execOp a.eval ⟨o.dst, o.op, o.type, o.pos, o.after, none⟩).run E.P w = .ok (.value v) w' ∧
      RepH w0 hp' (lt nx') η' w' ∧ (cxS w0 hp (lt nx) η w).le (cxS w0 hp' (lt nx') η' w') ∧ RS (cxS w0 hp' (lt nx') η' w') sv v ∧ Mean E cur (.ops all l :: r) ⟨putF cur.nt fr o.dst sv, hp', nx'⟩ stk) :
    StuckOk E cur all o l r ⟨fr, hp, nx⟩ stk := by
  refine ⟨fun w0 η S a w hS hR => ?_⟩
  obtain ⟨sv, v, w', η', hp', nx', hrun, hH, hle, hv, hm⟩ := h w0 η S a w hR
  simp only [TW, wpList, Region.wanted, if_true]
  left
  unfold Oper.wp
  rw [hrun, Oper.upon_value]
  have hR' := hR.heap hH hle
  exact hm w0 η' S _ w' hS (hR'.fr (putF_sound hR'.2.1 hv))

/-- 'range m' -/
theorem range_rule {E : En} (ht : TabOk E.P E.ti) {cur : FI} {all : Array Oper} {o : Oper} {l : List Oper} {r : List It} {fr : List (Nat × SV)} {hp : List (Nat × Ob)} {nx : Nat} {stk : List Fm} {T T' k e : TypeId} {x : Operand} {i : TI} {b : Nat} {kd0 kd vd : D} {es : List (kd.T × vd.T)}
    (ho : o.op = .range T x) (hi : E.ti T = some i) (hk : i.tk = .map k e kd0) (hx : ev fr x = .c (.mp b)) (hb : lk hp b = some (.dmp T' kd vd es))
    (hm : Mean E cur (.ops all l :: r) ⟨putF cur.nt fr o.dst (.c (.ptr nx 0)), (nx, .itr b es.length []) :: rm hp nx, nx + 1⟩ stk) : StuckOk E cur all o l r ⟨fr, hp, nx⟩ stk := by
  refine stuck_rule fun w0 η S a w hR => ?_
  have hH := hR.1.1
  have hxv := ev_sound hR.2.1 x
  rw [hx] at hxv
  obtain ⟨hbn, q, hq, hxv⟩ := hxv
  obtain ⟨rr, arr, h1, h2, h3, h4⟩ := hH.obs b _ hb
  have hq' : rr = q := by
    have hq : (η b).1 = some q := hq
    have h1 : (η b).1 = some rr := h1
    rw [h1] at hq; cases hq; rfl
  subst hq'
  have hu := (tk_map (P := E.P) (t := T) (by have := (ht.is hi).tk; rw [hk] at this; exact this)).1
  have hrun : (execOp a.eval ⟨o.dst, o.op, o.type, o.pos, o.after, none⟩).run E.P w = .ok (.value (.pointer (some ⟨w.heap.size, 0, none⟩))) (w.alloc (.mapIter (some rr) es.length #[] es.length)) := by
    simp only [execOp, ho, hxv]
    rw [Sem.run_bind, run_range_map w T k e rr arr es.length hu h2]
    rfl
  have hnx : ¬ lt nx nx := Nat.lt_irrefl _
  have htn := turns_allocr (nx := nx) (hp := hp) (η := η) (w := w) (.mapIter (some rr) es.length #[] es.length)
  have hle := step_le (p := (some w.heap.size, undef)) (ob := .itr b es.length []) hnx hH rm_sub htn (fun k hk => .inl (by cases hk; exact Nat.le_refl _))
  have hH' := step_rep (p := (some w.heap.size, undef)) (ob := .itr b es.length []) hnx hH rm_sub htn (fun k hk => .inl (by cases hk; simp)) ⟨w.heap.size, rr, by simp [cxS, upd], .inl hbn, by
      have : b ≠ nx := by intro e; subst e; exact hnx hbn
      simp only [cxS, upd, this, if_false]; exact h1, heap_alloc_new w _⟩
  rw [nmE_lt (Nat.le_succ nx)] at hle hH'
  exact ⟨.c (.ptr nx 0), _, _, _, _, _, hrun, hH', hle, ⟨Nat.lt_succ_self _, w.heap.size, by simp [cxS, upd], rfl⟩, hm⟩

theorem left_mem {kd vd : D} {es : List (kd.T × vd.T)} {arr : Array MapEntry} (h3 : RL (DmR kd vd) es arr.toList) (h4 : ∀ (i : Nat) (e : MapEntry), arr[i]? = some e → e.born = i) {seen : List Nat} {e : MapEntry} (he : e ∈ (leftOf arr seen.toArray).toList) :
    ∃ (i : Nat) (hi : i < es.length), i ∉ seen ∧ arr[i]? = some e ∧ e.born = i ∧ e.key = kd.v es[i].1 ∧ e.val = vd.v es[i].2 := by
  simp only [leftOf, Array.toList_filter, List.mem_filter] at he
  obtain ⟨h1, h2⟩ := he
  obtain ⟨i, hi, rfl⟩ := List.getElem_of_mem h1
  have hi' : i < arr.size := by simpa using hi
  have hget : arr[i]? = some arr.toList[i] := by simp [hi']
  obtain ⟨p, hp, g1, g2⟩ := RL.at_ h3 (i := i) (b := arr.toList[i]) (by simp [hi'])
  obtain ⟨hlt, rfl⟩ := List.getElem?_eq_some_iff.1 hp
  have hb := h4 i _ hget
  exact ⟨i, hlt, by rw [hb] at h2; simpa using h2, hget, hb, g1, g2⟩

/-- 'next' over a map: nothing is left; or any entry that is left -/
theorem next_rule {E : En} {cur : FI} {all : Array Oper} {o : Oper} {l : List Oper} {r : List It} {fr : List (Nat × SV)} {hp : List (Nat × Ob)} {nx : Nat} {stk : List Fm} {T' : TypeId} {x : Operand} {b m : Nat} {kd vd : D} {es : List (kd.T × vd.T)} {n : Nat} {seen : List Nat}
    (ho : o.op = .next x false) (hx : ev fr x = .c (.ptr b 0)) (hb : lk hp b = some (.itr m n seen)) (hm : lk hp m = some (.dmp T' kd vd es)) (hn : n = es.length) (hkp : kd.plain = true) (hvp : vd.plain = true)
    (h1 : (∀ i, i < es.length → i ∈ seen) → Mean E cur (.ops all l :: r) ⟨putF cur.nt fr o.dst (.tup [(false, [.bool .ff])]), hp, nx⟩ stk)
    (h2 : ∀ (i : Nat) (hi : i < es.length), i ∉ seen → Mean E cur (.ops all l :: r) ⟨putF cur.nt fr o.dst (.tup [(false, [.bool .tt]), partD kd es[i].1, partD vd es[i].2]), (b, .itr m n (seen ++ [i])) :: rm hp b, nx⟩ stk) :
    StuckOk E cur all o l r ⟨fr, hp, nx⟩ stk := by
  refine stuck_rule fun w0 η S a w hR => ?_
  have hH := hR.1.1
  have hxv := ev_sound hR.2.1 x
  rw [hx] at hxv
  obtain ⟨hbn, kk, hkk, hxv⟩ := hxv
  obtain ⟨rr, q, g1, g2, g3, g4⟩ := hH.obs b _ hb
  obtain ⟨q', arr, e1, e2, e3, e4, e5, e6⟩ := hH.obs m _ hm
  have hq' : kk = rr := by
    have hkk : (η b).1 = some kk := hkk
    have g1 : (η b).1 = some rr := g1
    rw [g1] at hkk; cases hkk; rfl
  subst hq'
  have hq2 : q' = q := by
    have e1 : (η m).1 = some q' := e1
    have g3 : (η m).1 = some q := g3
    rw [g3] at e1; cases e1; rfl
  subst hq2
  subst hn
  have hlen : arr.size = es.length := by have := RL.len e3; simpa using this.symm
  have hold : ∀ y ∈ arr.toList, y.born < es.length := fun y hy => by
    obtain ⟨i, hi, rfl⟩ := List.getElem_of_mem hy
    have hi' : i < arr.size := by simpa using hi
    rw [e4 i _ (by simp [hi'])]; omega
  have hex : ∀ w'' v, (Instr.next (.pointer (some ⟨kk, 0, none⟩)) false o.type).run E.P w = .ok v w'' → (execOp a.eval ⟨o.dst, o.op, o.type, o.pos, o.after, none⟩).run E.P w = .ok (.value v) w'' := fun w'' v hrun => by
    simp only [execOp, ho, hxv]
    have : (⟨kk, 0 + 0, none⟩ : Addr) = ⟨kk, 0, none⟩ := rfl
    rw [Sem.run_bind, hrun]
    rfl
  rcases run_next_at (P := E.P) w o.type kk q' es.length es.length seen.toArray arr es.length g4 e2 hold (Nat.le_refl _) with ⟨h0, hrun⟩ | ⟨e, he, w1, hw1, hrun⟩
  · refine ⟨.tup [(false, [.bool .ff])], _, _, η, hp, nx, hex _ _ hrun, hH, Cx.le.refl _, ⟨_, rfl, ⟨⟨.bool .ff, rfl, rfl⟩, trivial⟩⟩, h1 fun i hi => ?_⟩
    apply Classical.byContradiction
    intro hns
    have hi' : i < arr.size := by omega
    have : arr.toList[i]'(by simpa using hi') ∈ (leftOf arr seen.toArray).toList := by
      simp only [leftOf, Array.toList_filter, List.mem_filter]
      refine ⟨List.getElem_mem _, ?_⟩
      rw [e4 i _ (by simp [hi'])]
      simpa using hns
    have h0 : (leftOf arr seen.toArray).toList.length = 0 := by simpa using h0
    rw [List.length_eq_zero_iff.1 h0] at this
    cases this
  · obtain ⟨i, hi, hns, hget, hborn, hkey, hval⟩ := left_mem e3 e4 he
    have hheap : w1.heap = w.heap := by rcases hw1 with rfl | rfl <;> rfl
    have hos : w1.os = w.os := by rcases hw1 with rfl | rfl <;> rfl
    have htp : w1.tape = w.tape := by rcases hw1 with rfl | rfl <;> rfl
    have hout : w1.output = w.output := by rcases hw1 with rfl | rfl <;> rfl
    have hklt : kk < w1.heap.size := by rw [hheap]; exact (Array.getElem?_eq_some_iff.1 g4).1
    have hset : (ChangeMaps.setBlock w1 kk (.mapIter (some q') es.length (seen.toArray.push e.born) es.length)).heap[kk]? = some (.mapIter (some q') es.length (seen ++ [i]).toArray es.length) := by
      simp [ChangeMaps.setBlock, hklt, hborn]
    have hnm : lk hp b ≠ none := by rw [hb]; simp
    obtain ⟨k1, k2⟩ := step_set (w' := ChangeMaps.setBlock w1 kk (.mapIter (some q') es.length (seen.toArray.push e.born) es.length)) (ob' := .itr m es.length (seen ++ [i])) hH (b := b) (k := kk) hnm hkk hos htp hout (by simp [ChangeMaps.setBlock, hheap])
      (fun j hj => by simp only [ChangeMaps.setBlock]; rw [Array.getElem?_setIfInBounds_ne (Ne.symm hj), hheap]) ⟨kk, q', g1, g2, g3, hset⟩
    refine ⟨.tup [(false, [.bool .tt]), partD kd es[i].1, partD vd es[i].2], _, _, η, _, nx, hex _ _ hrun, k1, k2, ⟨_, rfl, ⟨⟨.bool .tt, rfl, rfl⟩, ?_, ?_, trivial⟩⟩, h2 i hi hns⟩
    · rw [hkey]; exact partD_sound _ hkp
    · rw [hval]; exact partD_sound _ hvp

/-- the entry that 'next' has come to -/
theorem entry_rule {E : En} {cur : FI} {all : Array Oper} {o : Oper} {l : List Oper} {r : List It} {fr : List (Nat × SV)} {hp : List (Nat × Ob)} {nx : Nat} {stk : List Fm} {T' : TypeId} {x : Operand} {b m : Nat} {kd vd : D} {es : List (kd.T × vd.T)} {n : Nat} {seen : List Nat} {i : Nat}
    (ho : o.op = .entry x) (hx : ev fr x = .c (.ptr b 0)) (hb : lk hp b = some (.itr m n (seen ++ [i]))) (hm : lk hp m = some (.dmp T' kd vd es)) (hn : n = es.length) (hi : i < es.length) (hkp : kd.plain = true) (hvp : vd.plain = true)
    (h2 : Mean E cur (.ops all l :: r) ⟨putF cur.nt fr o.dst (.tup [partD kd es[i].1, partD vd es[i].2]), hp, nx⟩ stk) :
    StuckOk E cur all o l r ⟨fr, hp, nx⟩ stk := by
  refine stuck_rule fun w0 η S a w hR => ?_
  have hH := hR.1.1
  have hxv := ev_sound hR.2.1 x
  rw [hx] at hxv
  obtain ⟨hbn, kk, hkk, hxv⟩ := hxv
  obtain ⟨rr, q, g1, g2, g3, g4⟩ := hH.obs b _ hb
  obtain ⟨q', arr, e1, e2, e3, e4, e5, e6⟩ := hH.obs m _ hm
  have hq' : kk = rr := by
    have hkk : (η b).1 = some kk := hkk
    have g1 : (η b).1 = some rr := g1
    rw [g1] at hkk; cases hkk; rfl
  subst hq'
  have hq2 : q' = q := by
    have e1 : (η m).1 = some q' := e1
    have g3 : (η m).1 = some q := g3
    rw [g3] at e1; cases e1; rfl
  subst hq2
  subst hn
  have hlen : arr.size = es.length := by have := RL.len e3; simpa using this.symm
  have hi' : i < arr.size := by omega
  have hget : arr[i]? = some arr[i] := by simp [hi']
  have hborn := e4 i _ hget
  obtain ⟨p, hp', f1, f2⟩ := RL.at_ e3 (i := i) (b := arr[i]) (by simp [hi'])
  obtain ⟨hlt, rfl⟩ := List.getElem?_eq_some_iff.1 hp'
  have hnd : (arr.toList.map (·.born)).Nodup := by
    have : arr.toList.map (·.born) = List.range arr.toList.length := by
      refine List.ext_getElem (by simp) fun j h1 h2 => ?_
      have hj : j < arr.size := by simpa using h1
      simp [e4 j _ (by simp [hj] : arr[j]? = some arr[j])]
    rw [this]
    exact List.nodup_range
  have hrun := run_entry_at (P := E.P) w kk q' es.length seen.toArray arr es.length arr[i] (by rw [show w.heap[kk]? = _ from g4, hborn]; simp) e2 (by simp) hnd
  refine ⟨.tup [partD kd es[i].1, partD vd es[i].2], .tuple #[arr[i].key, arr[i].val], w, η, hp, nx, ?_, hH, Cx.le.refl _, ⟨_, rfl, ⟨?_, ?_, trivial⟩⟩, h2⟩
  · simp only [execOp, ho, hxv]
    rw [Sem.run_bind, hrun]
    rfl
  · rw [f1]; exact partD_sound _ hkp
  · rw [f2]; exact partD_sound _ hvp

/-! ### two structs told equal -/

/-- types that are told equal part by part, of this kind of data -/
def eqtB (P : Program) : Nat → TypeId → D → Bool
  | 0, _, _ => false
  | n + 1, t, d => match P.underlying t with
    | some (.int k) => decide (d = .int k)
    | some .bool => decide (d = .bool)
    | some .string => decide (d = .str)
    | some (.struct fs) => (match d with | .pair _ _ => true | _ => false) && d.plain && P.cellsOf t == d.sz && !P.stoodInHeld t && fs.all (fun f => f.name != "_" && (P.info? f.type).isSome) && partsB P (eqtB P n) (fs.toList.map fun f => (f.type, f.offset)) 0 d
    | _ => false

theorem eqt_plain {P : Program} {n : Nat} {t : TypeId} {d : D} (h : eqtB P n t d = true) : d.plain = true := by
  cases n with
  | zero => simp [eqtB] at h
  | succ n =>
    unfold eqtB at h
    split at h
    · simp only [decide_eq_true_eq] at h; subst h; rfl
    · simp only [decide_eq_true_eq] at h; subst h; rfl
    · simp only [decide_eq_true_eq] at h; subst h; rfl
    · simp only [Bool.and_eq_true] at h; exact h.1.1.1.1.2
    · cases h

section
variable {P : Program} (w : World)

theorem run_part_of {n : Nat} {t : TypeId} {d : D} (h : eqtB P n t d = true) (hi : (P.info? t).isSome = true) (hsz : P.cellsOf t = d.sz) {cs : Array Value} {o : Nat} {y : d.T} (hc : (cs.toList.drop o).take d.sz = d.vs y) :
    (part t cs o).run P w = .ok (d.v y) w := by
  have hpl := eqt_plain h
  obtain ⟨j, hj⟩ := Option.isSome_iff_exists.1 hi
  have hsz' : j.size = d.sz := by
    have : P.cellsOf t = j.size := by simp [Program.cellsOf, hj]
    omega
  cases n with
  | zero => simp [eqtB] at h
  | succ n =>
    have one : d.sz = 1 → ∀ u, d.vs y = [u] → cs[o]? = some u := fun h1 u hu => by
      rw [h1, hu] at hc
      have := congrArg (fun l => l[0]?) hc
      simpa using this
    unfold eqtB at h
    split at h
    · rename_i k hu
      simp only [decide_eq_true_eq] at h; subst h
      unfold part isAgg
      simp [run_underlying hu, one rfl _ rfl, D.v]
    · rename_i hu
      simp only [decide_eq_true_eq] at h; subst h
      unfold part isAgg
      simp [run_underlying hu, one rfl _ rfl, D.v]
    · rename_i hu
      simp only [decide_eq_true_eq] at h; subst h
      unfold part isAgg
      simp [run_underlying hu, one rfl _ rfl, D.v]
    · rename_i fs hu
      simp only [Bool.and_eq_true] at h
      cases d with
      | pair a b =>
        rw [run_part hu hj hsz' cs o w, if_pos (show isAggD (some (TypeDesc.struct fs)) = true from rfl)]
        congr 1
        simp only [D.v, Value.agg.injEq]
        apply Array.ext'
        rw [← hc]
        simp [List.take_drop]
      | _ => simp at h
    · cases h

theorem eqt_fields {n m : Nat} (ih : ∀ {t : TypeId} {d : D} {x y : d.T}, eqtB P n t d = true → (Op.equalIn m t (d.v x) (d.v y)).run P w = .ok (d.eqb x y) w) :
    ∀ {fl : List Field} {p : Nat} {d : D} {x y : d.T} {xs ys : Array Value}, d.plain = true → (∀ f ∈ fl, f.name ≠ "_" ∧ (P.info? f.type).isSome = true) → partsB P (eqtB P n) (fl.map fun f => (f.type, f.offset)) p d = true →
      (xs.toList.drop p).take d.sz = d.vs x → (ys.toList.drop p).take d.sz = d.vs y → (Op.eqFields m xs ys fl).run P w = .ok (d.eqb x y) w
  | [], _, _, _, _, _, _, _, _, h, _, _ => by simp [partsB] at h
  | [f], p, d, x, y, xs, ys, hp, hf, h, hx, hy => by
    simp only [List.map_cons, List.map_nil, partsB, Bool.and_eq_true, beq_iff_eq] at h
    obtain ⟨⟨rfl, h1⟩, h2⟩ := h
    obtain ⟨f1, f2⟩ := hf f (by simp)
    simp only [Op.eqFields, ne_eq, f1, not_false_eq_true, if_true, Sem.run_bind, run_part_of w h2 f2 h1 hx, run_part_of w h2 f2 h1 hy, Result.andThen_ok, ih h2]
    cases d.eqb x y <;> simp
  | f :: g :: r, p, d, x, y, xs, ys, hp, hf, h, hx, hy => by
    simp only [List.map_cons, partsB] at h
    split at h
    · rename_i a b
      simp only [Bool.and_eq_true, beq_iff_eq] at h
      obtain ⟨⟨⟨rfl, h1⟩, h2⟩, h3⟩ := h
      simp only [D.plain, Bool.and_eq_true] at hp
      obtain ⟨f1, f2⟩ := hf f (by simp)
      have cut : ∀ {cs : List Value} {z : (D.pair a b).T}, (cs.drop f.offset).take (D.pair a b).sz = (D.pair a b).vs z → (cs.drop f.offset).take a.sz = a.vs z.1 ∧ (cs.drop (f.offset + a.sz)).take b.sz = b.vs z.2 := by
        intro cs z hc
        simp only [D.sz, D.vs, List.take_add, List.drop_drop] at hc
        have hl : ((cs.drop f.offset).take a.sz).length = (a.vs z.1).length := by
          have := congrArg List.length hc
          have ha := D.vs_len z.1 hp.1
          have hb := D.vs_len z.2 hp.2
          simp only [List.length_append, List.length_take, List.length_drop, ha, hb] at this ⊢
          have := b.sz_pos
          omega
        exact List.append_inj hc hl
      obtain ⟨x1, x2⟩ := cut hx
      obtain ⟨y1, y2⟩ := cut hy
      have := eqt_fields ih (fl := g :: r) (xs := xs) (ys := ys) hp.2 (fun q hq => hf q (List.mem_cons_of_mem _ hq)) h3 x2 y2
      rw [Op.eqFields]
      simp only [ne_eq, f1, not_false_eq_true, if_true, Sem.run_bind, run_part_of w h2 f2 h1 x1, run_part_of w h2 f2 h1 y1, Result.andThen_ok, ih h2, D.eqb]
      cases a.eqb x.1 y.1
      · simp
      · simpa using this
    · cases h

theorem run_eqt : ∀ (n : Nat) {m : Nat} {t : TypeId} {d : D} {x y : d.T}, n ≤ m → eqtB P n t d = true → (Op.equalIn m t (d.v x) (d.v y)).run P w = .ok (d.eqb x y) w
  | 0, _, _, _, _, _, _, h => by simp [eqtB] at h
  | n + 1, 0, _, _, _, _, hm, _ => by omega
  | n + 1, m + 1, t, d, x, y, hm, h => by
    have hpl := eqt_plain h
    unfold eqtB at h
    split at h
    · rename_i k hu
      simp only [decide_eq_true_eq] at h; subst h
      simp only [D.v, D.eqb]
      rw [run_equalIn_int w m t k k x y hu]
      congr 1
    · rename_i hu
      simp only [decide_eq_true_eq] at h; subst h
      simp only [D.v, D.eqb]
      rw [run_equalIn_bool' w m t x y hu]
      congr 1
    · rename_i hu
      simp only [decide_eq_true_eq] at h; subst h
      simp only [D.v, D.eqb]
      rw [run_equalIn_string w m t _ _ hu]
      congr 1
      rw [ByteArray.toList_eq, ByteArray.toList_eq]
      show (List.beq x y) = decide (x = y)
      have : ∀ a b : List UInt8, (a == b) = decide (a = b) := fun a b => by
        by_cases h : a = b
        · simp [h]
        · simp [h]
      exact this x y
    · rename_i fs hu
      simp only [Bool.and_eq_true, beq_iff_eq, Bool.not_eq_true', Array.all_eq_true_iff_forall_mem, bne_iff_ne] at h
      obtain ⟨⟨⟨⟨⟨h1, h2⟩, h3⟩, h4⟩, h5⟩, h6⟩ := h
      have hfo : P.fieldsOf t = fs := by simp [Program.fieldsOf, hu]
      cases d with
      | pair a b =>
        simp only [D.v]
        rw [run_equalIn_struct w m t _ _ (by rw [hfo]; exact hu) h4, hfo]
        refine eqt_fields w (n := n) (fun h => run_eqt n (by omega) h) hpl (fun f hf => by simpa using h5 f (by simpa using hf)) h6 ?_ ?_
        · rw [List.drop_zero, ← D.vs_len x hpl]; simp
        · rw [List.drop_zero, ← D.vs_len y hpl]; simp
      | _ => simp at h1
    · cases h
end

def isPr : D → Bool
  | .pair _ _ => true
  | _ => false
/-- '==' between two structs of plain data -/
theorem eqs_rule {E : En} {cur : FI} {all : Array Oper} {o : Oper} {l : List Oper} {r : List It} {fr : List (Nat × SV)} {hp : List (Nat × Ob)} {nx : Nat} {stk : List Fm} {t rt : TypeId} {x y : Operand} (d : D) {p q : d.T} {n : Nat}
    (ho : o.op = .binOp .eql t x y rt) (hB : eqtB E.P n t d = true) (hn : Nat.ble n 10000 = true) (hg : E.P.eqGuardType E.P.depth t = false) (hpr : isPr d = true) (hx : psS d (ev fr x) = some p) (hy : psS d (ev fr y) = some q)
    (hm : Mean E cur (.ops all l :: r) ⟨putF cur.nt fr o.dst (.c (.bool (.sym (d.eqb p q)))), hp, nx⟩ stk) : StuckOk E cur all o l r ⟨fr, hp, nx⟩ stk := by
  refine stuck_rule fun w0 η S a w hR => ?_
  have hpl := eqt_plain hB
  have hxv := psS_sound hpl hx (ev_sound hR.2.1 x)
  have hyv := psS_sound hpl hy (ev_sound hR.2.1 y)
  have he := run_eqt (P := E.P) w n (m := 10000) (x := p) (y := q) (Nat.le_of_ble_eq_true hn) hB
  refine ⟨.c (.bool (.sym (d.eqb p q))), .bool (d.eqb p q), w, η, hp, nx, ?_, hR.1.1, Cx.le.refl _, rfl, hm⟩
  cases d with
  | pair a b =>
    simp only [execOp, ho, hxv, hyv]
    simp only [D.v] at he ⊢
    rw [Sem.run_bind, Sem.run_bind, run_eqGuard_agg w _ _ _ _ _ _ hg]
    simp only [Result.andThen_ok]
    rw [run_eql_struct, he]
    rfl
  | _ => simp [isPr] at hpr

/-! ### an own row's capacity is known from here on -/

def rpC (b : Nat) (y : C) : C → C
  | .row b' => match Nat.beq b' b with | true => y | false => .row b'
  | c => c
def rpT (b : Nat) (y : C) : List (Bool × List C) → List (Bool × List C)
  | [] => []
  | (g, l) :: r => (g, l.map (rpC b y)) :: rpT b y r
def rpS (b : Nat) (y : C) : SV → SV
  | .c x => .c (rpC b y x)
  | .agg l => .agg (l.map (rpC b y))
  | .tup l => .tup (rpT b y l)
  | .un => .un
def rpF (b : Nat) (y : C) : List (Nat × SV) → List (Nat × SV)
  | [] => []
  | (t, s) :: r => (t, rpS b y s) :: rpF b y r

section
variable {x : Cx} {b : Nat} {y : C}
theorem rpC_sound (hy : ∀ v, RC x (.row b) v → RC x y v) {c : C} {v : Value} (h : RC x c v) : RC x (rpC b y c) v := by
  unfold rpC
  split
  · split
    · rename_i e
      have e := Nat.eq_of_beq_eq_true e
      subst e
      exact hy v h
    · exact h
  · exact h
theorem rpL_sound (hy : ∀ v, RC x (.row b) v → RC x y v) : ∀ {l : List C} {m : List Value}, RL (RC x) l m → RL (RC x) (l.map (rpC b y)) m
  | [], [], _ => trivial
  | _ :: _, _ :: _, ⟨h1, h2⟩ => ⟨rpC_sound hy h1, rpL_sound hy h2⟩
  | [], _ :: _, h => h.elim
  | _ :: _, [], h => h.elim
theorem rpT_sound (hy : ∀ v, RC x (.row b) v → RC x y v) : ∀ {l : List (Bool × List C)} {m : List Value}, RL (RP x) l m → RL (RP x) (rpT b y l) m
  | [], [], _ => trivial
  | (g, l) :: _, _ :: _, ⟨h1, h2⟩ => by
    refine ⟨?_, rpT_sound hy h2⟩
    unfold RP at *
    cases g with
    | true =>
      simp only [if_true] at h1 ⊢
      obtain ⟨vs, e, h⟩ := h1
      exact ⟨vs, e, rpL_sound hy h⟩
    | false =>
      simp only [Bool.false_eq_true, if_false] at h1 ⊢
      obtain ⟨y, rfl, h⟩ := h1
      exact ⟨_, rfl, rpC_sound hy h⟩
  | [], _ :: _, h => h.elim
  | _ :: _, [], h => h.elim
theorem rpS_sound (hy : ∀ v, RC x (.row b) v → RC x y v) {s : SV} {v : Value} (h : RS x s v) : RS x (rpS b y s) v := by
  cases s with
  | c x => exact rpC_sound hy h
  | agg l => obtain ⟨vs, e, h⟩ := h; exact ⟨vs, e, rpL_sound hy h⟩
  | tup l => obtain ⟨vs, e, h⟩ := h; exact ⟨vs, e, rpT_sound hy h⟩
  | un => trivial
theorem lk_rpF : ∀ (fr : List (Nat × SV)) (t : Nat), lk (rpF b y fr) t = (lk fr t).map (rpS b y)
  | [], _ => rfl
  | (c, s) :: r, t => by
    simp only [rpF, lk]
    split
    · rfl
    · exact lk_rpF r t
end

/-- AN OWN ROW THAT IS NOT EMPTY: what its capacity is, is a number from here on. -/
theorem open_rule {E : En} {cur : FI} {t : List It} {fr : List (Nat × SV)} {hp : List (Nat × Ob)} {nx : Nat} {stk : List Fm} {b : Nat} {T : TypeId} {d : D} {xs : List d.T} (hb : lk hp b = some (.row T d xs)) (hne : xs.length ≠ 0)
    (hm : ∀ c, xs.length ≤ c → c ≤ 9223372036854775807 → Mean E cur t ⟨rpF b (.sub b 0 d.sz xs.length c) fr, (b, .wid T d xs c) :: rm hp b, nx⟩ stk) : Mean E cur t ⟨fr, hp, nx⟩ stk := by
  intro w0 η S a w hS hR
  have hH := hR.1.1
  obtain ⟨cs, r1, r2, r3⟩ := hH.obs b _ hb
  have r1 : (η b).1 = (η b).2.ownBlock := r1
  have r2 : w.ownsRow 0 T d.sz (η b).2 xs.length cs := r2
  rcases r2.2 with ⟨_, h0⟩ | ⟨g, cap, cur', hv, _, hg, hc1, hc2, hc3, hc4⟩
  · exact (hne h0).elim
  have hg1 : (η b).1 = some g := by rw [r1, hv]; rfl
  have hdom : ∀ c, (lk ((b, Ob.wid T d xs cap) :: rm hp b) c ≠ none) = (lk hp c ≠ none) := fun c => by
    rw [lk_put, eq_iff_iff]
    by_cases hc : c = b
    · subst hc; simp [hb]
    · simp [hc]
  have hok : okS w0 ((b, Ob.wid T d xs cap) :: rm hp b) η w = okS w0 hp η w := by funext k; simp only [okS, hdom]
  have hcx : cxS w0 ((b, Ob.wid T d xs cap) :: rm hp b) (lt nx) η w = cxS w0 hp (lt nx) η w := by unfold cxS; rw [hok]
  have hy : ∀ v, RC (cxS w0 hp (lt nx) η w) (.row b) v → RC (cxS w0 hp (lt nx) η w) (.sub b 0 d.sz xs.length cap) v := fun v ⟨h1, h2, _⟩ => by
    have h2 : v = (η b).2 := h2
    exact ⟨h1, hc1, hc2, g, 0, hg1, by rw [h2, hv], fun _ => by simp⟩
  refine hm cap hc1 (by simpa only [maxLen_eq] using hc2) w0 η S a w hS ⟨⟨⟨fun c o ho => ?_, fun c e k h1 h2 => hH.sep c e k (by rw [← hdom]; exact h1) (by rw [← hdom]; exact h2), fun c k h1 => hH.new c k (by rw [← hdom]; exact h1), fun c h1 => hH.nxt c (by rw [← hdom]; exact h1), hH.bel⟩, hR.1.2⟩, ?_, fun p hp => ⟨?_, (hR.2.2 p hp).2⟩⟩
  · rw [hcx]
    rw [lk_put] at ho
    by_cases hc : c = b
    · subst hc
      simp only [if_true, Option.some.injEq] at ho
      subst ho
      exact ⟨g, cur', hg1, hg, hc3, hc1, hc2, by rw [hc4]; exact r3⟩
    · simp only [hc, if_false] at ho
      exact hH.obs c o ho
  · rw [hcx]
    refine ⟨fun t' sv ht => ?_, hR.2.1.siz, hR.2.1.dfr⟩
    rw [lk_rpF] at ht
    cases h : lk fr t' with
    | none => rw [h] at ht; cases ht
    | some s =>
      rw [h] at ht
      simp only [Option.map_some, Option.some.injEq] at ht
      subst ht
      obtain ⟨v, h1, h2⟩ := hR.2.1.sl t' s h
      exact ⟨v, h1, rpS_sound hy h2⟩
  · rw [hcx]
    exact (hR.2.2 p hp).1

/-- a call's operation comes to the call, whatever is called -/
theorem run_cl {E : En} {x : Cx} {g : Operand → SV} {ρ : Operand → Value} (hg : ∀ o, RS x (g o) (ρ o)) {o : Oper} {f : Nat} {args : List SV} (h : cl g o.op = some (f, args)) :
    ∃ vs : Array Value, RL (RS x) args vs.toList ∧ ∀ w, (execOp ρ o).run E.P w = (callFunc f vs).run E.P w := by
  unfold cl at h
  split at h
  · rename_i c ho
    split at h
    · rename_i X hc
      split at h
      · rename_i f' caps hX
        simp only [Option.some.injEq, Prod.mk.injEq] at h
        obtain ⟨rfl, rfl⟩ := h
        have hx := hg X
        rw [hX] at hx
        obtain ⟨cs, e, hcs⟩ := hx
        refine ⟨c.args.map ρ ++ cs, ?_, fun w => ?_⟩
        · rw [Array.toList_append]
          refine RL.app ?_ ?_
          · have := rl_map hg c.args.toList
            simpa using this
          · exact caps_rs hcs
        · simp only [execOp, ho, resolve, hc, e, Deferred.ofValue, invoke, Sem.run_bind, Sem.run_pure, Result.andThen_ok, Array.empty_append]
      · rename_i f' b off hX
        simp only [Option.some.injEq, Prod.mk.injEq] at h
        obtain ⟨rfl, rfl⟩ := h
        have hx := hg X
        rw [hX] at hx
        obtain ⟨g1, k, g2, e⟩ := hx
        refine ⟨#[.pointer (some ⟨k, off, none⟩)] ++ c.args.map ρ, ?_, fun w => ?_⟩
        · rw [Array.toList_append]
          refine ⟨⟨g1, k, g2, rfl⟩, ?_⟩
          have := rl_map hg c.args.toList
          simpa using this
        · simp only [execOp, ho, resolve, hc, e, Deferred.ofValue, invoke, Sem.run_bind, Sem.run_pure, Result.andThen_ok, Array.append_empty]
      · cases h
    · cases h
  · cases h

theorem rl_two {x : Cx} {s t : SV} {vs : Array Value} (h : RL (RS x) [s, t] vs.toList) : ∃ v u, vs = #[v, u] ∧ RS x s v ∧ RS x t u := by
  obtain ⟨l⟩ := vs
  match l, h with
  | [v, u], ⟨h1, h2, _⟩ => exact ⟨v, u, rfl, h1, h2⟩

/-- slices.overlaps, at a row of the call's own and a part of another one -/
theorem ovl_rule {E : En} (hE : EnOk E) {cur : FI} {f : Nat} {fn : Func} {all : Array Oper} {o : Oper} {l : List Oper} {r : List It} {fr : List (Nat × SV)} {hp : List (Nat × Ob)} {nx : Nat} {stk : List Fm} {tS tR e T2 T : TypeId} {i : TI} {b2 b o1 sz n c c0 : Nat} {d2 d : D} {ys : List d2.T} {xs : List d.T}
    (hf : E.P.funcs[f]? = some fn) (hname : (fn.name == "runtime.NumGoroutine") = false) (hb : fn.body.isNone = true) (hn : Extern.findNext fn = none) (he : Extern.find fn = some (Extern.SlicesOverlaps.overlaps #[tS, tS] #[tR])) (hi : E.ti tS = some i) (hk : i.tk = .slice e) (hes : (sz? E.ti e).isSome = true)
    (h2 : lk hp b2 = some (.row T2 d2 ys)) (h1 : lk hp b = some (.wid T d xs c0)) (hne : Nat.beq b2 b = false) (hy : ys.length ≠ 0) (hx : xs.length ≠ 0)
    (hm : Mean E cur (.ops all l :: r) ⟨putF cur.nt fr o.dst (.c (.bool .ff)), hp, nx⟩ stk) : CallOk E cur f [.c (.row b2), .c (.sub b o1 sz n c)] all o l r ⟨fr, hp, nx⟩ stk := by
  refine ⟨?_⟩
  rintro ⟨args0, hcl, ha⟩
  refine (stuck_rule (o := o) fun w0 η S a w hR => ?_).out
  obtain ⟨vs, hvs, hrun⟩ := run_cl (E := E) (ev_sound hR.2.1) (o := ⟨o.dst, o.op, o.type, o.pos, o.after, none⟩) hcl
  have hvs := nzs_sound hvs
  rw [← ha] at hvs
  obtain ⟨v, u, rfl, ⟨g1, g2, _⟩, ⟨_, _, _, k, o', gk, gu, _⟩⟩ := rl_two hvs
  have hH := hR.1.1
  obtain ⟨cs, r1, r2, r3⟩ := hH.obs b2 _ h2
  have r1 : (η b2).1 = (η b2).2.ownBlock := r1
  have r2 : w.ownsRow 0 T2 d2.sz (η b2).2 ys.length cs := r2
  have g2 : v = (η b2).2 := g2
  rcases r2.2 with ⟨_, h0⟩ | ⟨g, cap, cur2, hv, _, hg, hc1, hc2, hc3, hc4⟩
  · exact (hy h0).elim
  obtain ⟨k3, cur3, hk3, hcur, hcs3, hlc, hcm', hf3⟩ := hH.obs b _ h1
  have hkk : k3 = k := by have : some k3 = some k := hk3.symm.trans gk; simpa using this
  subst hkk
  have hgk : g ≠ k3 := fun e => by
    have hb2 : (η b2).1 = some g := by rw [r1, hv]; rfl
    have := hH.sep b2 b g (by rw [h2]; simp) (by rw [h1]; simp) hb2 (by rw [e]; exact hk3)
    subst this
    simp at hne
  have is := hE.tab.is hi
  have hu : E.P.underlying tS = some (.slice e) := by
    have := is.tk
    rw [hk] at this
    exact tk_slice this
  obtain ⟨sze, hsze⟩ := Option.isSome_iff_exists.1 hes
  obtain ⟨ie, hie, hie2⟩ := sz_some hsze
  obtain ⟨j, hj, hjs, _⟩ := (hE.tab.is hie).info
  have hcur0 : cur3.size ≠ 0 := by
    rw [hcs3]
    exact Nat.mul_ne_zero (by omega) (by have := D.sz_pos d; omega)
  have hov := Lib.run_overlaps_apart (P := E.P) w tS tR e hu sze (fun w' => by simp [Go.sizeOf, typeInfo, hj, hjs, hie2]) ⟨g, 0, none⟩ ⟨k3, o', none⟩ ys.length cap n c hgk T2 T cur2.size cur3.size (by simp [World.shape?, hg]) (by have : w.heap[k3]? = some (.cells cur3 T (0, 0)) := hcur; simp only [World.shape?, this]) hcur0
    (by simp [World.frozen?, hg]) (by have : w.heap[g]? = some (.cells cur2 T2 (0, 0)) := hg; simp only [World.frozen?, this]; simp)
  refine ⟨.c (.bool .ff), .bool false, w, η, hp, nx, ?_, hH, Cx.le.refl _, rfl, hm⟩
  rw [hrun, run_callFunc_extern hf hname hb hn he, g2, hv, gu, hov]
  rfl

/-- the machine's own comparison of two texts -/
theorem cmps_rule {E : En} {cur : FI} {f : Nat} {fn : Func} {all : Array Oper} {o : Oper} {l : List Oper} {r : List It} {fr : List (Nat × SV)} {hp : List (Nat × Ob)} {nx : Nat} {stk : List Fm} {a b : List UInt8}
    (hf : E.P.funcs[f]? = some fn) (hname : (fn.name == "runtime.NumGoroutine") = false) (hb : fn.body.isNone = true) (hn : Extern.findNext fn = none) (he : Extern.find fn = some Extern.BytealgCompare.compare)
    (hm : Mean E cur (.ops all l :: r) ⟨putF cur.nt fr o.dst (.c (.int .i64 (Lib.compareBytes a b))), hp, nx⟩ stk) : CallOk E cur f [.c (.str a), .c (.str b)] all o l r ⟨fr, hp, nx⟩ stk := by
  refine ⟨?_⟩
  rintro ⟨args0, hcl, ha⟩
  refine (stuck_rule (o := o) fun w0 η S ac w hR => ?_).out
  obtain ⟨vs, hvs, hrun⟩ := run_cl (E := E) (ev_sound hR.2.1) (o := ⟨o.dst, o.op, o.type, o.pos, o.after, none⟩) hcl
  have hvs := nzs_sound hvs
  rw [← ha] at hvs
  obtain ⟨v, u, rfl, gv, gu⟩ := rl_two hvs
  have gv := rs_str gv
  have gu := rs_str gu
  refine ⟨.c (.int .i64 (Lib.compareBytes a b)), .int .i64 (Lib.compareBytes a b), w, η, hp, nx, ?_, hR.1.1, Cx.le.refl _, rfl, hm⟩
  rw [hrun, run_callFunc_extern hf hname hb hn he, gv, gu, Lib.run_compareString]
  rfl
end OE
