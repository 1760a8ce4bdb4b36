/- OE, part 4b: slice literals and append; all effects together. Own work; generic over the program. -/
import Derived.Test.YthpllblcbbkfdaaOeEffect
import Derived.Lib.AppendZerosOnto
set_option linter.unusedVariables false
namespace OE
open Go Go.RowKit

variable {P : Program}

theorem bsV_sound {ti : Nat → Option TI} (ht : TabOk P ti) {w0 : W0} {hp hq : List (Nat × Ob)} {nm : Nat → Prop} {nx : Nat} {η : Nat → Option Nat × Value} {w : World} (hnx : ¬ nm nx) (hH : RepH w0 hp nm η w) (hs : ∀ b o, lk hq b = some o → lk hp b = some o) {t : TypeId} {len : Nat}
    {parts : Array (Nat × Operand)} {g : Operand → SV} {ρ : Operand → Value} (hg : ∀ o, RS (cxS w0 hp nm η w) (g o) (ρ o)) {e : E}
    (h : bsV ti t len (parts.toList.map fun p => (p.1, g p.2)) hq nx = some e) {o : Oper} (ho : o.op = .buildSlice t len parts) : OP e.hyp ∧ (OP e.pre → Does P w0 hp nm nx η w (execOp ρ o) e) := by
  unfold bsV at h
  split at h
  · rename_i el _ _ _ _ hi
    have hu := tk_slice (ht.is hi).tk
    split at h
    · rename_i i hie
      split at h
      · rename_i hc
        obtain ⟨hlen, hds, hl1, hl2⟩ := hc
        split at h
        · rename_i xs hxs
          cases h
          have hpm : RL (fun (p : Nat × SV) (u : Nat × Value) => p.1 = u.1 ∧ RS (cxS w0 hp nm η w) p.2 u.2) (parts.toList.map fun p => (p.1, g p.2)) (parts.toList.map fun p => (p.1, ρ p.2)) := by
            generalize parts.toList = pl
            induction pl with
            | nil => trivial
            | cons p pl ih => exact ⟨⟨rfl, hg _⟩, ih⟩
          obtain ⟨h1, h2, h3⟩ := psAll_sound hxs hpm
          obtain ⟨z, hz, hzs, _⟩ := zero_sound ht hie
          obtain ⟨j, hj, hjs, hjb⟩ := (ht.is hie).info
          have hsize : (Go.sizeOf el).run P w = .ok i.sz w := by simp [Go.sizeOf, typeInfo, hj, hjs]
          have hpl : (parts.toList.map fun p => (p.1, ρ p.2)).length = len := by simpa using hlen
          refine ⟨trivial, fun _ => ?_⟩
          have hbig : ¬ (len * i.sz > 2 ^ 24) := by
            have : len * i.sz ≤ 4096 * 4096 := Nat.mul_le_mul hl1 hl2
            omega
          generalize hvs : ((parts.toList.map fun p => (p.1, ρ p.2)).flatMap fun u => u.2.cells.toList) = vs at h1 h3
          have hvl : vs.length = len * i.sz := by
            have := RdF.len (fun _ _ => Rd.len) h1
            rw [this, h2, hds, hlen]
          have hfill : ∀ z0 : Array Value, Instr.fill (fun k => some (k * i.sz, i.sz)) ((Array.range (len * i.sz)).map (fun k => z0[k % z0.size]!)) (parts.toList.map fun p => (p.1, ρ p.2)) = some vs.toArray := by
            intro z0
            have := h3 i.sz rfl ((Array.range (len * i.sz)).map (fun k => z0[k % z0.size]!)) (by rw [hpl]; simp)
            rw [this, hpl]
            simp
          have hrun : (execOp ρ o).run P w = .ok (.value (.slice (some ⟨w.heap.size, 0, none⟩) len len)) (w.alloc (.cells vs.toArray el)) := by
            have e1 : ((parts.map fun (p : Nat × Operand) => (p.1, ρ p.2)).toList) = parts.toList.map fun p => (p.1, ρ p.2) := by simp
            simp only [execOp, ho, Instr.buildSlice, Sem.run_bind, und_run hu, Result.andThen_ok, hsize, hbig, if_false, Sem.run_pure, e1, Sem.run_ite]
            split <;> simp only [Sem.run_bind, Sem.run_pure, Result.andThen_ok, hz, hfill, newRow, run_newObj, World.alloc_eq]
          have htn := turns_allocr (nx := nx) (hp := hp) (η := η) (w := w) (.cells vs.toArray el)
          have hle := step_le (p := (some w.heap.size, .slice (some ⟨w.heap.size, 0, none⟩) len len)) (ob := .row el i.d xs) hnx hH rm_sub htn (fun k hk => .inl (by cases hk; exact Nat.le_refl _))
          refine ⟨_, _, _, upd η nx (some w.heap.size, .slice (some ⟨w.heap.size, 0, none⟩) len len), hrun, .inl rfl, ?_, hle, ?_⟩
          · refine step_rep hnx hH rm_sub htn (fun k hk => .inl (by cases hk; simp)) ⟨vs, by simp [cxS, upd, Value.ownBlock], ?_, RdF.imp (fun _ _ => Rd.mono hle.ok hle.heap) h1⟩
            have hxl : xs.length = len := h2.trans (by simpa using hlen)
            refine ⟨by rw [hvl, hxl, hds], .inr ⟨w.heap.size, len, vs.toArray, by simp [cxS, upd, hxl], Nat.zero_le _, heap_alloc_new w _, by omega, by simp only [maxLen_eq]; omega, by simp [hvl, hds], ?_⟩⟩
            rw [hxl, hds]
            exact List.take_of_length_le (by simp [hvl])
          · exact ⟨.inr ⟨Nat.le_refl _, Nat.lt_succ_self _⟩, by simp [cxS, upd], _, _, _, rfl⟩
        · split at h
          · rename_i l hl
            split at h
            rotate_left
            · cases h
            cases h
            have hpm : RL (fun (p : Nat × SV) (u : Nat × Value) => p.1 = u.1 ∧ RS (cxS w0 hp nm η w) p.2 u.2) (parts.toList.map fun p => (p.1, g p.2)) (parts.toList.map fun p => (p.1, ρ p.2)) := by
              generalize parts.toList = pl
              induction pl with
              | nil => trivial
              | cons p pl ih => exact ⟨⟨rfl, hg _⟩, ih⟩
            obtain ⟨h1, h2, h3⟩ := pcAll_sound hl hpm
            obtain ⟨z, hz, hzs, _⟩ := zero_sound ht hie
            obtain ⟨j, hj, hjs, hjb⟩ := (ht.is hie).info
            have hsize : (Go.sizeOf el).run P w = .ok i.sz w := by simp [Go.sizeOf, typeInfo, hj, hjs]
            have hpl : (parts.toList.map fun p => (p.1, ρ p.2)).length = len := by simpa using hlen
            refine ⟨trivial, fun _ => ?_⟩
            have hbig : ¬ (len * i.sz > 2 ^ 24) := by
              have : len * i.sz ≤ 4096 * 4096 := Nat.mul_le_mul hl1 hl2
              omega
            have hcell : ∀ u ∈ parts.toList.map (fun p => (p.1, ρ p.2)), u.2.cells.size = i.sz := by
              have key : ∀ {parts : List (Nat × SV)} {vals : List (Nat × Value)} {n : Nat} {l : List C}, pcAll i n parts = some l → RL (fun (p : Nat × SV) (u : Nat × Value) => p.1 = u.1 ∧ RS (cxS w0 hp nm η w) p.2 u.2) parts vals → ∀ u ∈ vals, u.2.cells.size = i.sz := by
                intro parts
                induction parts with
                | nil => intro vals n l _ hr u hu; cases vals with | nil => cases hu | cons _ _ => exact hr.elim
                | cons p parts ih =>
                  intro vals n l hpc hr u hu
                  obtain ⟨k, s⟩ := p
                  cases vals with
                  | nil => exact hr.elim
                  | cons q vals =>
                    simp only [pcAll] at hpc
                    split at hpc
                    · split at hpc
                      · rename_i l1 hl1
                        split at hpc
                        · rename_i m hm
                          rcases List.mem_cons.1 hu with rfl | hu
                          · obtain ⟨c1, c2, _⟩ := cellsOf_sound hl1 hr.1.2
                            have := RL.len c2
                            rw [c1] at this
                            simpa using this.symm
                          · exact ih hm hr.2 u hu
                        · cases hpc
                      · cases hpc
                    · cases hpc
              exact key hl hpm
            generalize hvs : ((parts.toList.map fun p => (p.1, ρ p.2)).flatMap fun u => u.2.cells.toList) = vs at h1 h3
            have hvl : vs.length = len * i.sz := by
              rw [← hvs, ← hpl]
              clear hvs h1 h3 hpm hl hpl
              generalize parts.toList.map (fun p => (p.1, ρ p.2)) = vals at hcell
              induction vals with
              | nil => simp
              | cons u vals ih =>
                have h0 := hcell u (by simp)
                have := ih (fun v hv => hcell v (by simp [hv]))
                simp only [List.flatMap_cons, List.length_append, Array.length_toList, h0, this, List.length_cons, Nat.add_mul, Nat.one_mul]
                omega
            have hfill : ∀ z0 : Array Value, Instr.fill (fun k => some (k * i.sz, i.sz)) ((Array.range (len * i.sz)).map (fun k => z0[k % z0.size]!)) (parts.toList.map fun p => (p.1, ρ p.2)) = some vs.toArray := by
              intro z0
              have := h3 i.sz rfl ((Array.range (len * i.sz)).map (fun k => z0[k % z0.size]!)) (by rw [hpl]; simp)
              rw [this, hpl]
              simp
            have hrun : (execOp ρ o).run P w = .ok (.value (.slice (some ⟨w.heap.size, 0, none⟩) len len)) (w.alloc (.cells vs.toArray el)) := by
              have e1 : ((parts.map fun (p : Nat × Operand) => (p.1, ρ p.2)).toList) = parts.toList.map fun p => (p.1, ρ p.2) := by simp
              simp only [execOp, ho, Instr.buildSlice, Sem.run_bind, und_run hu, Result.andThen_ok, hsize, hbig, if_false, Sem.run_pure, e1, Sem.run_ite]
              split <;> simp only [Sem.run_bind, Sem.run_pure, Result.andThen_ok, hz, hfill, newRow, run_newObj, World.alloc_eq]
            have htn := turns_allocr (nx := nx) (hp := hp) (η := η) (w := w) (.cells vs.toArray el)
            have hle := step_le (p := (some w.heap.size, undef)) (ob := .cells el l) hnx hH rm_sub htn (fun k hk => .inl (by cases hk; exact Nat.le_refl _))
            refine ⟨_, _, _, upd η nx (some w.heap.size, undef), hrun, .inl rfl, ?_, hle, ?_⟩
            · exact step_rep hnx hH rm_sub htn (fun k hk => .inl (by cases hk; simp)) ⟨w.heap.size, vs.toArray, by simp [cxS, upd], heap_alloc_new w _, RL.imp (fun _ _ => RC.mono hle) h1⟩
            · exact ⟨.inr ⟨Nat.le_refl _, Nat.lt_succ_self _⟩, w.heap.size, by simp [cxS, upd], rfl⟩
          · cases h
      · cases h
    · cases h
  · cases h

/-- the source of an append: what the machine reads there -/
theorem srcV_sound {w0 : W0} {hp hq : List (Nat × Ob)} {nm : Nat → Prop} {η : Nat → Option Nat × Value} {w : World} (hH : RepH w0 hp nm η w) (hs : ∀ b o, lk hq b = some o → lk hp b = some o) {d : D} {s : SV} {ys : List d.T} {v : Value} (h : srcV d hq s = some ys)
    (hx : RS (cxS w0 hp nm η w) s v) : ∃ news, RdF (Rd w (okS w0 hp η w) d) ys news ∧ (v = .slice none 0 0 ∧ ys = [] ∨ ∃ a c, v = .slice (some a) ys.length c ∧ (∀ j u, news[j]? = some u → w.cell? (a.add j) = some u)) := by
  have cells : ∀ {k off : Nat} {cells : Array Value} {T : TypeId} {fz : Nat × Nat} {n : Nat}, w.heap[k]? = some (.cells cells T fz) → ∀ j u, ((cells.toList.drop off).take n)[j]? = some u → w.cell? ((⟨k, off, none⟩ : Addr).add j) = some u := by
    intro k off cells T fz n hk j u hj
    rw [add_plain', cell_of hk]
    rw [List.getElem?_take] at hj
    split at hj
    · simpa using hj
    · cases hj
  unfold srcV at h
  split at h
  · rename_i d' zs
    split at h
    · rename_i e
      subst e
      simp only [Option.some.injEq] at h
      subst h
      have hx' : Rd w (okS w0 hp η w) (.list d') zs [v] := hx
      simp only [Rd] at hx'
      obtain ⟨A, c, e, hc, hm, hn, hr⟩ := hx'
      simp only [List.cons.injEq, and_true] at e
      rcases hr with hr | ⟨k, off, cs, T, fz, hA, hok, hb, hf⟩
      · have hz : zs = [] := hr
        subst hz
        refine ⟨[], rfl, ?_⟩
        cases A with
        | none => left; rw [hn rfl] at e; exact ⟨e, rfl⟩
        | some a => right; exact ⟨a, c, e, fun j u hj => by simp at hj⟩
      · exact ⟨_, hf, .inr ⟨_, c, by rw [e, hA], cells hb⟩⟩
    · cases h
  · rename_i b
    split at h
    · rename_i T d' zs hlk
      split at h
      · rename_i e
        subst e
        simp only [Option.some.injEq] at h
        subst h
        obtain ⟨hb, e, _⟩ := hx
        obtain ⟨cs, r1, r2, r3⟩ := hH.obs b _ (hs _ _ hlk)
        refine ⟨cs, r3, ?_⟩
        rcases r2.2 with ⟨hv, hn⟩ | ⟨g, cap, cur, hv, _, hg, hc1, hc2, hc3, hc4⟩
        · left; exact ⟨e.trans hv, List.eq_nil_of_length_eq_zero hn⟩
        · right
          refine ⟨_, cap, e.trans hv, fun j u hj => ?_⟩
          rw [← hc4] at hj
          exact cells (off := 0) hg j u (by simpa using hj)
      · cases h
    · cases h
  · simp only [Option.some.injEq] at h
    subst h
    obtain ⟨e, _⟩ := hx
    exact ⟨[], rfl, .inl ⟨e, rfl⟩⟩
  · cases h

theorem rdf_one {w : World} {ok : Nat → Prop} : ∀ {d : D} {y : d.T} {cs : List Value}, Rd w ok d y cs → ∀ u ∈ cs, u.oneCell' = true
  | .int _, _, _, h => by simp only [Rd] at h; subst h; simp [Value.oneCell']
  | .bool, _, _, h => by simp only [Rd] at h; subst h; simp [Value.oneCell']
  | .str, _, _, h => by simp only [Rd] at h; subst h; simp [Value.oneCell']
  | .pair a b, _, _, h => by
    simp only [Rd] at h
    obtain ⟨c1, c2, rfl, h1, h2⟩ := h
    intro u hu
    rcases List.mem_append.1 hu with h | h
    · exact rdf_one h1 u h
    · exact rdf_one h2 u h
  | .list a, _, _, h => by
    simp only [Rd] at h
    obtain ⟨A, c, rfl, _⟩ := h
    simp [Value.oneCell']

theorem rdf_ones {w : World} {ok : Nat → Prop} {d : D} : ∀ {ys : List d.T} {cs : List Value}, RdF (Rd w ok d) ys cs → ∀ u ∈ cs, u.oneCell' = true
  | [], _, h => by simp only [RdF] at h; subst h; simp
  | y :: ys, _, ⟨c1, c2, e, h1, h2⟩ => by
    subst e
    intro u hu
    rcases List.mem_append.1 hu with h | h
    · exact rdf_one h1 u h
    · exact rdf_ones h2 u h

/-- append onto a row of the call's own, or onto nil -/
theorem append_does {ti : Nat → Option TI} (ht : TabOk P ti) {w0 : W0} {hp hp0 : List (Nat × Ob)} {nm : Nat → Prop} {nx : Nat} {ch : List (Nat × Option Ob)} {η : Nat → Option Nat × Value} {w : World} (hnx : ¬ nm nx) (hH : RepH w0 hp nm η w) {t el : TypeId} {i : TI} {d : D}
    (hu : P.underlying t = some (.slice el)) (hi : ti el = some i) (hsz : i.sz = d.sz) {v x : Value} {xs ys : List d.T} {cs news : List Value} (hown : w.ownsRow 0 el d.sz v xs.length cs) (hcs : RdF (Rd w (okS w0 hp η w) d) xs cs)
    (hnews : RdF (Rd w (okS w0 hp η w) d) ys news) (hsrc : x = .slice none 0 0 ∧ ys = [] ∨ ∃ a c, x = .slice (some a) ys.length c ∧ (∀ j u, news[j]? = some u → w.cell? (a.add j) = some u))
    (hpre : (xs.length + ys.length) * i.byt ≤ 140737488355328) (hch : apC hp ch = (nx, .row el d (xs ++ ys)) :: hp0) (hsub : ∀ b o, lk hp0 b = some o → lk hp b = some o)
    (hv : ∀ k, v.ownBlock = some k → ∃ b, lk hp b ≠ none ∧ lk hp0 b = none ∧ (η b).1 = some k)
    {ρ : Operand → Value} {o : Oper} {S X : Operand} {c : Call} (ho : o.op = .call c) (h1 : c.callee = .builtin .append) (h2 : c.args.toList = [S, X]) (h3 : c.argTypes.toList = [t, t]) (hS : ρ S = v) (hX : ρ X = x) :
    Does P w0 hp nm nx η w (execOp ρ o) ⟨none, some ((xs.length + ys.length) * i.byt ≤ 140737488355328), .c (.row nx), ch, nx + 1⟩ := by
  have h2' : c.args = #[S, X] := by rw [← Array.toList_inj]; simpa using h2
  have h3' : c.argTypes = #[t, t] := by rw [← Array.toList_inj]; simpa using h3
  obtain ⟨j, hj, hjs, hjb⟩ := (ht.is hi).info
  have hbyt := (ht.is hi).byt
  obtain ⟨j', z, hj', hjz, _⟩ := (ht.is hi).zero
  rw [hj] at hj'
  cases hj'
  obtain ⟨z', hz', hzs, _⟩ := zero_sound ht hi
  have hzz : z' = z := by
    have := hz' w
    simp [zeroValue, typeInfo, hj, hjz] at this
    exact this.symm
  subst hzz
  have key : ∃ v' w', (Builtin.append_ #[t, t] o.type #[v, x]).run P w = .ok v' w' ∧ w'.ownsRow 0 el d.sz v' (xs.length + ys.length) (cs ++ news) ∧ w.grownBy w' v.ownBlock ∧
      (v'.ownBlock = v.ownBlock ∨ ∀ k, v'.ownBlock = some k → w.heap.size ≤ k ∧ k < w'.heap.size) := by
    rcases hsrc with ⟨rfl, rfl⟩ | ⟨a, cap, rfl, hc⟩
    · have : news = [] := hnews
      subst this
      refine ⟨v, w, run_append_owned_none (P := P) (w := w) 0 t o.type el j d.sz hu hj v xs.length cs hown, by simpa using hown, ⟨rfl, rfl, rfl, Nat.le_refl _, fun _ _ _ => rfl⟩, .inl rfl⟩
    · have hml : xs.length + ys.length ≤ 140737488355328 := Nat.le_trans (Nat.le_mul_of_pos_right _ hbyt) hpre
      obtain ⟨v', w', r1, r2, r3, r4⟩ := run_append_own (P := P) (w := w) 0 t o.type el j z' d.sz i.byt hu hj hjz (by rw [hjs, hsz]) hjb (by rw [hzs, hsz]) (D.sz_pos d) v xs.length cs hown a ys.length cap news
        (by rw [RdF.len (fun _ _ => Rd.len) hnews]) hc (rdf_ones hnews) (by simp only [maxLen_eq]; omega) hpre (Nat.zero_le _)
      refine ⟨v', w', r1, r2, r3, ?_⟩
      have hnl : news.length = ys.length * j.size := by rw [RdF.len (fun _ _ => Rd.len) hnews, hjs, hsz]
      rcases hown.2 with ⟨rfl, hn⟩ | ⟨g, cap', cur, rfl, _, hg, hnc, hcm, hcs', htake⟩
      · by_cases hm : ys.length = 0
        · rw [r4.2 ⟨rfl, hm⟩]; exact .inl rfl
        · have hex := run_append_nil (P := P) w t o.type el j z' hu hj hjz a ys.length cap news hnl hc (by omega) (by omega) (by rw [hjb]; rw [hn] at hpre; simp at hpre; omega)
          rw [r1] at hex
          cases hex
          exact .inr fun k hk => by simp [Value.ownBlock] at hk; subst hk; exact ⟨Nat.le_refl _, by simp⟩
      · by_cases hroom : xs.length + ys.length ≤ cap'
        · have hfit : xs.length * j.size + news.length ≤ cur.size := by rw [hnl, hcs', ← Nat.add_mul, hjs, hsz]; exact Nat.mul_le_mul_right _ hroom
          have hex := run_append_room (P := P) w t o.type el j hu hj g xs.length cap' cur hg a ys.length cap news hnl hc (rdf_ones hnews) hroom hfit
          rw [r1] at hex
          cases hex
          exact .inl rfl
        · have holds : ∀ j u, cs[j]? = some u → w.cell? ((⟨g, 0, none⟩ : Addr).add j) = some u := hown.cells (g := g) rfl
          have hex := run_append_grow (P := P) w t o.type el j z' hu hj hjz ⟨g, 0, none⟩ xs.length cap' cs (by rw [hown.1, hjs, hsz]) holds a ys.length cap news hnl hc (by omega) (by omega) (growslice_fits (by omega) (by rw [hjb]; exact hpre))
          rw [r1] at hex
          cases hex
          exact .inr fun k hk => by simp [Value.ownBlock] at hk; subst hk; exact ⟨Nat.le_refl _, by simp⟩
  obtain ⟨v', w', r1, r2, r3, r4⟩ := key
  have hrun : (execOp ρ o).run P w = .ok (.value v') w' := by
    simp [execOp, ho, resolve, h1, h2', h3', invoke, builtin, hS, hX, r1]
  have htn : Turns hp hp0 η w w' := ⟨r3.os, r3.tape, r3.output, r3.size, fun k hk hno => r3.block k hk (fun e => by
    obtain ⟨b, hb1, hb2, hb3⟩ := hv k e.symm
    exact hno b hb1 hb2 hb3)⟩
  have hp1 : ∀ k, v'.ownBlock = some k → (w.heap.size ≤ k ∧ k < w'.heap.size) ∨ ∃ b, lk hp b ≠ none ∧ lk hp0 b = none ∧ (η b).1 = some k := fun k hk => by
    rcases r4 with e | h
    · rw [e] at hk; exact .inr (hv k hk)
    · exact .inl (h k hk)
  have hle := step_le (p := (v'.ownBlock, v')) (ob := .row el d (xs ++ ys)) hnx hH hsub htn (fun k hk => (hp1 k hk).imp (·.1) (fun ⟨b, h1, _, h3⟩ => ⟨b, h1, h3⟩))
  unfold Does
  rw [hch]
  refine ⟨_, _, _, upd η nx (v'.ownBlock, v'), hrun, .inl rfl, ?_, hle, ?_⟩
  · refine step_rep hnx hH hsub htn hp1 ⟨cs ++ news, by simp [cxS, upd], ?_, RdF.imp (fun _ _ => Rd.mono hle.ok hle.heap) (RdF.app hcs hnews)⟩
    simpa [cxS, upd] using r2
  · refine ⟨.inr ⟨Nat.le_refl _, Nat.lt_succ_self _⟩, by simp [cxS, upd], ?_⟩
    rcases r2.2 with ⟨e, _⟩ | ⟨g, cap, cur, e, _⟩
    · exact ⟨_, _, _, e⟩
    · exact ⟨_, _, _, e⟩

theorem apV_sound {ti : Nat → Option TI} (ht : TabOk P ti) {w0 : W0} {hp hq : List (Nat × Ob)} {nm : Nat → Prop} {nx : Nat} {η : Nat → Option Nat × Value} {w : World} (hnx : ¬ nm nx) (hH : RepH w0 hp nm η w) (hs : ∀ b o, lk hq b = some o → lk hp b = some o) {t : TypeId} {s y : SV} {e : E}
    {ρ : Operand → Value} {S X : Operand} (h : apV ti t hq nx s y = some e) (hsv : RS (cxS w0 hp nm η w) s (ρ S)) (hy : RS (cxS w0 hp nm η w) y (ρ X)) {o : Oper} {c : Call} (ho : o.op = .call c)
    (h1 : c.callee = .builtin .append) (h2 : c.args.toList = [S, X]) (h3 : c.argTypes.toList = [t, t]) : OP e.hyp ∧ (OP e.pre → Does P w0 hp nm nx η w (execOp ρ o) e) := by
  unfold apV at h
  split at h
  · rename_i b
    obtain ⟨hb, es, _⟩ := hsv
    split at h
    · rename_i el _ _ _ _ el' d xs hi hlk
      split at h
      · rename_i i ys hie hys
        split at h
        · rename_i hc
          obtain ⟨rfl, hsz⟩ := hc
          cases h
          have hu := tk_slice (ht.is hi).tk
          obtain ⟨cs, r1, r2, r3⟩ := hH.obs b _ (hs _ _ hlk)
          obtain ⟨news, g1, g2⟩ := srcV_sound hH hs hys hy
          refine ⟨trivial, fun hp => append_does ht hnx hH hu hie hsz (v := (η b).2) r2 r3 g1 g2 hp rfl (fun c o h => rm_sub c o (rm_sub c o h)) (fun k hk => ⟨b, by rw [hs _ _ hlk]; simp, by rw [lk_rm, lk_rm]; simp, ?_⟩) ho h1 h2 h3 es rfl⟩
          have : (η b).1 = (η b).2.ownBlock := r1
          rw [this]; exact hk
        · cases h
      · cases h
    · cases h
  · obtain ⟨es, _⟩ := hsv
    split at h
    · rename_i el _ _ _ _ hi
      split at h
      · rename_i i hie
        split at h
        · rename_i ys hys
          split at h
          · rename_i hsz
            cases h
            have hu := tk_slice (ht.is hi).tk
            obtain ⟨news, g1, g2⟩ := srcV_sound hH hs hys hy
            refine ⟨trivial, fun hp => ?_⟩
            have := append_does ht hnx hH hu hie hsz (v := .slice none 0 0) (xs := []) (cs := []) (ch := [(nx, some (.row el i.d ys))]) (World.ownsRow_nil w 0 el i.d.sz) rfl g1 g2 (by simpa using hp) rfl rm_sub
              (fun k hk => by simp [Value.ownBlock] at hk) ho h1 h2 h3 es rfl
            simpa using this
          · cases h
        · cases h
      · cases h
    · cases h
  · cases h

/-! ### rows whose capacity is known -/

theorem first_run {w : World} {A : Option Addr} {n c sz k : Nat} {cs : List Value} (hl : cs.length = k * sz) (hA : cs = [] ∨ ∃ a, A = some a ∧ ∀ j v, cs[j]? = some v → w.cell? (a.add j) = some v) : (Builtin.firstCells sz k (.slice A n c)).run P w = .ok cs.toArray w := by
  cases A with
  | none =>
    rcases hA with rfl | ⟨a, h, _⟩
    · exact run_firstCells_none w sz k n c
    · cases h
  | some a =>
    refine run_firstCells_some w sz k a n c cs hl (fun j v hj => ?_)
    rcases hA with rfl | ⟨a', h, h2⟩
    · simp at hj
    · cases h; exact h2 j v hj

theorem seg_cell {w : World} {k off n m : Nat} {cells : Array Value} {T : TypeId} {fz : Nat × Nat} (hk : w.heap[k]? = some (.cells cells T fz)) (j : Nat) (u : Value) (hj : (((cells.toList.take n).drop off).take m)[j]? = some u) : w.cell? ((⟨k, off, none⟩ : Addr).add j) = some u := by
  rw [add_plain', cell_of hk]
  rw [List.getElem?_take] at hj
  split at hj
  · rw [List.getElem?_drop, List.getElem?_take] at hj
    split at hj
    · simpa using hj
    · cases hj
  · cases hj

theorem srcC_sound {w0 : W0} {hp hq : List (Nat × Ob)} {nm : Nat → Prop} {η : Nat → Option Nat × Value} {w : World} (hH : RepH w0 hp nm η w) (hs : ∀ b o, lk hq b = some o → lk hp b = some o) {d : D} {n : Nat} {s : SV} {p : Prop} {zs : List d.T} {k : Nat} {v : Value}
    (h : srcC d hq n s = some (p, zs, k)) (hx : RS (cxS w0 hp nm η w) s v) (hpz : p) :
    zs.length = k ∧ k ≤ n ∧ ∃ news sl, RdF (Rd w (okS w0 hp η w) d) zs news ∧ (∀ w', (Builtin.lenOf v).run P w' = .ok sl w') ∧ Nat.min sl n = k ∧ (Builtin.firstCells d.sz k v).run P w = .ok news.toArray w := by
  have dat : ∀ (ys : List d.T), RS (cxS w0 hp nm η w) (.c (.dat d ys)) v → (ys.take n).length = min ys.length n ∧ min ys.length n ≤ n ∧ ∃ news sl, RdF (Rd w (okS w0 hp η w) d) (ys.take n) news ∧ (∀ w', (Builtin.lenOf v).run P w' = .ok sl w') ∧ Nat.min sl n = min ys.length n ∧ (Builtin.firstCells d.sz (min ys.length n) v).run P w = .ok news.toArray w := by
    intro ys hx
    have hx' : Rd w (okS w0 hp η w) (.list d) ys [v] := hx
    simp only [Rd] at hx'
    obtain ⟨A, c, e, hc, hm, hn, hr⟩ := hx'
    simp only [List.cons.injEq, and_true] at e
    subst e
    refine ⟨by rw [List.length_take, Nat.min_comm], Nat.min_le_right _ _, ?_⟩
    rcases hr with hr | ⟨k, off, cs, T, fz, hA, hok, hb, hf⟩
    · subst hr
      exact ⟨[], 0, by simp [RdF], fun w' => by simp [Builtin.lenOf], by simp, first_run (by simp) (.inl rfl)⟩
    · refine ⟨((cs.toList.drop off).take (ys.length * d.sz)).take (n * d.sz), ys.length, RdF.take (fun _ _ => Rd.len) n hf, fun w' => by simp [Builtin.lenOf], rfl, first_run ?_ (.inr ⟨_, hA, fun j u hj => ?_⟩)⟩
      · have := RdF.len (fun _ _ => Rd.len) (RdF.take (fun _ _ => Rd.len) n hf)
        rw [this, List.length_take, Nat.min_comm]
      · rw [List.take_take, Nat.min_comm] at hj
        rw [add_plain', cell_of hb]
        rw [List.getElem?_take] at hj
        split at hj
        · simpa using hj
        · cases hj
  unfold srcC at h
  split at h
  · rename_i d' ys
    split at h
    · rename_i e
      subst e
      simp only [Option.some.injEq, Prod.mk.injEq] at h
      obtain ⟨_, rfl, rfl⟩ := h
      exact dat ys hx
    · cases h
  · rename_i b
    split at h
    · rename_i T d' ys hlk
      split at h
      · rename_i e
        subst e
        simp only [Option.some.injEq, Prod.mk.injEq] at h
        obtain ⟨_, rfl, rfl⟩ := h
        obtain ⟨hb, e, _⟩ := hx
        obtain ⟨cs, r1, r2, r3⟩ := hH.obs b _ (hs _ _ hlk)
        have e : v = (η b).2 := e
        refine ⟨by rw [List.length_take, Nat.min_comm], Nat.min_le_right _ _, ?_⟩
        have r2 : w.ownsRow 0 T d'.sz (η b).2 ys.length cs := r2
        rw [← e] at r2
        rcases r2.2 with ⟨hv, hn⟩ | ⟨g, cap, cur, hv, _, hg, hc1, hc2, hc3, hc4⟩
        · have : ys = [] := List.eq_nil_of_length_eq_zero hn
          subst this
          subst hv
          exact ⟨[], 0, by simp [RdF], fun w' => by simp [Builtin.lenOf], by simp, first_run (by simp) (.inl rfl)⟩
        · subst hv
          refine ⟨cs.take (n * d'.sz), ys.length, RdF.take (fun _ _ => Rd.len) n r3, fun w' => by simp [Builtin.lenOf], rfl, first_run ?_ (.inr ⟨_, rfl, fun j u hj => ?_⟩)⟩
          · have := RdF.len (fun _ _ => Rd.len) (RdF.take (fun _ _ => Rd.len) n r3)
            rw [this, List.length_take, Nat.min_comm]
          · rw [← hc4] at hj
            exact seg_cell (off := 0) hg j u (by simpa using hj)
      · cases h
    · cases h
  · rename_i b o sz m c
    split at h
    · rename_i T d' xs c0 hlk
      split at h
      · rename_i e
        subst e
        split at h
        · rename_i hsz
          subst hsz
          simp only [Option.some.injEq, Prod.mk.injEq] at h
          obtain ⟨hpp, rfl, rfl⟩ := h
          have hle : o + min m n ≤ xs.length := by rw [← hpp] at hpz; exact hpz
          obtain ⟨hb, hmc, hcm, k2, o', hk, e, ho'⟩ := hx
          obtain ⟨k3, cur, hk3, hcur, hcs, hlc, hcm', hf⟩ := hH.obs b _ (hs _ _ hlk)
          have hkk : k3 = k2 := by have : some k3 = some k2 := hk3.symm.trans hk; simpa using this
          subst hkk
          subst e
          have hlen : ((xs.drop o).take (min m n)).length = min m n := by rw [List.length_take, List.length_drop]; omega
          refine ⟨hlen, Nat.min_le_right _ _, (((cur.toList.take (xs.length * d'.sz)).drop (o * d'.sz)).take (min m n * d'.sz)), m, RdF.take (fun _ _ => Rd.len) _ (RdF.drop (fun _ _ => Rd.len) o hf), fun w' => by simp [Builtin.lenOf], rfl, first_run ?_ ?_⟩
          · rw [RdF.len (fun _ _ => Rd.len) (RdF.take (fun _ _ => Rd.len) (min m n) (RdF.drop (fun _ _ => Rd.len) o hf)), hlen]
          · by_cases h0 : min m n = 0
            · left; rw [h0]; simp
            · right
              refine ⟨_, rfl, fun j u hj => ?_⟩
              rw [ho' (by omega)]
              exact seg_cell hcur j u hj
        · cases h
      · cases h
    · cases h
  · simp only [Option.some.injEq, Prod.mk.injEq] at h
    obtain ⟨_, rfl, rfl⟩ := h
    obtain ⟨e, _⟩ := hx
    subst e
    exact ⟨rfl, Nat.zero_le _, [], 0, rfl, fun w' => by simp [Builtin.lenOf], by simp, first_run (by simp) (.inl rfl)⟩
  · cases h

theorem cpV_sound {ti : Nat → Option TI} (ht : TabOk P ti) {w0 : W0} {hp hq : List (Nat × Ob)} {nm : Nat → Prop} {nx : Nat} {η : Nat → Option Nat × Value} {w : World} (hH : RepH w0 hp nm η w) (hs : ∀ b o, lk hq b = some o → lk hp b = some o) {t t' : TypeId} {s y : SV} {e : E}
    {ρ : Operand → Value} {S X : Operand} (h : cpV ti t hq nx s y = some e) (hsv : RS (cxS w0 hp nm η w) s (ρ S)) (hy : RS (cxS w0 hp nm η w) y (ρ X)) {o : Oper} {c : Call} (ho : o.op = .call c)
    (h1 : c.callee = .builtin .copy) (h2 : c.args.toList = [S, X]) (h3 : c.argTypes.toList = [t, t']) : OP e.hyp ∧ (OP e.pre → Does P w0 hp nm nx η w (execOp ρ o) e) := by
  have h2' : c.args = #[S, X] := by rw [← Array.toList_inj]; simpa using h2
  have h3' : c.argTypes = #[t, t'] := by rw [← Array.toList_inj]; simpa using h3
  unfold cpV at h
  split at h
  · rename_i b o1 sz n cc
    split at h
    · rename_i el _ _ _ _ e' d xs c0 hi hlk
      split at h
      · rename_i p zs k hsrc
        split at h
        · rename_i hc
          obtain ⟨hsz, rfl⟩ := hc
          cases h
          refine ⟨trivial, ?_⟩
          rintro ⟨hp1, hp2, hp3⟩
          have hu := tk_slice (ht.is hi).tk
          obtain ⟨ie, hie, hie2⟩ := sz_some hsz
          obtain ⟨j, hj, hjs, _⟩ := (ht.is hie).info
          obtain ⟨g1, g2, news, sl, g3, g4, g5, g6⟩ := srcC_sound (P := P) hH hs hsrc hy hp1
          obtain ⟨hb, hnc, hcm, kd, od, hk, ev, hod⟩ := hsv
          obtain ⟨k3, cur, hk3, hcur, hcs, hlc, hcm', hf⟩ := hH.obs b _ (hs _ _ hlk)
          have hkk : k3 = kd := by have : some k3 = some kd := hk3.symm.trans hk; simpa using this
          subst hkk
          have hlk' : lk hp b ≠ none := by rw [hs _ _ hlk]; simp
          have hnl : news.length = k * d.sz := by rw [RdF.len (fun _ _ => Rd.len) g3, g1]
          have hL : (xs.take o1 ++ zs ++ xs.drop (o1 + k)).length = o1 + k + (xs.length - (o1 + k)) := by
            simp only [List.length_append, List.length_take, List.length_drop, g1]; omega
          -- the world behind it
          have key : ∃ w', (Builtin.copy_ #[t, t'] o.type #[ρ S, ρ X]).run P w = .ok (goInt k) w' ∧ w'.os = w.os ∧ w'.tape = w.tape ∧ w'.output = w.output ∧ w'.heap.size = w.heap.size ∧ (∀ j, j ≠ k3 → w'.heap[j]? = w.heap[j]?) ∧
              w'.heap[k3]? = some (.cells (cur.toList.take (o1 * d.sz) ++ news ++ cur.toList.drop (o1 * d.sz + news.length)).toArray e' (0, 0)) := by
            have hsize : ∀ w', (Go.sizeOf el).run P w' = .ok d.sz w' := fun w' => by simp [Go.sizeOf, typeInfo, hj, hjs, hie2]
            by_cases h0 : k = 0
            · subst h0
              have hn0 : news = [] := by apply List.eq_nil_of_length_eq_zero; simpa using hnl
              subst hn0
              refine ⟨w, ?_, rfl, rfl, rfl, rfl, fun _ _ => rfl, ?_⟩
              · simp [Builtin.copy_, und_run hu, ev, g4, g5, hsize, g6, storeCells]
              · simp only [List.append_nil, List.length_nil, Nat.add_zero, List.take_append_drop, Array.toArray_toList]
                exact hcur
            · have hod := hod (.inl (by omega))
              subst hod
              have hfit : o1 * d.sz + news.length ≤ cur.size := by
                rw [hnl, hcs, ← Nat.add_mul]; exact Nat.mul_le_mul_right _ hp3
              have hst := run_storeCells_at P k3 (o1 * d.sz) e' news 0 cur w hcur (by simpa using hfit) (rdf_ones g3)
              refine ⟨w.setRow k3 (cur.toList.take (o1 * d.sz) ++ news ++ cur.toList.drop (o1 * d.sz + news.length)).toArray, ?_, rfl, rfl, rfl, by simp, fun j hj => setRow_other w k3 j _ hj, setRow_heap w k3 cur _ e' _ hcur⟩
              simp only [Nat.add_zero] at hst
              simp [Builtin.copy_, und_run hu, ev, g4, g5, hsize, g6, hst]
          obtain ⟨w', hrun, q1, q2, q3, q4, q5, q6⟩ := key
          have hset := step_set (w' := w') (ob' := .wid e' d (xs.take o1 ++ zs ++ xs.drop (o1 + k)) c0) hH (b := b) (k := k3) hlk' hk q1 q2 q3 q4 q5
          have hle : (cxS w0 hp nm η w).le (cxS w0 ((b, .wid e' d (xs.take o1 ++ zs ++ xs.drop (o1 + k)) c0) :: rm hp b) nm η w') := by
            refine ⟨fun _ _ => rfl, fun _ h => h, fun j ⟨g1, g2⟩ => ⟨⟨by rw [q4]; exact g1.1, g1.2⟩, fun c hc => g2 c ?_⟩, fun j ⟨g1, g2⟩ => q5 j (fun e => g2 b hlk' (by rw [e]; exact hk))⟩
            rw [lk_put] at hc
            by_cases hcb : c = b
            · subst hcb; exact hlk'
            · simpa [hcb] using hc
          have hwid : RdF (Rd w (okS w0 hp η w) d) (xs.take o1 ++ zs ++ xs.drop (o1 + k)) ((cur.toList.take (o1 * d.sz) ++ news ++ cur.toList.drop (o1 * d.sz + news.length)).take ((o1 + k + (xs.length - (o1 + k))) * d.sz)) := by
            have r := RdF.app (RdF.app (RdF.take (fun _ _ => Rd.len) o1 hf) g3) (RdF.drop (fun _ _ => Rd.len) (o1 + k) hf)
            have e1 : (cur.toList.take (xs.length * d.sz)).take (o1 * d.sz) = cur.toList.take (o1 * d.sz) := by
              rw [List.take_take, Nat.min_eq_left (Nat.mul_le_mul_right _ hp2)]
            have hAl : (cur.toList.take (o1 * d.sz)).length = o1 * d.sz := by
              rw [List.length_take, Array.length_toList, hcs, Nat.min_eq_left]
              exact Nat.mul_le_mul_right _ (by omega)
            have e2 : (cur.toList.take (o1 * d.sz) ++ news ++ cur.toList.drop (o1 * d.sz + news.length)).take ((o1 + k + (xs.length - (o1 + k))) * d.sz) = cur.toList.take (o1 * d.sz) ++ news ++ (cur.toList.take (xs.length * d.sz)).drop ((o1 + k) * d.sz) := by
              have e3 : (cur.toList.take (o1 * d.sz) ++ news).length = (o1 + k) * d.sz := by rw [List.length_append, hAl, hnl, Nat.add_mul]
              have e4 : (o1 + k + (xs.length - (o1 + k))) * d.sz = (o1 + k) * d.sz + (xs.length * d.sz - (o1 + k) * d.sz) := by rw [Nat.add_mul, Nat.sub_mul]
              rw [e4, List.take_append, e3, List.take_of_length_le (by rw [e3]; omega), Nat.add_sub_cancel_left, List.drop_take, hnl, ← Nat.add_mul]
            rw [e2, ← e1]
            exact r
          unfold Does
          rw [nmE_same]
          obtain ⟨f1, f2⟩ := hset ⟨k3, _, hk, q6, by
            simp only [List.size_toArray, List.length_append, List.length_take, List.length_drop, Array.length_toList, hnl, hcs]
            have a1 : o1 * d.sz ≤ c0 * d.sz := Nat.mul_le_mul_right _ (by omega)
            have a2 : o1 * d.sz + k * d.sz ≤ c0 * d.sz := by rw [← Nat.add_mul]; exact Nat.mul_le_mul_right _ hp3
            omega, by rw [hL]; omega, hcm', by rw [hL]; exact RdF.imp (fun _ _ => Rd.mono hle.ok hle.heap) hwid⟩
          refine ⟨.value (goInt k), goInt k, w', η, ?_, .inl rfl, f1, f2, rfl⟩
          simp [execOp, ho, resolve, h1, h2', h3', invoke, builtin, hrun]
        · cases h
      · cases h
    · cases h
  · cases h

/-- a part of a row whose capacity is known is written anew -/
theorem wid_put {w0 : W0} {hp : List (Nat × Ob)} {nm : Nat → Prop} {η : Nat → Option Nat × Value} {w w' : World} {b k : Nat} {e' : TypeId} {d : D} {xs zs : List d.T} {c0 p cnt : Nat} {cur : Array Value} {news : List Value} (hH : RepH w0 hp nm η w) (hlk' : lk hp b ≠ none) (hk : (η b).1 = some k)
    (hcs : cur.size = c0 * d.sz) (hlc : xs.length ≤ c0) (hcm : c0 ≤ maxLen) (hf : RdF (Rd w (okS w0 hp η w) d) xs (cur.toList.take (xs.length * d.sz))) (g1 : zs.length = cnt) (g3 : RdF (Rd w (okS w0 hp η w) d) zs news) (hp2 : p ≤ xs.length) (hp3 : p + cnt ≤ c0)
    (q1 : w'.os = w.os) (q2 : w'.tape = w.tape) (q3 : w'.output = w.output) (q4 : w'.heap.size = w.heap.size) (q5 : ∀ j, j ≠ k → w'.heap[j]? = w.heap[j]?)
    (q6 : w'.heap[k]? = some (.cells (cur.toList.take (p * d.sz) ++ news ++ cur.toList.drop (p * d.sz + news.length)).toArray e' (0, 0))) :
    RepH w0 ((b, .wid e' d (xs.take p ++ zs ++ xs.drop (p + cnt)) c0) :: rm hp b) nm η w' ∧ (cxS w0 hp nm η w).le (cxS w0 ((b, .wid e' d (xs.take p ++ zs ++ xs.drop (p + cnt)) c0) :: rm hp b) nm η w') := by
  have hnl : news.length = cnt * d.sz := by rw [RdF.len (fun _ _ => Rd.len) g3, g1]
  have hL : (xs.take p ++ zs ++ xs.drop (p + cnt)).length = p + cnt + (xs.length - (p + cnt)) := by
    simp only [List.length_append, List.length_take, List.length_drop, g1]; omega
  have hset := step_set (w' := w') (ob' := .wid e' d (xs.take p ++ zs ++ xs.drop (p + cnt)) c0) hH (b := b) (k := k) hlk' hk q1 q2 q3 q4 q5
  have hle := set_le (w' := w') (ob' := .wid e' d (xs.take p ++ zs ++ xs.drop (p + cnt)) c0) hH hlk' hk q4 q5
  have hwid : RdF (Rd w (okS w0 hp η w) d) (xs.take p ++ zs ++ xs.drop (p + cnt)) ((cur.toList.take (p * d.sz) ++ news ++ cur.toList.drop (p * d.sz + news.length)).take ((p + cnt + (xs.length - (p + cnt))) * d.sz)) := by
    have r := RdF.app (RdF.app (RdF.take (fun _ _ => Rd.len) p hf) g3) (RdF.drop (fun _ _ => Rd.len) (p + cnt) hf)
    have e1 : (cur.toList.take (xs.length * d.sz)).take (p * d.sz) = cur.toList.take (p * d.sz) := by
      rw [List.take_take, Nat.min_eq_left (Nat.mul_le_mul_right _ hp2)]
    have hAl : (cur.toList.take (p * d.sz)).length = p * d.sz := by
      rw [List.length_take, Array.length_toList (xs := cur), hcs, Nat.min_eq_left]
      exact Nat.mul_le_mul_right _ (by omega)
    have e2 : (cur.toList.take (p * d.sz) ++ news ++ cur.toList.drop (p * d.sz + news.length)).take ((p + cnt + (xs.length - (p + cnt))) * d.sz) = cur.toList.take (p * d.sz) ++ news ++ (cur.toList.take (xs.length * d.sz)).drop ((p + cnt) * d.sz) := by
      have e3 : (cur.toList.take (p * d.sz) ++ news).length = (p + cnt) * d.sz := by rw [List.length_append, hAl, hnl, Nat.add_mul]
      have e4 : (p + cnt + (xs.length - (p + cnt))) * d.sz = (p + cnt) * d.sz + (xs.length * d.sz - (p + cnt) * d.sz) := by rw [Nat.add_mul, Nat.sub_mul]
      rw [e4, List.take_append, e3, List.take_of_length_le (by rw [e3]; omega), Nat.add_sub_cancel_left, List.drop_take, hnl, ← Nat.add_mul]
    rw [e2, ← e1]
    exact r
  exact hset ⟨k, _, hk, q6, by
    simp only [List.size_toArray, List.length_append, List.length_take, List.length_drop, Array.length_toList (xs := cur), hnl, hcs]
    have a1 : p * d.sz ≤ c0 * d.sz := Nat.mul_le_mul_right _ (by omega)
    have a2 : p * d.sz + cnt * d.sz ≤ c0 * d.sz := by rw [← Nat.add_mul]; exact Nat.mul_le_mul_right _ hp3
    omega, by rw [hL]; omega, hcm, by rw [hL]; exact RdF.imp (fun _ _ => Rd.mono hle.ok hle.heap) hwid⟩

theorem apI_sound {ti : Nat → Option TI} (ht : TabOk P ti) {w0 : W0} {hp hq : List (Nat × Ob)} {nm : Nat → Prop} {nx : Nat} {η : Nat → Option Nat × Value} {w : World} (hH : RepH w0 hp nm η w) (hs : ∀ b o, lk hq b = some o → lk hp b = some o) {t : TypeId} {s y : SV} {e : E}
    {ρ : Operand → Value} {S X : Operand} (h : apI ti t hq nx s y = some e) (hsv : RS (cxS w0 hp nm η w) s (ρ S)) (hy : RS (cxS w0 hp nm η w) y (ρ X)) {o : Oper} {c : Call} (ho : o.op = .call c)
    (h1 : c.callee = .builtin .append) (h2 : c.args.toList = [S, X]) (h3 : c.argTypes.toList = [t, t]) : OP e.hyp ∧ (OP e.pre → Does P w0 hp nm nx η w (execOp ρ o) e) := by
  have h2' : c.args = #[S, X] := by rw [← Array.toList_inj]; simpa using h2
  have h3' : c.argTypes = #[t, t] := by rw [← Array.toList_inj]; simpa using h3
  unfold apI at h
  split at h
  · rename_i b o1 sz n cc b2 o2 sz2 m c2
    split at h
    · rename_i hbb
      have hbb := Nat.eq_of_beq_eq_true hbb
      subst hbb
      split at h
      · rename_i el _ _ _ _ e' d xs c0 hi hlk
        split at h
        · rename_i hc
          obtain ⟨hsz, rfl, rfl⟩ := hc
          cases h
          refine ⟨trivial, ?_⟩
          rintro ⟨p1, p2, p3, p4⟩
          have hu := tk_slice (ht.is hi).tk
          obtain ⟨ie, hie, hie2⟩ := sz_some hsz
          obtain ⟨j, hj, hjs, _⟩ := (ht.is hie).info
          obtain ⟨hb, hnc, hcm, kd, od, hk, ev, hod⟩ := hsv
          obtain ⟨_, hnc2, hcm2, kd2, od2, hk2, ev2, hod2⟩ := hy
          obtain ⟨k3, cur, hk3, hcur, hcs, hlc, hcm', hf⟩ := hH.obs b _ (hs _ _ hlk)
          have hkk : k3 = kd := by have : some k3 = some kd := hk3.symm.trans hk; simpa using this
          subst hkk
          have hkk : k3 = kd2 := by have : some k3 = some kd2 := hk3.symm.trans hk2; simpa using this
          subst hkk
          have hlk' : lk hp b ≠ none := by rw [hs _ _ hlk]; simp
          have g3 : RdF (Rd w (okS w0 hp η w) d) ((xs.drop o2).take m) (((cur.toList.take (xs.length * d.sz)).drop (o2 * d.sz)).take (m * d.sz)) := RdF.take (fun _ _ => Rd.len) m (RdF.drop (fun _ _ => Rd.len) o2 hf)
          have g1 : ((xs.drop o2).take m).length = m := by rw [List.length_take, List.length_drop]; omega
          generalize hnews : ((cur.toList.take (xs.length * d.sz)).drop (o2 * d.sz)).take (m * d.sz) = news at g3
          have hnl : news.length = m * d.sz := by rw [RdF.len (fun _ _ => Rd.len) g3, g1]
          have hsize : ∀ w', (Go.sizeOf el).run P w' = .ok d.sz w' := fun w' => by simp [Go.sizeOf, typeInfo, hj, hjs, hie2]
          have key : ∃ w', (Builtin.append_ #[t, t] o.type #[ρ S, ρ X]).run P w = .ok (.slice (some ⟨k3, od, none⟩) (n + m) cc) w' ∧ w'.os = w.os ∧ w'.tape = w.tape ∧ w'.output = w.output ∧ w'.heap.size = w.heap.size ∧ (∀ j, j ≠ k3 → w'.heap[j]? = w.heap[j]?) ∧
              w'.heap[k3]? = some (.cells (cur.toList.take ((o1 + n) * d.sz) ++ news ++ cur.toList.drop ((o1 + n) * d.sz + news.length)).toArray e' (0, 0)) := by
            by_cases h0 : m = 0
            · subst h0
              have hn0 : news = [] := by apply List.eq_nil_of_length_eq_zero; simpa using hnl
              subst hn0
              have hfc := run_firstCells_some (P := P) w d.sz 0 ⟨k3, od2, none⟩ 0 c2 [] (by simp) (fun j v hj => by simp at hj)
              refine ⟨w, ?_, rfl, rfl, rfl, rfl, fun _ _ => rfl, ?_⟩
              · have hroom : n ≤ cc := hnc
                simp [Builtin.append_, und_run hu, ev, ev2, hsize, Builtin.lenOf, hroom, hfc, storeCells]
              · simp only [List.append_nil, List.length_nil, Nat.add_zero, List.take_append_drop, Array.toArray_toList]
                exact hcur
            · have hod := hod (.inl (by omega))
              have hod2 := hod2 (.inl (by omega))
              subst hod
              subst hod2
              have hfc := run_firstCells_some (P := P) w d.sz m ⟨k3, o2 * d.sz, none⟩ m c2 news hnl (fun j v hj => seg_cell hcur j v (by rw [hnews]; exact hj))
              have hfit : (o1 + n) * d.sz + news.length ≤ cur.size := by
                rw [hnl, hcs, ← Nat.add_mul]; exact Nat.mul_le_mul_right _ (by omega)
              have hst := run_storeCells_at P k3 ((o1 + n) * d.sz) e' news 0 cur w hcur (by simpa using hfit) (rdf_ones g3)
              refine ⟨w.setRow k3 (cur.toList.take ((o1 + n) * d.sz) ++ news ++ cur.toList.drop ((o1 + n) * d.sz + news.length)).toArray, ?_, rfl, rfl, rfl, by simp, fun j hj => setRow_other w k3 j _ hj, setRow_heap w k3 cur _ e' _ hcur⟩
              simp only [Nat.add_zero] at hst
              have ea : (⟨k3, o1 * d.sz, none⟩ : Addr).add (n * d.sz) = ⟨k3, (o1 + n) * d.sz, none⟩ := by rw [add_plain', Nat.add_mul]
              simp [Builtin.append_, und_run hu, ev, ev2, hsize, Builtin.lenOf, p1, hfc, ea, hst]
          obtain ⟨w', hrun, q1, q2, q3, q4, q5, q6⟩ := key
          obtain ⟨f1, f2⟩ := wid_put hH hlk' hk hcs hlc hcm' hf g1 g3 (p := o1 + n) p3 (by omega) q1 q2 q3 q4 q5 q6
          unfold Does
          rw [nmE_same]
          refine ⟨.value _, .slice (some ⟨k3, od, none⟩) (n + m) cc, w', η, ?_, .inl rfl, f1, f2, ⟨hb, p1, hcm, k3, od, hk, rfl, hod⟩⟩
          simp [execOp, ho, resolve, h1, h2', h3', invoke, builtin, hrun]
        · cases h
      · cases h
    · cases h
  · cases h

theorem zeroCells_list (zs : Array Value) : ∀ n, (Builtin.zeroCells zs n).toList = (List.replicate n zs.toList).flatten
  | 0 => by simp [Builtin.zeroCells]
  | n + 1 => by
    have ih := zeroCells_list zs n
    have e1 : (List.range zs.size).map (fun i => zs[i % zs.size]!) = zs.toList := by
      apply List.ext_getElem
      · simp
      · intro i h1 h2
        have hi : i < zs.size := by simpa using h1
        simp [Nat.mod_eq_of_lt hi, hi]
    simp only [Builtin.zeroCells, Array.toList_map, Array.toList_range] at ih ⊢
    rw [Nat.add_mul, Nat.one_mul, Nat.add_comm, List.range_add, List.map_append, e1, List.replicate_succ, List.flatten_cons, ← ih, List.map_map]
    congr 1
    apply List.map_congr_left
    intro i _
    simp [Nat.add_mod_left]

theorem rdf_rep {α : Type} {R : α → List Value → Prop} {z : α} {cs : List Value} (h : R z cs) : ∀ n, RdF R (List.replicate n z) ((List.replicate n cs).flatten)
  | 0 => by simp [RdF]
  | n + 1 => by rw [List.replicate_succ, List.replicate_succ, List.flatten_cons]; exact ⟨cs, _, rfl, h, rdf_rep h n⟩

theorem apM_sound {ti : Nat → Option TI} (ht : TabOk P ti) {w0 : W0} {hp hq : List (Nat × Ob)} {nm : Nat → Prop} {nx : Nat} {η : Nat → Option Nat × Value} {w : World} (hnx : ¬ nm nx) (hH : RepH w0 hp nm η w) (hs : ∀ b o, lk hq b = some o → lk hp b = some o) {t t' : TypeId} {s y : SV} {e : E}
    {ρ : Operand → Value} {S X : Operand} (h : apM ti t t' hq nx s y = some e) (hsv : RS (cxS w0 hp nm η w) s (ρ S)) (hy : RS (cxS w0 hp nm η w) y (ρ X)) {o : Oper} {c : Call} (ho : o.op = .call c)
    (h1 : c.callee = .builtin .append) (h2 : c.args.toList = [S, X]) (h3 : c.argTypes.toList = [t, t']) : OP e.hyp ∧ (OP e.pre → Does P w0 hp nm nx η w (execOp ρ o) e) := by
  have h2' : c.args = #[S, X] := by rw [← Array.toList_inj]; simpa using h2
  have h3' : c.argTypes = #[t, t'] := by rw [← Array.toList_inj]; simpa using h3
  unfold apM at h
  split at h
  · rename_i b o1 sz n cc kk m
    split at h
    · rename_i el _ _ _ _ k' _ _ _ _ e' d xs c0 hi hi' hlk
      split at h
      · rename_i i hie
        split at h
        · rename_i z hz
          split at h
          · rename_i hc
            obtain ⟨rfl, hsz, rfl⟩ := hc
            cases h
            refine ⟨trivial, ?_⟩
            rintro ⟨hp1, hp2, hp3, hp4⟩
            have hu := tk_slice (ht.is hi).tk
            have hu' := tk_int (ht.is hi').tk
            obtain ⟨j, hj, hjs, hjb⟩ := (ht.is hie).info
            have hbyt := (ht.is hie).byt
            obtain ⟨j', zv, hj', hjz, _⟩ := (ht.is hie).zero
            rw [hj] at hj'
            cases hj'
            obtain ⟨z', hz', hzs, hzr⟩ := zero_sound ht hie
            have hzz : z' = zv := by
              have := hz' w
              simp [zeroValue, typeInfo, hj, hjz] at this
              exact this.symm
            subst hzz
            obtain ⟨M, rfl⟩ := Int.eq_ofNat_of_zero_le (Int.le_of_lt hp1)
            have hy := rs_int hy
            obtain ⟨hb, hnc, hcm, k2, o', hk, ev, ho'⟩ := hsv
            obtain ⟨k3, cur, hk3, hcur, hcs, hlc, hcm', hf⟩ := hH.obs b _ (hs _ _ hlk)
            have hkk : k3 = k2 := by have : some k3 = some k2 := hk3.symm.trans hk; simpa using this
            subst hkk
            have hpn : (n + M) * i.byt ≤ 140737488355328 := by
              have : (((n + M) * i.byt : Nat) : Int) ≤ 140737488355328 := by rw [Int.natCast_mul, Int.natCast_add]; exact hp4
              omega
            have hnM : n + M ≤ 140737488355328 := Nat.le_trans (Nat.le_mul_of_pos_right _ hbyt) hpn
            have hMb : M * i.byt ≤ 140737488355328 := Nat.le_trans (Nat.mul_le_mul_right _ (Nat.le_add_left _ _)) hpn
            have hlen : ((xs.drop o1).take n).length = n := by rw [List.length_take, List.length_drop]; omega
            obtain ⟨olds, hO⟩ : ∃ olds, olds = ((cur.toList.take (xs.length * d.sz)).drop (o1 * d.sz)).take (n * d.sz) := ⟨_, rfl⟩
            have hOr : RdF (Rd w (okS w0 hp η w) d) ((xs.drop o1).take n) olds := by rw [hO]; exact RdF.take (fun _ _ => Rd.len) _ (RdF.drop (fun _ _ => Rd.len) o1 hf)
            have hOl : olds.length = n * d.sz := by rw [RdF.len (fun _ _ => Rd.len) hOr, hlen]
            have hold : (Builtin.firstCells j.size n (.slice (some ⟨k3, o', none⟩) n cc)).run P w.drew = .ok olds.toArray w.drew := by
              rw [hjs, hsz]
              refine first_run hOl ?_
              by_cases h0 : n = 0
              · left; apply List.eq_nil_of_length_eq_zero; rw [hOl, h0, Nat.zero_mul]
              · right
                refine ⟨_, rfl, fun j u hj => ?_⟩
                rw [ho' (by omega)]
                rw [hO] at hj
                exact seg_cell (w := w) hcur j u hj
            have hgrow : cc < n + M := by omega
            have hr := Lib.run_append_grow_zeros w t t' o.type el j z' kk k' hu hu' hj hjz (some ⟨k3, o', none⟩) n cc olds hold M (by omega) (by rw [hjs, hsz]; exact D.sz_pos d) hgrow (by omega) (by rw [hjb]; omega) (by rw [hjb]; exact growslice_fits hgrow hpn)
            obtain ⟨G, hG⟩ : ∃ G, G = grownCap w (n + M) cc el := ⟨_, rfl⟩
            have hGn : n + M ≤ G := by rw [hG]; exact grownCap_ge w _ _ _
            have hGm : G ≤ maxLen := by rw [hG]; exact grownCap_le_maxLen w _ _ _ (by simp only [maxLen_eq]; omega)
            rw [← hG] at hr
            have hzd : Rd w (okS w0 hp η w) d z z'.cells.toList := by
              obtain ⟨v1, v2, e1, r1, r2⟩ := D.ps_sound hz (hzr (cxS w0 hp nm η w))
              cases v2 with
              | nil => rw [e1, List.append_nil]; exact r1
              | cons _ _ => exact r2.elim
            have hzsz : z'.cells.size = d.sz := by rw [hzs, hsz]
            have hnew : RdF (Rd w (okS w0 hp η w) d) ((xs.drop o1).take n ++ List.replicate M z) (olds ++ (Builtin.zeroCells z'.cells M).toList) := by
              rw [zeroCells_list]
              exact RdF.app hOr (rdf_rep hzd M)
            obtain ⟨ROW, hROW⟩ : ∃ ROW : Array Value, ROW = olds.toArray ++ Builtin.zeroCells z'.cells M ++ Builtin.zeroCells z'.cells (G - (n + M)) := ⟨_, rfl⟩
            rw [← hROW] at hr
            have hrun : (execOp ρ o).run P w = .ok (.value (.slice (some ⟨w.heap.size, 0, none⟩) (n + M) G)) (w.drew.alloc (.cells ROW el)) := by
              simp only [execOp, ho, resolve, h1, h2', h3', invoke, builtin, ev, hy, Sem.run_bind, Sem.run_pure, Result.andThen_ok, List.map_toArray, List.map_cons, List.map_nil]
              rw [hr]
              rfl
            have htn : Turns hp (rm hp nx) η w (w.drew.alloc (.cells ROW el)) := ⟨rfl, rfl, rfl, by show w.heap.size ≤ (w.heap.push _).size; simp, fun k hk _ => Below.heap_alloc w.drew _ k hk⟩
            have hle := step_le (p := (some w.heap.size, .slice (some ⟨w.heap.size, 0, none⟩) (n + M) G)) (ob := .row el d ((xs.drop o1).take n ++ List.replicate M z)) hnx hH rm_sub htn (fun k hk => .inl (by cases hk; exact Nat.le_refl _))
            have hML : ((xs.drop o1).take n ++ List.replicate M z).length = n + M := by rw [List.length_append, hlen, List.length_replicate]
            unfold Does
            show ∃ n' v w' η', _
            refine ⟨_, _, _, upd η nx (some w.heap.size, .slice (some ⟨w.heap.size, 0, none⟩) (n + M) G), hrun, .inl rfl, ?_, hle, ?_⟩
            · refine step_rep hnx hH rm_sub htn (fun k hk => .inl (by cases hk; exact ⟨Nat.le_refl _, by show w.heap.size < (w.heap.push _).size; simp⟩)) ⟨olds ++ (Builtin.zeroCells z'.cells M).toList, by simp [cxS, upd, Value.ownBlock], ?_, RdF.imp (fun _ _ => Rd.mono hle.ok hle.heap) hnew⟩
              show World.ownsRow _ 0 el d.sz _ ((xs.drop o1).take n ++ List.replicate M z).length _
              rw [hML]
              have hNl : (olds ++ (Builtin.zeroCells z'.cells M).toList).length = (n + M) * d.sz := by
                rw [List.length_append, hOl, Array.length_toList, size_zeroCells, hzsz, Nat.add_mul]
              refine ⟨hNl, .inr ⟨w.heap.size, G, ROW, by simp [cxS, upd], Nat.zero_le _, heap_alloc_new w.drew _, hGn, hGm, ?_, ?_⟩⟩
              · rw [hROW]
                simp only [Array.size_append, List.size_toArray, size_zeroCells, hzsz, hOl]
                rw [← Nat.add_mul, ← Nat.add_mul]
                congr 1
                omega
              · rw [hROW]
                simp only [Array.toList_append]
                rw [List.take_append_of_le_length (by rw [hNl]; exact Nat.le_refl _), List.take_of_length_le (by rw [hNl]; exact Nat.le_refl _)]
            · exact ⟨.inr ⟨Nat.le_refl _, Nat.lt_succ_self _⟩, by simp [cxS, upd], _, _, _, rfl⟩
          · cases h
        · cases h
      · cases h
    · cases h
  · cases h

theorem apS_sound {ti : Nat → Option TI} (ht : TabOk P ti) {w0 : W0} {hp hq : List (Nat × Ob)} {nm : Nat → Prop} {nx : Nat} {η : Nat → Option Nat × Value} {w : World} (hnx : ¬ nm nx) (hH : RepH w0 hp nm η w) (hs : ∀ b o, lk hq b = some o → lk hp b = some o) {t : TypeId} {s y : SV} {e : E}
    {ρ : Operand → Value} {S X : Operand} (h : apS ti t hq nx s y = some e) (hsv : RS (cxS w0 hp nm η w) s (ρ S)) (hy : RS (cxS w0 hp nm η w) y (ρ X)) {o : Oper} {c : Call} (ho : o.op = .call c)
    (h1 : c.callee = .builtin .append) (h2 : c.args.toList = [S, X]) (h3 : c.argTypes.toList = [t, t]) : OP e.hyp ∧ (OP e.pre → Does P w0 hp nm nx η w (execOp ρ o) e) := by
  unfold apS at h
  split at h
  · rename_i b o1 sz n cc
    obtain ⟨hb, hnc, hcm, k2, o', hk, ev, ho'⟩ := hsv
    split at h
    · rename_i el _ _ _ _ el' d xs c0 hi hlk
      split at h
      · rename_i i ys hie hys
        split at h
        · rename_i hc
          obtain ⟨rfl, hsz, rfl⟩ := hc
          cases h
          refine ⟨trivial, ?_⟩
          rintro ⟨⟨rfl, rfl, rfl⟩, hpre⟩
          have hu := tk_slice (ht.is hi).tk
          obtain ⟨k3, cur, hk3, hcur, hcs, hlc, hcm', hf⟩ := hH.obs b _ (hs _ _ hlk)
          have hkk : k3 = k2 := by have : some k3 = some k2 := hk3.symm.trans hk; simpa using this
          subst hkk
          have ho' := ho' (.inr rfl)
          rw [Nat.zero_mul] at ho'
          subst ho'
          obtain ⟨news, g1, g2⟩ := srcV_sound hH hs hys hy
          have hown : w.ownsRow 0 el d.sz (.slice (some ⟨k3, 0, none⟩) xs.length cc) xs.length (cur.toList.take (xs.length * d.sz)) :=
            ⟨by rw [RdF.len (fun _ _ => Rd.len) hf], .inr ⟨k3, cc, cur, rfl, Nat.zero_le _, hcur, hlc, hcm', hcs, rfl⟩⟩
          exact append_does ht hnx hH hu hie hsz (v := .slice (some ⟨k3, 0, none⟩) xs.length cc) hown hf g1 g2 hpre rfl (fun c o h => rm_sub c o (rm_sub c o h)) (fun k hk' => ⟨b, by rw [hs _ _ hlk]; simp, by rw [lk_rm, lk_rm]; simp, by simp [Value.ownBlock] at hk'; subst hk'; exact hk⟩) ho h1 h2 h3 ev rfl
        · cases h
      · cases h
    · cases h
  · cases h

theorem clV_sound {ti : Nat → Option TI} (ht : TabOk P ti) {w0 : W0} {hp hq : List (Nat × Ob)} {nm : Nat → Prop} {nx : Nat} {η : Nat → Option Nat × Value} {w : World} (hH : RepH w0 hp nm η w) (hs : ∀ b o, lk hq b = some o → lk hp b = some o) {t : TypeId} {s : SV} {e : E}
    {ρ : Operand → Value} {S : Operand} (h : clV ti t hq nx s = some e) (hsv : RS (cxS w0 hp nm η w) s (ρ S)) {o : Oper} {c : Call} (ho : o.op = .call c)
    (h1 : c.callee = .builtin .clear) (h2 : c.args.toList = [S]) (h3 : c.argTypes.toList = [t]) : OP e.hyp ∧ (OP e.pre → Does P w0 hp nm nx η w (execOp ρ o) e) := by
  have h2' : c.args = #[S] := by rw [← Array.toList_inj]; simpa using h2
  have h3' : c.argTypes = #[t] := by rw [← Array.toList_inj]; simpa using h3
  unfold clV at h
  split at h
  · rename_i b o1 sz n cc
    split at h
    · rename_i el _ _ _ _ e' d xs c0 hi hlk
      split at h
      · rename_i i hie
        split at h
        · rename_i z hz
          split at h
          · rename_i hc
            obtain ⟨hsz, rfl⟩ := hc
            cases h
            refine ⟨trivial, fun hp1 => ?_⟩
            simp only [OP_some] at hp1
            have hu := tk_slice (ht.is hi).tk
            obtain ⟨zv, hzr, hzs, hzl⟩ := zero_sound ht hie
            obtain ⟨v1, v2, ev0, hv1, hv2⟩ := D.ps_sound hz (hzl (cxS w0 hp nm η w))
            have : v2 = [] := by cases v2 with | nil => rfl | cons _ _ => exact hv2.elim
            subst this
            rw [List.append_nil] at ev0
            obtain ⟨hb, hnc, hcm, kd, od, hk, ev, hod⟩ := hsv
            obtain ⟨k3, cur, hk3, hcur, hcs, hlc, hcm', hf⟩ := hH.obs b _ (hs _ _ hlk)
            have hkk : k3 = kd := by have : some k3 = some kd := hk3.symm.trans hk; simpa using this
            subst hkk
            have hlk' : lk hp b ≠ none := by rw [hs _ _ hlk]; simp
            have g3 : RdF (Rd w (okS w0 hp η w) d) (List.replicate n z) ((List.replicate n v1).flatten) := rdf_rep hv1 n
            have g1 : (List.replicate n z).length = n := by simp
            have hzc : (Builtin.zeroCells zv.cells n).toList = (List.replicate n v1).flatten := by rw [zeroCells_list, ev0]
            generalize hnews : (List.replicate n v1).flatten = news at g3 hzc
            have hnl : news.length = n * d.sz := by rw [RdF.len (fun _ _ => Rd.len) g3, g1]
            have key : ∃ w', (Builtin.clear_ #[t] o.type #[ρ S]).run P w = .ok (.tuple #[]) w' ∧ w'.os = w.os ∧ w'.tape = w.tape ∧ w'.output = w.output ∧ w'.heap.size = w.heap.size ∧ (∀ j, j ≠ k3 → w'.heap[j]? = w.heap[j]?) ∧
                w'.heap[k3]? = some (.cells (cur.toList.take (o1 * d.sz) ++ news ++ cur.toList.drop (o1 * d.sz + news.length)).toArray e' (0, 0)) := by
              by_cases h0 : n = 0
              · subst h0
                have hn0 : news = [] := by apply List.eq_nil_of_length_eq_zero; simpa using hnl
                subst hn0
                refine ⟨w, ?_, rfl, rfl, rfl, rfl, fun _ _ => rfl, ?_⟩
                · simp [Builtin.clear_, und_run hu, ev]
                · simp only [List.append_nil, List.length_nil, Nat.add_zero, List.take_append_drop, Array.toArray_toList]
                  exact hcur
              · have hod := hod (.inl (by omega))
                subst hod
                have hfit : o1 * d.sz + news.length ≤ cur.size := by
                  rw [hnl, hcs, ← Nat.add_mul]; exact Nat.mul_le_mul_right _ (by omega)
                have hst := run_storeCells_at P k3 (o1 * d.sz) e' news 0 cur w hcur (by simpa using hfit) (rdf_ones g3)
                refine ⟨w.setRow k3 (cur.toList.take (o1 * d.sz) ++ news ++ cur.toList.drop (o1 * d.sz + news.length)).toArray, ?_, rfl, rfl, rfl, by simp, fun j hj => setRow_other w k3 j _ hj, setRow_heap w k3 cur _ e' _ hcur⟩
                simp only [Nat.add_zero] at hst
                obtain ⟨n', rfl⟩ : ∃ n', n = n' + 1 := ⟨n - 1, by omega⟩
                simp [Builtin.clear_, und_run hu, ev, hzr, hzc, hst]
            obtain ⟨w', hrun, q1, q2, q3, q4, q5, q6⟩ := key
            obtain ⟨f1, f2⟩ := wid_put hH hlk' hk hcs hlc hcm' hf g1 g3 (p := o1) (by omega) (by omega) q1 q2 q3 q4 q5 q6
            unfold Does
            rw [nmE_same]
            refine ⟨.value _, .tuple #[], w', η, ?_, .inl rfl, f1, f2, ⟨#[], rfl, trivial⟩⟩
            simp [execOp, ho, resolve, h1, h2', h3', invoke, builtin, hrun]
          · cases h
        · cases h
      · cases h
    · cases h
  · cases h

theorem ef_sound {ti : Nat → Option TI} (ht : TabOk P ti) {w0 : W0} {hp hq : List (Nat × Ob)} {nm : Nat → Prop} {nx : Nat} {η : Nat → Option Nat × Value} {w : World} (hnx : ¬ nm nx) (hH : RepH w0 hp nm η w) (hs : ∀ b o, lk hq b = some o → lk hp b = some o)
    {g : Operand → SV} {ρ : Operand → Value} (hg : ∀ o, RS (cxS w0 hp nm η w) (g o) (ρ o)) {o : Oper} {e : E} (h : ef ti hq nx g o.op = some e) :
    OP e.hyp ∧ (OP e.pre → Does P w0 hp nm nx η w (execOp ρ o) e) := by
  unfold ef at h
  split at h
  · rename_i t ho
    exact alV_sound ht hnx hH h ho
  · rename_i t x ho
    exact bxV_sound hnx hH h (hg x) ho
  · rename_i t p x ho
    exact stV_sound ht hH hs h (hg p) (hg x) ho
  · rename_i t len parts ho
    exact bsV_sound ht hnx hH hs hg h ho
  · rename_i c ho
    split at h
    · rename_i s x t t' h1 h2 h3
      split at h
      · rename_i e
        subst e
        split at h
        · rename_i e' hq'
          cases h
          exact apV_sound ht hnx hH hs hq' (hg s) (hg x) ho h1 h2 h3
        · split at h
          · rename_i e' hq'
            cases h
            exact apS_sound ht hnx hH hs hq' (hg s) (hg x) ho h1 h2 h3
          · exact apI_sound ht hH hs h (hg s) (hg x) ho h1 h2 h3
      · exact apM_sound ht hnx hH hs h (hg s) (hg x) ho h1 h2 h3
    · rename_i d s t t' h1 h2 h3
      exact cpV_sound ht hH hs h (hg d) (hg s) ho h1 h2 h3
    · rename_i x t h1 h2 h3
      exact clV_sound ht hH hs h (hg x) ho h1 h2 h3
    · cases h
  · cases h

end OE
