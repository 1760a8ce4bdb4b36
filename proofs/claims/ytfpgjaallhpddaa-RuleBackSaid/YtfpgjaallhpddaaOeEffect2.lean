/- OE, part 4b: slice literals and append; all effects together. Own work; generic over the program. -/
import Derived.Test.YtfpgjaallhpddaaOeEffect
set_option linter.unusedVariables false
namespace OE
open Go Go.RowKit

variable {P : Program}

theorem bsV_sound {ti : Nat → Option TI} (ht : TabOk P ti) {w0 : W0} {hp hq : List (Nat × Ob)} {nm : Nat → Prop} {nx : Nat} {η : Nat → Option Nat × Value} {w : World} (hnx : ¬ nm nx) (hH : RepH w0 hp nm η w) (hs : ∀ b o, lk hq b = some o → lk hp b = some o) {t : TypeId} {len : Nat}
    {parts : Array (Nat × Operand)} {g : Operand → SV} {ρ : Operand → Value} (hg : ∀ o, RS (cxS w0 hp nm η w) (g o) (ρ o)) {e : E}
    (h : bsV ti t len (parts.toList.map fun p => (p.1, g p.2)) hq nx = some e) {o : Oper} (ho : o.op = .buildSlice t len parts) : OP e.hyp ∧ (OP e.pre → Does P w0 hp nm nx η w (execOp ρ o) e) := by
  unfold bsV at h
  split at h
  · rename_i el _ _ _ _ hi
    have hu := tk_slice (ht.is hi).tk
    split at h
    · rename_i i hie
      split at h
      · rename_i hc
        obtain ⟨hlen, hds, hl1, hl2⟩ := hc
        split at h
        · rename_i xs hxs
          cases h
          have hpm : RL (fun (p : Nat × SV) (u : Nat × Value) => p.1 = u.1 ∧ RS (cxS w0 hp nm η w) p.2 u.2) (parts.toList.map fun p => (p.1, g p.2)) (parts.toList.map fun p => (p.1, ρ p.2)) := by
            generalize parts.toList = pl
            induction pl with
            | nil => trivial
            | cons p pl ih => exact ⟨⟨rfl, hg _⟩, ih⟩
          obtain ⟨h1, h2, h3⟩ := psAll_sound hxs hpm
          obtain ⟨z, hz, hzs, _⟩ := zero_sound ht hie
          obtain ⟨j, hj, hjs, hjb⟩ := (ht.is hie).info
          have hsize : (Go.sizeOf el).run P w = .ok i.sz w := by simp [Go.sizeOf, typeInfo, hj, hjs]
          have hpl : (parts.toList.map fun p => (p.1, ρ p.2)).length = len := by simpa using hlen
          refine ⟨trivial, fun _ => ?_⟩
          have hbig : ¬ (len * i.sz > 2 ^ 24) := by
            have : len * i.sz ≤ 4096 * 4096 := Nat.mul_le_mul hl1 hl2
            omega
          generalize hvs : ((parts.toList.map fun p => (p.1, ρ p.2)).flatMap fun u => u.2.cells.toList) = vs at h1 h3
          have hvl : vs.length = len * i.sz := by
            have := RdF.len (fun _ _ => Rd.len) h1
            rw [this, h2, hds, hlen]
          have hfill : ∀ z0 : Array Value, Instr.fill (fun k => some (k * i.sz, i.sz)) ((Array.range (len * i.sz)).map (fun k => z0[k % z0.size]!)) (parts.toList.map fun p => (p.1, ρ p.2)) = some vs.toArray := by
            intro z0
            have := h3 i.sz rfl ((Array.range (len * i.sz)).map (fun k => z0[k % z0.size]!)) (by rw [hpl]; simp)
            rw [this, hpl]
            simp
          have hrun : (execOp ρ o).run P w = .ok (.value (.slice (some ⟨w.heap.size, 0, none⟩) len len)) (w.alloc (.cells vs.toArray el)) := by
            have e1 : ((parts.map fun (p : Nat × Operand) => (p.1, ρ p.2)).toList) = parts.toList.map fun p => (p.1, ρ p.2) := by simp
            simp only [execOp, ho, Instr.buildSlice, Sem.run_bind, und_run hu, Result.andThen_ok, hsize, hbig, if_false, Sem.run_pure, e1, Sem.run_ite]
            split <;> simp only [Sem.run_bind, Sem.run_pure, Result.andThen_ok, hz, hfill, newRow, run_newObj, World.alloc_eq]
          have htn := turns_allocr (nx := nx) (hp := hp) (η := η) (w := w) (.cells vs.toArray el)
          have hle := step_le (p := (some w.heap.size, .slice (some ⟨w.heap.size, 0, none⟩) len len)) (ob := .row el i.d xs) hnx hH rm_sub htn (fun k hk => .inl (by cases hk; exact Nat.le_refl _))
          refine ⟨_, _, _, upd η nx (some w.heap.size, .slice (some ⟨w.heap.size, 0, none⟩) len len), hrun, .inl rfl, ?_, hle, ?_⟩
          · refine step_rep hnx hH rm_sub htn (fun k hk => .inl (by cases hk; simp)) ⟨vs, by simp [cxS, upd, Value.ownBlock], ?_, RdF.imp (fun _ _ => Rd.mono hle.ok hle.heap) h1⟩
            have hxl : xs.length = len := h2.trans (by simpa using hlen)
            refine ⟨by rw [hvl, hxl, hds], .inr ⟨w.heap.size, len, vs.toArray, by simp [cxS, upd, hxl], Nat.zero_le _, heap_alloc_new w _, by omega, by simp only [maxLen_eq]; omega, by simp [hvl, hds], ?_⟩⟩
            rw [hxl, hds]
            exact List.take_of_length_le (by simp [hvl])
          · exact ⟨.inr ⟨Nat.le_refl _, Nat.lt_succ_self _⟩, by simp [cxS, upd], _, _, _, rfl⟩
        · split at h
          · rename_i l hl
            split at h
            rotate_left
            · cases h
            cases h
            have hpm : RL (fun (p : Nat × SV) (u : Nat × Value) => p.1 = u.1 ∧ RS (cxS w0 hp nm η w) p.2 u.2) (parts.toList.map fun p => (p.1, g p.2)) (parts.toList.map fun p => (p.1, ρ p.2)) := by
              generalize parts.toList = pl
              induction pl with
              | nil => trivial
              | cons p pl ih => exact ⟨⟨rfl, hg _⟩, ih⟩
            obtain ⟨h1, h2, h3⟩ := pcAll_sound hl hpm
            obtain ⟨z, hz, hzs, _⟩ := zero_sound ht hie
            obtain ⟨j, hj, hjs, hjb⟩ := (ht.is hie).info
            have hsize : (Go.sizeOf el).run P w = .ok i.sz w := by simp [Go.sizeOf, typeInfo, hj, hjs]
            have hpl : (parts.toList.map fun p => (p.1, ρ p.2)).length = len := by simpa using hlen
            refine ⟨trivial, fun _ => ?_⟩
            have hbig : ¬ (len * i.sz > 2 ^ 24) := by
              have : len * i.sz ≤ 4096 * 4096 := Nat.mul_le_mul hl1 hl2
              omega
            have hcell : ∀ u ∈ parts.toList.map (fun p => (p.1, ρ p.2)), u.2.cells.size = i.sz := by
              have key : ∀ {parts : List (Nat × SV)} {vals : List (Nat × Value)} {n : Nat} {l : List C}, pcAll i n parts = some l → RL (fun (p : Nat × SV) (u : Nat × Value) => p.1 = u.1 ∧ RS (cxS w0 hp nm η w) p.2 u.2) parts vals → ∀ u ∈ vals, u.2.cells.size = i.sz := by
                intro parts
                induction parts with
                | nil => intro vals n l _ hr u hu; cases vals with | nil => cases hu | cons _ _ => exact hr.elim
                | cons p parts ih =>
                  intro vals n l hpc hr u hu
                  obtain ⟨k, s⟩ := p
                  cases vals with
                  | nil => exact hr.elim
                  | cons q vals =>
                    simp only [pcAll] at hpc
                    split at hpc
                    · split at hpc
                      · rename_i l1 hl1
                        split at hpc
                        · rename_i m hm
                          rcases List.mem_cons.1 hu with rfl | hu
                          · obtain ⟨c1, c2, _⟩ := cellsOf_sound hl1 hr.1.2
                            have := RL.len c2
                            rw [c1] at this
                            simpa using this.symm
                          · exact ih hm hr.2 u hu
                        · cases hpc
                      · cases hpc
                    · cases hpc
              exact key hl hpm
            generalize hvs : ((parts.toList.map fun p => (p.1, ρ p.2)).flatMap fun u => u.2.cells.toList) = vs at h1 h3
            have hvl : vs.length = len * i.sz := by
              rw [← hvs, ← hpl]
              clear hvs h1 h3 hpm hl hpl
              generalize parts.toList.map (fun p => (p.1, ρ p.2)) = vals at hcell
              induction vals with
              | nil => simp
              | cons u vals ih =>
                have h0 := hcell u (by simp)
                have := ih (fun v hv => hcell v (by simp [hv]))
                simp only [List.flatMap_cons, List.length_append, Array.length_toList, h0, this, List.length_cons, Nat.add_mul, Nat.one_mul]
                omega
            have hfill : ∀ z0 : Array Value, Instr.fill (fun k => some (k * i.sz, i.sz)) ((Array.range (len * i.sz)).map (fun k => z0[k % z0.size]!)) (parts.toList.map fun p => (p.1, ρ p.2)) = some vs.toArray := by
              intro z0
              have := h3 i.sz rfl ((Array.range (len * i.sz)).map (fun k => z0[k % z0.size]!)) (by rw [hpl]; simp)
              rw [this, hpl]
              simp
            have hrun : (execOp ρ o).run P w = .ok (.value (.slice (some ⟨w.heap.size, 0, none⟩) len len)) (w.alloc (.cells vs.toArray el)) := by
              have e1 : ((parts.map fun (p : Nat × Operand) => (p.1, ρ p.2)).toList) = parts.toList.map fun p => (p.1, ρ p.2) := by simp
              simp only [execOp, ho, Instr.buildSlice, Sem.run_bind, und_run hu, Result.andThen_ok, hsize, hbig, if_false, Sem.run_pure, e1, Sem.run_ite]
              split <;> simp only [Sem.run_bind, Sem.run_pure, Result.andThen_ok, hz, hfill, newRow, run_newObj, World.alloc_eq]
            have htn := turns_allocr (nx := nx) (hp := hp) (η := η) (w := w) (.cells vs.toArray el)
            have hle := step_le (p := (some w.heap.size, undef)) (ob := .cells el l) hnx hH rm_sub htn (fun k hk => .inl (by cases hk; exact Nat.le_refl _))
            refine ⟨_, _, _, upd η nx (some w.heap.size, undef), hrun, .inl rfl, ?_, hle, ?_⟩
            · exact step_rep hnx hH rm_sub htn (fun k hk => .inl (by cases hk; simp)) ⟨w.heap.size, vs.toArray, by simp [cxS, upd], heap_alloc_new w _, RL.imp (fun _ _ => RC.mono hle) h1⟩
            · exact ⟨.inr ⟨Nat.le_refl _, Nat.lt_succ_self _⟩, w.heap.size, by simp [cxS, upd], rfl⟩
          · cases h
      · cases h
    · cases h
  · cases h

/-- the source of an append: what the machine reads there -/
theorem srcV_sound {w0 : W0} {hp hq : List (Nat × Ob)} {nm : Nat → Prop} {η : Nat → Option Nat × Value} {w : World} (hH : RepH w0 hp nm η w) (hs : ∀ b o, lk hq b = some o → lk hp b = some o) {d : D} {s : SV} {ys : List d.T} {v : Value} (h : srcV d hq s = some ys)
    (hx : RS (cxS w0 hp nm η w) s v) : ∃ news, RdF (Rd w (okS w0 hp η w) d) ys news ∧ (v = .slice none 0 0 ∧ ys = [] ∨ ∃ a c, v = .slice (some a) ys.length c ∧ (∀ j u, news[j]? = some u → w.cell? (a.add j) = some u)) := by
  have cells : ∀ {k off : Nat} {cells : Array Value} {T : TypeId} {fz : Nat × Nat} {n : Nat}, w.heap[k]? = some (.cells cells T fz) → ∀ j u, ((cells.toList.drop off).take n)[j]? = some u → w.cell? ((⟨k, off, none⟩ : Addr).add j) = some u := by
    intro k off cells T fz n hk j u hj
    rw [add_plain', cell_of hk]
    rw [List.getElem?_take] at hj
    split at hj
    · simpa using hj
    · cases hj
  unfold srcV at h
  split at h
  · rename_i d' zs
    split at h
    · rename_i e
      subst e
      simp only [Option.some.injEq] at h
      subst h
      have hx' : Rd w (okS w0 hp η w) (.list d') zs [v] := hx
      simp only [Rd] at hx'
      obtain ⟨A, c, e, hc, hm, hn, hr⟩ := hx'
      simp only [List.cons.injEq, and_true] at e
      rcases hr with hr | ⟨k, off, cs, T, fz, hA, hok, hb, hf⟩
      · have hz : zs = [] := hr
        subst hz
        refine ⟨[], rfl, ?_⟩
        cases A with
        | none => left; rw [hn rfl] at e; exact ⟨e, rfl⟩
        | some a => right; exact ⟨a, c, e, fun j u hj => by simp at hj⟩
      · exact ⟨_, hf, .inr ⟨_, c, by rw [e, hA], cells hb⟩⟩
    · cases h
  · rename_i b
    split at h
    · rename_i T d' zs hlk
      split at h
      · rename_i e
        subst e
        simp only [Option.some.injEq] at h
        subst h
        obtain ⟨hb, e, _⟩ := hx
        obtain ⟨cs, r1, r2, r3⟩ := hH.obs b _ (hs _ _ hlk)
        refine ⟨cs, r3, ?_⟩
        rcases r2.2 with ⟨hv, hn⟩ | ⟨g, cap, cur, hv, _, hg, hc1, hc2, hc3, hc4⟩
        · left; exact ⟨e.trans hv, List.eq_nil_of_length_eq_zero hn⟩
        · right
          refine ⟨_, cap, e.trans hv, fun j u hj => ?_⟩
          rw [← hc4] at hj
          exact cells (off := 0) hg j u (by simpa using hj)
      · cases h
    · cases h
  · simp only [Option.some.injEq] at h
    subst h
    obtain ⟨e, _⟩ := hx
    exact ⟨[], rfl, .inl ⟨e, rfl⟩⟩
  · cases h

theorem rdf_one {w : World} {ok : Nat → Prop} : ∀ {d : D} {y : d.T} {cs : List Value}, Rd w ok d y cs → ∀ u ∈ cs, u.oneCell' = true
  | .int _, _, _, h => by simp only [Rd] at h; subst h; simp [Value.oneCell']
  | .bool, _, _, h => by simp only [Rd] at h; subst h; simp [Value.oneCell']
  | .str, _, _, h => by simp only [Rd] at h; subst h; simp [Value.oneCell']
  | .pair a b, _, _, h => by
    simp only [Rd] at h
    obtain ⟨c1, c2, rfl, h1, h2⟩ := h
    intro u hu
    rcases List.mem_append.1 hu with h | h
    · exact rdf_one h1 u h
    · exact rdf_one h2 u h
  | .list a, _, _, h => by
    simp only [Rd] at h
    obtain ⟨A, c, rfl, _⟩ := h
    simp [Value.oneCell']

theorem rdf_ones {w : World} {ok : Nat → Prop} {d : D} : ∀ {ys : List d.T} {cs : List Value}, RdF (Rd w ok d) ys cs → ∀ u ∈ cs, u.oneCell' = true
  | [], _, h => by simp only [RdF] at h; subst h; simp
  | y :: ys, _, ⟨c1, c2, e, h1, h2⟩ => by
    subst e
    intro u hu
    rcases List.mem_append.1 hu with h | h
    · exact rdf_one h1 u h
    · exact rdf_ones h2 u h

/-- append onto a row of the call's own, or onto nil -/
theorem append_does {ti : Nat → Option TI} (ht : TabOk P ti) {w0 : W0} {hp hp0 : List (Nat × Ob)} {nm : Nat → Prop} {nx : Nat} {ch : List (Nat × Option Ob)} {η : Nat → Option Nat × Value} {w : World} (hnx : ¬ nm nx) (hH : RepH w0 hp nm η w) {t el : TypeId} {i : TI} {d : D}
    (hu : P.underlying t = some (.slice el)) (hi : ti el = some i) (hsz : i.sz = d.sz) {v x : Value} {xs ys : List d.T} {cs news : List Value} (hown : w.ownsRow 0 el d.sz v xs.length cs) (hcs : RdF (Rd w (okS w0 hp η w) d) xs cs)
    (hnews : RdF (Rd w (okS w0 hp η w) d) ys news) (hsrc : x = .slice none 0 0 ∧ ys = [] ∨ ∃ a c, x = .slice (some a) ys.length c ∧ (∀ j u, news[j]? = some u → w.cell? (a.add j) = some u))
    (hpre : (xs.length + ys.length) * i.byt ≤ 140737488355328) (hch : apC hp ch = (nx, .row el d (xs ++ ys)) :: hp0) (hsub : ∀ b o, lk hp0 b = some o → lk hp b = some o)
    (hv : ∀ k, v.ownBlock = some k → ∃ b, lk hp b ≠ none ∧ lk hp0 b = none ∧ (η b).1 = some k)
    {ρ : Operand → Value} {o : Oper} {S X : Operand} {c : Call} (ho : o.op = .call c) (h1 : c.callee = .builtin .append) (h2 : c.args.toList = [S, X]) (h3 : c.argTypes.toList = [t, t]) (hS : ρ S = v) (hX : ρ X = x) :
    Does P w0 hp nm nx η w (execOp ρ o) ⟨none, some ((xs.length + ys.length) * i.byt ≤ 140737488355328), .c (.row nx), ch, nx + 1⟩ := by
  have h2' : c.args = #[S, X] := by rw [← Array.toList_inj]; simpa using h2
  have h3' : c.argTypes = #[t, t] := by rw [← Array.toList_inj]; simpa using h3
  obtain ⟨j, hj, hjs, hjb⟩ := (ht.is hi).info
  have hbyt := (ht.is hi).byt
  obtain ⟨j', z, hj', hjz, _⟩ := (ht.is hi).zero
  rw [hj] at hj'
  cases hj'
  obtain ⟨z', hz', hzs, _⟩ := zero_sound ht hi
  have hzz : z' = z := by
    have := hz' w
    simp [zeroValue, typeInfo, hj, hjz] at this
    exact this.symm
  subst hzz
  have key : ∃ v' w', (Builtin.append_ #[t, t] o.type #[v, x]).run P w = .ok v' w' ∧ w'.ownsRow 0 el d.sz v' (xs.length + ys.length) (cs ++ news) ∧ w.grownBy w' v.ownBlock ∧
      (v'.ownBlock = v.ownBlock ∨ ∀ k, v'.ownBlock = some k → w.heap.size ≤ k ∧ k < w'.heap.size) := by
    rcases hsrc with ⟨rfl, rfl⟩ | ⟨a, cap, rfl, hc⟩
    · have : news = [] := hnews
      subst this
      refine ⟨v, w, run_append_owned_none (P := P) (w := w) 0 t o.type el j d.sz hu hj v xs.length cs hown, by simpa using hown, ⟨rfl, rfl, rfl, Nat.le_refl _, fun _ _ _ => rfl⟩, .inl rfl⟩
    · have hml : xs.length + ys.length ≤ 140737488355328 := Nat.le_trans (Nat.le_mul_of_pos_right _ hbyt) hpre
      obtain ⟨v', w', r1, r2, r3, r4⟩ := run_append_own (P := P) (w := w) 0 t o.type el j z' d.sz i.byt hu hj hjz (by rw [hjs, hsz]) hjb (by rw [hzs, hsz]) (D.sz_pos d) v xs.length cs hown a ys.length cap news
        (by rw [RdF.len (fun _ _ => Rd.len) hnews]) hc (rdf_ones hnews) (by simp only [maxLen_eq]; omega) hpre (Nat.zero_le _)
      refine ⟨v', w', r1, r2, r3, ?_⟩
      have hnl : news.length = ys.length * j.size := by rw [RdF.len (fun _ _ => Rd.len) hnews, hjs, hsz]
      rcases hown.2 with ⟨rfl, hn⟩ | ⟨g, cap', cur, rfl, _, hg, hnc, hcm, hcs', htake⟩
      · by_cases hm : ys.length = 0
        · rw [r4.2 ⟨rfl, hm⟩]; exact .inl rfl
        · have hex := run_append_nil (P := P) w t o.type el j z' hu hj hjz a ys.length cap news hnl hc (by omega) (by omega) (by rw [hjb]; rw [hn] at hpre; simp at hpre; omega)
          rw [r1] at hex
          cases hex
          exact .inr fun k hk => by simp [Value.ownBlock] at hk; subst hk; exact ⟨Nat.le_refl _, by simp⟩
      · by_cases hroom : xs.length + ys.length ≤ cap'
        · have hfit : xs.length * j.size + news.length ≤ cur.size := by rw [hnl, hcs', ← Nat.add_mul, hjs, hsz]; exact Nat.mul_le_mul_right _ hroom
          have hex := run_append_room (P := P) w t o.type el j hu hj g xs.length cap' cur hg a ys.length cap news hnl hc (rdf_ones hnews) hroom hfit
          rw [r1] at hex
          cases hex
          exact .inl rfl
        · have holds : ∀ j u, cs[j]? = some u → w.cell? ((⟨g, 0, none⟩ : Addr).add j) = some u := hown.cells (g := g) rfl
          have hex := run_append_grow (P := P) w t o.type el j z' hu hj hjz ⟨g, 0, none⟩ xs.length cap' cs (by rw [hown.1, hjs, hsz]) holds a ys.length cap news hnl hc (by omega) (by omega) (growslice_fits (by omega) (by rw [hjb]; exact hpre))
          rw [r1] at hex
          cases hex
          exact .inr fun k hk => by simp [Value.ownBlock] at hk; subst hk; exact ⟨Nat.le_refl _, by simp⟩
  obtain ⟨v', w', r1, r2, r3, r4⟩ := key
  have hrun : (execOp ρ o).run P w = .ok (.value v') w' := by
    simp [execOp, ho, resolve, h1, h2', h3', invoke, builtin, hS, hX, r1]
  have htn : Turns hp hp0 η w w' := ⟨r3.os, r3.tape, r3.output, r3.size, fun k hk hno => r3.block k hk (fun e => by
    obtain ⟨b, hb1, hb2, hb3⟩ := hv k e.symm
    exact hno b hb1 hb2 hb3)⟩
  have hp1 : ∀ k, v'.ownBlock = some k → (w.heap.size ≤ k ∧ k < w'.heap.size) ∨ ∃ b, lk hp b ≠ none ∧ lk hp0 b = none ∧ (η b).1 = some k := fun k hk => by
    rcases r4 with e | h
    · rw [e] at hk; exact .inr (hv k hk)
    · exact .inl (h k hk)
  have hle := step_le (p := (v'.ownBlock, v')) (ob := .row el d (xs ++ ys)) hnx hH hsub htn (fun k hk => (hp1 k hk).imp (·.1) (fun ⟨b, h1, _, h3⟩ => ⟨b, h1, h3⟩))
  unfold Does
  rw [hch]
  refine ⟨_, _, _, upd η nx (v'.ownBlock, v'), hrun, .inl rfl, ?_, hle, ?_⟩
  · refine step_rep hnx hH hsub htn hp1 ⟨cs ++ news, by simp [cxS, upd], ?_, RdF.imp (fun _ _ => Rd.mono hle.ok hle.heap) (RdF.app hcs hnews)⟩
    simpa [cxS, upd] using r2
  · refine ⟨.inr ⟨Nat.le_refl _, Nat.lt_succ_self _⟩, by simp [cxS, upd], ?_⟩
    rcases r2.2 with ⟨e, _⟩ | ⟨g, cap, cur, e, _⟩
    · exact ⟨_, _, _, e⟩
    · exact ⟨_, _, _, e⟩

theorem apV_sound {ti : Nat → Option TI} (ht : TabOk P ti) {w0 : W0} {hp hq : List (Nat × Ob)} {nm : Nat → Prop} {nx : Nat} {η : Nat → Option Nat × Value} {w : World} (hnx : ¬ nm nx) (hH : RepH w0 hp nm η w) (hs : ∀ b o, lk hq b = some o → lk hp b = some o) {t : TypeId} {s y : SV} {e : E}
    {ρ : Operand → Value} {S X : Operand} (h : apV ti t hq nx s y = some e) (hsv : RS (cxS w0 hp nm η w) s (ρ S)) (hy : RS (cxS w0 hp nm η w) y (ρ X)) {o : Oper} {c : Call} (ho : o.op = .call c)
    (h1 : c.callee = .builtin .append) (h2 : c.args.toList = [S, X]) (h3 : c.argTypes.toList = [t, t]) : OP e.hyp ∧ (OP e.pre → Does P w0 hp nm nx η w (execOp ρ o) e) := by
  unfold apV at h
  split at h
  · rename_i b
    obtain ⟨hb, es, _⟩ := hsv
    split at h
    · rename_i el _ _ _ _ el' d xs hi hlk
      split at h
      · rename_i i ys hie hys
        split at h
        · rename_i hc
          obtain ⟨rfl, hsz⟩ := hc
          cases h
          have hu := tk_slice (ht.is hi).tk
          obtain ⟨cs, r1, r2, r3⟩ := hH.obs b _ (hs _ _ hlk)
          obtain ⟨news, g1, g2⟩ := srcV_sound hH hs hys hy
          refine ⟨trivial, fun hp => append_does ht hnx hH hu hie hsz (v := (η b).2) r2 r3 g1 g2 hp rfl (fun c o h => rm_sub c o (rm_sub c o h)) (fun k hk => ⟨b, by rw [hs _ _ hlk]; simp, by rw [lk_rm, lk_rm]; simp, ?_⟩) ho h1 h2 h3 es rfl⟩
          have : (η b).1 = (η b).2.ownBlock := r1
          rw [this]; exact hk
        · cases h
      · cases h
    · cases h
  · obtain ⟨es, _⟩ := hsv
    split at h
    · rename_i el _ _ _ _ hi
      split at h
      · rename_i i hie
        split at h
        · rename_i ys hys
          split at h
          · rename_i hsz
            cases h
            have hu := tk_slice (ht.is hi).tk
            obtain ⟨news, g1, g2⟩ := srcV_sound hH hs hys hy
            refine ⟨trivial, fun hp => ?_⟩
            have := append_does ht hnx hH hu hie hsz (v := .slice none 0 0) (xs := []) (cs := []) (ch := [(nx, some (.row el i.d ys))]) (World.ownsRow_nil w 0 el i.d.sz) rfl g1 g2 (by simpa using hp) rfl rm_sub
              (fun k hk => by simp [Value.ownBlock] at hk) ho h1 h2 h3 es rfl
            simpa using this
          · cases h
        · cases h
      · cases h
    · cases h
  · cases h

theorem ef_sound {ti : Nat → Option TI} (ht : TabOk P ti) {w0 : W0} {hp hq : List (Nat × Ob)} {nm : Nat → Prop} {nx : Nat} {η : Nat → Option Nat × Value} {w : World} (hnx : ¬ nm nx) (hH : RepH w0 hp nm η w) (hs : ∀ b o, lk hq b = some o → lk hp b = some o)
    {g : Operand → SV} {ρ : Operand → Value} (hg : ∀ o, RS (cxS w0 hp nm η w) (g o) (ρ o)) {o : Oper} {e : E} (h : ef ti hq nx g o.op = some e) :
    OP e.hyp ∧ (OP e.pre → Does P w0 hp nm nx η w (execOp ρ o) e) := by
  unfold ef at h
  split at h
  · rename_i t ho
    exact alV_sound ht hnx hH h ho
  · rename_i t x ho
    exact bxV_sound hnx hH h (hg x) ho
  · rename_i t p x ho
    exact stV_sound ht hH hs h (hg p) (hg x) ho
  · rename_i t len parts ho
    exact bsV_sound ht hnx hH hs hg h ho
  · rename_i c ho
    split at h
    · rename_i s x t t' h1 h2 h3
      split at h
      · rename_i e
        subst e
        exact apV_sound ht hnx hH hs h (hg s) (hg x) ho h1 h2 h3
      · cases h
    · cases h
  · cases h

end OE
