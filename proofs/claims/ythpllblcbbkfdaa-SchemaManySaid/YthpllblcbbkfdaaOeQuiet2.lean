/- OE, part 3b: cuts, lengths, function values, structs out of parts; all quiet operations together. Own work; generic over the program. -/
import Derived.Test.YthpllblcbbkfdaaOeQuiet
namespace OE
open Go Go.RowKit

variable {P : Program}

theorem run_bound {v : Value} {kk : IntKind} {a : Int} (hv : v = .int kk a) {y : Nat} {code : BoundsCode} (h0 : 0 ≤ a) (h1 : a ≤ y) (w : World) : (Instr.sliceBound v y code).run P w = .ok a.toNat w := by
  subst hv
  simp [Instr.sliceBound, asIntOf, h0, h1]

theorem run_bounds {x : Cx} {n cap : Nat} (hn : n ≤ cap) {lo hi : Option SV} {lv hv : Option Value} {p : Prop} {a b : Nat} (h : cutB n lo hi = some (p, a, b))
    (hl : ∀ s, lo = some s → ∃ v, lv = some v ∧ RS x s v) (hl' : lo = none → lv = none) (hh : ∀ s, hi = some s → ∃ v, hv = some v ∧ RS x s v) (hh' : hi = none → hv = none) (hp : p) (isS : Bool) :
    a ≤ b ∧ b ≤ n ∧ ∀ w, (Instr.sliceBounds isS n cap lv hv none).run P w = .ok (a, b, cap) w := by
  unfold cutB at h
  split at h
  · cases h
    rw [hl' rfl, hh' rfl]
    exact ⟨Nat.zero_le _, Nat.le_refl _, fun w => by simp [Instr.sliceBounds]⟩
  · rename_i k a
    cases h
    obtain ⟨v, e, hv⟩ := hl _ rfl
    have hv := rs_int hv
    rw [e, hh' rfl]
    refine ⟨by omega, Nat.le_refl _, fun w => ?_⟩
    simp [Instr.sliceBounds, run_bound hv hp.1 hp.2]
  · rename_i k b
    cases h
    obtain ⟨v, e, hv⟩ := hh _ rfl
    have hv := rs_int hv
    rw [e, hl' rfl]
    refine ⟨Nat.zero_le _, by omega, fun w => ?_⟩
    have : b ≤ (cap : Int) := by omega
    simp [Instr.sliceBounds, run_bound hv hp.1 this]
  · rename_i k a k' b
    cases h
    obtain ⟨v, e, hv⟩ := hh _ rfl
    obtain ⟨u, e', hu⟩ := hl _ rfl
    have hv := rs_int hv
    have hu := rs_int hu
    obtain ⟨⟨h1, h2⟩, h3, h4⟩ := hp
    rw [e, e']
    refine ⟨by omega, by omega, fun w => ?_⟩
    have hb : b ≤ (cap : Int) := by omega
    have ha : a ≤ (b.toNat : Int) := by omega
    simp [Instr.sliceBounds, run_bound hv h1 hb, run_bound hu h3 ha]
  · cases h

theorem map_g {x : Cx} {g : Operand → SV} {ρ : Operand → Value} (hg : ∀ o, RS x (g o) (ρ o)) (lo : Option Operand) : (∀ s, lo.map g = some s → ∃ v, lo.map ρ = some v ∧ RS x s v) ∧ (lo.map g = none → lo.map ρ = none) := by
  cases lo with
  | none => exact ⟨fun s h => (by simp at h), fun _ => rfl⟩
  | some o => exact ⟨fun s h => ⟨_, rfl, by simp at h; subst h; exact hg o⟩, fun h => by simp at h⟩

theorem cutV_sound {ti : Nat → Option TI} (ht : TabOk P ti) {x : Cx} {g : Operand → SV} {ρ : Operand → Value} (hg : ∀ o, RS x (g o) (ρ o)) {t : TypeId} {lo hi : Option Operand} {X : Operand} {q : Q} {w : World}
    (h : cutV ti t (lo.map g) (hi.map g) (g X) = some q) {o : Oper} (ho : o.op = .slice t X lo hi none) : OP q.hyp ∧ (OP q.pre → ∃ v, RS x q.v v ∧ Yields P w v (execOp ρ o)) := by
  have hX := hg X
  unfold cutV at h
  split at h
  · rename_i s hs
    rw [hs] at hX
    have ex := rs_str hX
    split at h
    · rename_i p a b hi' hc
      cases h
      have hu := tk_str (ht.is hi').tk
      refine ⟨trivial, fun hp => ?_⟩
      obtain ⟨h1, h2, hr⟩ := run_bounds (P := P) (cap := s.length) (Nat.le_refl _) hc (map_g hg lo).1 (map_g hg lo).2 (map_g hg hi).1 (map_g hg hi).2 hp false
      refine ⟨_, rfl, fun w' _ => ?_⟩
      have e1 : (ByteArray.mk s.toArray).size = s.length := by simp [ByteArray.size]
      have e2 : (ByteArray.mk s.toArray).extract a b = ByteArray.mk ((s.take b).drop a).toArray := by
        apply ByteArray.ext
        simp [List.drop_take]
      simp [execOp, ho, ex, Instr.sliceAt, Instr.slice, und_run hu, e1, hr, e2]
    · cases h
  · rename_i d xs hs
    rw [hs] at hX
    have hx' : Rd x.w x.ok (.list d) xs [ρ X] := hX
    simp only [Rd] at hx'
    obtain ⟨A, c, e, hc, hm, hn, hr⟩ := hx'
    simp only [List.cons.injEq, and_true] at e
    split at h
    · rename_i e' _ _ _ _ p a b hi' hcb
      have hu := tk_slice (ht.is hi').tk
      split at h
      · rename_i hsz
        cases h
        obtain ⟨ie, hie, hie2⟩ := sz_some hsz
        obtain ⟨j', hj', hj2, _⟩ := (ht.is hie).info
        refine ⟨trivial, fun hp => ?_⟩
        obtain ⟨h1, h2, hrun⟩ := run_bounds (P := P) (cap := c) hc hcb (map_g hg lo).1 (map_g hg lo).2 (map_g hg hi).1 (map_g hg hi).2 hp true
        refine ⟨.slice (if c = a then A else A.map (·.add (a * d.sz))) (b - a) (c - a), ?_, fun w' _ => ?_⟩
        · have hlen : ((xs.take b).drop a).length = b - a := by simp; omega
          refine (show Rd x.w x.ok (.list d) _ [_] from ?_)
          simp only [Rd]
          refine ⟨_, c - a, by rw [hlen], by omega, by omega, fun hA => ?_, ?_⟩
          · split at hA
            · rw [hn hA]; omega
            · simp at hA; rw [hn hA]; omega
          · rcases hr with hr | ⟨k, off, cells, T, fz, hA, hok', hb, hf⟩
            · subst hr; left; simp
            · by_cases hca : c = a
              · left
                apply List.eq_nil_of_length_eq_zero
                omega
              · right
                refine ⟨k, off + a * d.sz, cells, T, fz, by rw [if_neg hca, hA]; simp [add_plain'], hok', hb, ?_⟩
                have := RdF.drop (fun _ _ => Rd.len) a (RdF.take (fun _ _ => Rd.len) b hf)
                rw [hlen]
                have e3 : (((cells.toList.drop off).take (xs.length * d.sz)).take (b * d.sz)).drop (a * d.sz) = (cells.toList.drop (off + a * d.sz)).take ((b - a) * d.sz) := by
                  have hbx : b * d.sz ≤ xs.length * d.sz := Nat.mul_le_mul_right _ h2
                  rw [List.take_take, Nat.min_eq_left hbx, List.drop_take, List.drop_drop, Nat.sub_mul]
                rw [← e3]
                exact this
        · simp [execOp, ho, e, Instr.sliceAt, Instr.slice, und_run hu, hrun, Go.sizeOf, typeInfo, hj', hj2, hie2]
      · cases h
    · cases h
  · cases h

theorem bounds_hi (isS : Bool) (n c : Nat) (lv : Option Value) (u : Value) : Instr.sliceBounds isS n c lv (some u) none = Instr.sliceBounds isS c c lv (some u) none := rfl

theorem cutS_sound {ti : Nat → Option TI} (ht : TabOk P ti) {x : Cx} {g : Operand → SV} {ρ : Operand → Value} (hg : ∀ o, RS x (g o) (ρ o)) {t : TypeId} {lo hi : Option Operand} {X : Operand} {q : Q} {w : World}
    (h : cutS ti t (lo.map g) (hi.map g) (g X) = some q) {o : Oper} (ho : o.op = .slice t X lo hi none) : OP q.hyp ∧ (OP q.pre → ∃ v, RS x q.v v ∧ Yields P w v (execOp ρ o)) := by
  have hX := hg X
  unfold cutS at h
  split at h
  · rename_i b o1 sz n c hs
    rw [hs] at hX
    obtain ⟨hnm, hnc, hcm, k, o', hk, e, ho'⟩ := hX
    split at h
    · rename_i e' _ _ _ _ hi'
      have hu := tk_slice (ht.is hi').tk
      split at h
      · rename_i hsz
        obtain ⟨ie, hie, hie2⟩ := sz_some hsz
        obtain ⟨j', hj', hj2, _⟩ := (ht.is hie).info
        have fin : ∀ (a h : Nat), a ≤ h → h ≤ c → (∀ w, (Instr.sliceBounds true n c (lo.map ρ) (hi.map ρ) none).run P w = .ok (a, h, c) w) →
            ∃ v, RS x (.c (.sub b (o1 + a) sz (h - a) (c - a))) v ∧ Yields P w v (execOp ρ o) := by
          intro a h h1 h2 hrun
          refine ⟨.slice (if c = a then some ⟨k, o', none⟩ else (some ⟨k, o', none⟩ : Option Addr).map (·.add (a * sz))) (h - a) (c - a), ?_, fun w' _ => ?_⟩
          · refine ⟨hnm, by omega, by omega, k, if c = a then o' else o' + a * sz, hk, ?_, fun hc => ?_⟩
            · split <;> simp [add_plain']
            · split
              · have : o1 = 0 ∧ a = 0 := by omega
                rw [ho' (.inr this.1), this.1, this.2]
              · rw [ho' (by omega), Nat.add_mul]
          · simp [execOp, ho, e, Instr.sliceAt, Instr.slice, und_run hu, hrun, Go.sizeOf, typeInfo, hj', hj2, hie2]
        split at h
        · rename_i hn
          split at h
          · rename_i p a h' hcb
            cases h
            refine ⟨trivial, fun hp => ?_⟩
            obtain ⟨h1, h2, hrun⟩ := run_bounds (P := P) (x := x) (cap := c) hnc hcb (map_g hg lo).1 (map_g hg lo).2 (hv := none) (by simp) (by simp) hp true
            have hh : hi.map ρ = none := (map_g hg hi).2 hn
            exact fin a h' h1 (by omega) (by rw [hh]; exact hrun)
          · cases h
        · rename_i s hn
          split at h
          · rename_i p a h' hcb
            cases h
            refine ⟨trivial, fun hp => ?_⟩
            obtain ⟨u, hu1, hu2⟩ := (map_g hg hi).1 s hn
            obtain ⟨h1, h2, hrun⟩ := run_bounds (P := P) (x := x) (cap := c) (Nat.le_refl c) hcb (map_g hg lo).1 (map_g hg lo).2 (hv := some u) (fun s' hs' => by cases hs'; exact ⟨u, rfl, hu2⟩) (by simp) hp true
            exact fin a h' h1 h2 (by rw [hu1, bounds_hi]; exact hrun)
          · cases h
      · cases h
    · cases h
  · rename_i hs
    rw [hs] at hX
    obtain ⟨e, hone⟩ := hX
    split at h
    · rename_i e' _ _ _ _ hi'
      have hu := tk_slice (ht.is hi').tk
      split at h
      · rename_i sz hsz
        obtain ⟨ie, hie, hie2⟩ := sz_some hsz
        obtain ⟨j', hj', hj2, _⟩ := (ht.is hie).info
        split at h
        · rename_i p a b hcb
          cases h
          refine ⟨trivial, fun hp => ?_⟩
          obtain ⟨h1, h2, hrun⟩ := run_bounds (P := P) (x := x) (cap := 0) (Nat.le_refl 0) hcb (map_g hg lo).1 (map_g hg lo).2 (map_g hg hi).1 (map_g hg hi).2 hp true
          have ea : a = 0 := by omega
          have eb : b = 0 := by omega
          subst ea eb
          refine ⟨.slice none 0 0, ⟨rfl, rfl⟩, fun w' _ => ?_⟩
          simp [execOp, ho, e, Instr.sliceAt, Instr.slice, und_run hu, hrun, Go.sizeOf, typeInfo, hj']
        · cases h
      · cases h
    · cases h
  · cases h

theorem cut3_sound {ti : Nat → Option TI} (ht : TabOk P ti) {w0 : W0} {hp hq : List (Nat × Ob)} {nx : Nat → Prop} {η : Nat → Option Nat × Value} {w : World} (hH : RepH w0 hp nx η w) (hs : ∀ b o, lk hq b = some o → lk hp b = some o) {t : TypeId} {s sa sh sm : SV} {q : Q}
    {X A H M : Operand} {ρ : Operand → Value} (h : cut3 hq (ti t) ti s sa sh sm = some q) (hx : RS (cxS w0 hp nx η w) s (ρ X)) (ha : RS (cxS w0 hp nx η w) sa (ρ A)) (hh : RS (cxS w0 hp nx η w) sh (ρ H)) (hm : RS (cxS w0 hp nx η w) sm (ρ M))
    {o : Oper} (ho : o.op = .slice t X (some A) (some H) (some M)) : OP q.hyp ∧ (OP q.pre → ∃ v, RS (cxS w0 hp nx η w) q.v v ∧ Yields P w v (execOp ρ o)) := by
  unfold cut3 at h
  split at h
  · rename_i x ka a kh hh' km m
    have ea := rs_int ha
    have eh := rs_int hh
    have em := rs_int hm
    split at h
    · rename_i e' _ _ _ _ hi'
      have hu := tk_slice (ht.is hi').tk
      split at h
      · rename_i sz hsz
        obtain ⟨ie, hie, hie2⟩ := sz_some hsz
        obtain ⟨j', hj', hj2, _⟩ := (ht.is hie).info
        have fin : ∀ (B : Option Addr) (n c : Nat), ρ X = .slice B n c → n ≤ c → (0 ≤ a ∧ a ≤ hh' ∧ hh' ≤ m ∧ m ≤ n) → ∃ v, RS (cxS w0 hp nx η w) .un v ∧ Yields P w v (execOp ρ o) := by
          rintro B n c eX hnc ⟨p1, p2, p3, p4⟩
          refine ⟨.slice (if m.toNat = a.toNat then B else B.map (·.add (a.toNat * sz))) (hh'.toNat - a.toNat) (m.toNat - a.toNat), trivial, fun w' _ => ?_⟩
          have r1 : (Instr.sliceBound (ρ M) c .slice3Acap).run P w' = .ok m.toNat w' := run_bound em (by omega) (by omega) w'
          have r2 : (Instr.sliceBound (ρ H) m.toNat .slice3B).run P w' = .ok hh'.toNat w' := run_bound eh (by omega) (by omega) w'
          have r3 : (Instr.sliceBound (ρ A) hh'.toNat .slice3C).run P w' = .ok a.toNat w' := run_bound ea (by omega) (by omega) w'
          have rb : (Instr.sliceBounds true n c (some (ρ A)) (some (ρ H)) (some (ρ M))).run P w' = .ok (a.toNat, hh'.toNat, m.toNat) w' := by
            simp [Instr.sliceBounds, r1, r2, r3]
          simp [execOp, ho, eX, Instr.sliceAt, Instr.slice, und_run hu, rb, Go.sizeOf, typeInfo, hj', hj2, hie2]
        split at h
        · rename_i d xs
          cases h
          have hx' : Rd w (okS w0 hp η w) (.list d) xs [ρ X] := hx
          simp only [Rd] at hx'
          obtain ⟨B, c, e, hc, _⟩ := hx'
          simp only [List.cons.injEq, and_true] at e
          exact ⟨trivial, fun hp => fin B xs.length c e hc hp⟩
        · rename_i b o1 sz2 n c
          cases h
          obtain ⟨_, hnc, _, k, o', _, e, _⟩ := hx
          exact ⟨trivial, fun hp => fin _ n c e hnc hp⟩
        · rename_i b
          obtain ⟨hb, e, _⟩ := hx
          split at h
          · rename_i T d xs hlk
            cases h
            obtain ⟨cs, r1, r2, r3⟩ := hH.obs b _ (hs _ _ hlk)
            refine ⟨trivial, fun hp => ?_⟩
            rcases r2.2 with ⟨hv, hn⟩ | ⟨g, cap, cur, hv, _, hg, hc1, _⟩
            · exact fin none 0 0 (e.trans hv) (Nat.le_refl _) (by rw [← hn]; exact hp)
            · exact fin _ xs.length cap (e.trans hv) hc1 hp
          · cases h
        · cases h
      · cases h
    · cases h
  · cases h

theorem capV_sound {ti : Nat → Option TI} (ht : TabOk P ti) {x : Cx} {w : World} {t : TypeId} {s : SV} {q : Q}
    {X : Operand} {ρ : Operand → Value} (h : capV (ti t) s = some q) (hx : RS x s (ρ X)) {o : Oper} {c : Call} (ho : o.op = .call c) (h1 : c.callee = .builtin .cap) (h2 : c.args.toList = [X])
    (h3 : c.argTypes.toList = [t]) : OP q.hyp ∧ (OP q.pre → ∃ v, RS x q.v v ∧ Yields P w v (execOp ρ o)) := by
  have h2' : c.args = #[X] := by rw [← Array.toList_inj]; simpa using h2
  have h3' : c.argTypes = #[t] := by rw [← Array.toList_inj]; simpa using h3
  have run : ∀ v n, ρ X = v → (∀ w', (Builtin.cap_ #[t] o.type #[v]).run P w' = .ok (goInt n) w') → Yields P w (.int .i64 n) (execOp ρ o) := by
    intro v n hv hr w' _
    simp [execOp, ho, resolve, h1, h2', h3', invoke, builtin, hv, hr, goInt]
  unfold capV at h
  split at h
  · obtain ⟨_, hnc, hcm, k, o', _, e, _⟩ := hx
    split at h
    · rename_i hi
      cases h
      have hu := tk_slice (ht.is hi).tk
      exact ⟨⟨hnc, by simpa only [maxLen_eq] using hcm⟩, fun _ => ⟨_, rfl, run _ _ e (fun w' => by simp [Builtin.cap_, und_run hu])⟩⟩
    · cases h
  · obtain ⟨e, _⟩ := hx
    split at h
    · rename_i hi
      cases h
      have hu := tk_slice (ht.is hi).tk
      exact ⟨trivial, fun _ => ⟨_, rfl, run _ 0 e (fun w' => by simp [Builtin.cap_, und_run hu])⟩⟩
    · cases h
  · cases h

theorem lenV_sound {ti : Nat → Option TI} (ht : TabOk P ti) {w0 : W0} {hp hq : List (Nat × Ob)} {nx : Nat → Prop} {η : Nat → Option Nat × Value} {w : World} (hH : RepH w0 hp nx η w) (hs : ∀ b o, lk hq b = some o → lk hp b = some o) {t : TypeId} {s : SV} {q : Q}
    {X : Operand} {ρ : Operand → Value} (h : lenV hq (ti t) s = some q) (hx : RS (cxS w0 hp nx η w) s (ρ X)) {o : Oper} {c : Call} (ho : o.op = .call c) (h1 : c.callee = .builtin .len) (h2 : c.args.toList = [X])
    (h3 : c.argTypes.toList = [t]) : OP q.hyp ∧ (OP q.pre → ∃ v, RS (cxS w0 hp nx η w) q.v v ∧ Yields P w v (execOp ρ o)) := by
  have h2' : c.args = #[X] := by rw [← Array.toList_inj]; simpa using h2
  have h3' : c.argTypes = #[t] := by rw [← Array.toList_inj]; simpa using h3
  have run : ∀ v n, ρ X = v → (∀ w', (Builtin.len_ #[t] o.type #[v]).run P w' = .ok (goInt n) w') → Yields P w (.int .i64 n) (execOp ρ o) := by
    intro v n hv hr w' _
    simp [execOp, ho, resolve, h1, h2', h3', invoke, builtin, hv, hr, goInt]
  unfold lenV at h
  split at h
  · rename_i s
    have ex := rs_str hx
    split at h
    · rename_i hi
      cases h
      have hu := tk_str (ht.is hi).tk
      exact ⟨trivial, fun _ => ⟨_, rfl, run _ _ ex (fun w' => by simp [Builtin.len_, und_run hu]; rfl)⟩⟩
    · cases h
  · rename_i d xs
    have hx' : Rd w (okS w0 hp η w) (.list d) xs [ρ X] := hx
    simp only [Rd] at hx'
    obtain ⟨A, c', e, hc, hm, _⟩ := hx'
    simp only [List.cons.injEq, and_true] at e
    split at h
    · rename_i hi
      cases h
      have hu := tk_slice (ht.is hi).tk
      exact ⟨by simp only [maxLen_eq] at hm; simp only [OP_some]; omega, fun _ => ⟨_, rfl, run _ _ e (fun w' => by simp [Builtin.len_, und_run hu])⟩⟩
    · cases h
  · rename_i b
    obtain ⟨hb, e, _⟩ := hx
    split at h
    · rename_i _ _ _ _ _ _ d xs hi hlk
      cases h
      have hu := tk_slice (ht.is hi).tk
      obtain ⟨cs, r1, r2, r3⟩ := hH.obs b _ (hs _ _ hlk)
      rcases r2.2 with ⟨hv, hn⟩ | ⟨g, cap, cur, hv, _, hg, hc1, hc2, _⟩
      · refine ⟨by simp only [OP_some]; omega, fun _ => ⟨_, rfl, run _ _ (e.trans hv) (fun w' => by simp [Builtin.len_, und_run hu, hn])⟩⟩
      · exact ⟨by simp only [maxLen_eq] at hc2; simp only [OP_some]; omega, fun _ => ⟨_, rfl, run _ _ (e.trans hv) (fun w' => by simp [Builtin.len_, und_run hu])⟩⟩
    · cases h
  · obtain ⟨e, _⟩ := hx
    split at h
    · rename_i hi
      cases h
      have hu := tk_slice (ht.is hi).tk
      exact ⟨trivial, fun _ => ⟨_, rfl, run _ 0 e (fun w' => by simp [Builtin.len_, und_run hu])⟩⟩
    · cases h
  · obtain ⟨_, k, _, e⟩ := hx
    split at h
    · rename_i hi
      cases h
      have hu := tk_slice (ht.is hi).tk
      exact ⟨trivial, fun _ => ⟨_, rfl, run _ _ e (fun w' => by simp [Builtin.len_, und_run hu])⟩⟩
    · cases h
  · obtain ⟨_, hnc, hcm, k, o', _, e, _⟩ := hx
    split at h
    · rename_i hi
      cases h
      have hu := tk_slice (ht.is hi).tk
      exact ⟨⟨hnc, by simpa only [maxLen_eq] using hcm⟩, fun _ => ⟨_, rfl, run _ _ e (fun w' => by simp [Builtin.len_, und_run hu])⟩⟩
    · cases h
  · cases h

theorem caps_rl {x : Cx} : ∀ {l : List SV} {vs : List Value} {m : List (Nat × Nat)}, RL (RS x) l vs → caps l = some m →
    RL (fun (p : Nat × Nat) u => x.nm p.1 ∧ ∃ k, (x.η p.1).1 = some k ∧ u = .pointer (some ⟨k, p.2, none⟩)) m vs
  | [], [], _, _, h => by simp [caps] at h; subst h; trivial
  | s :: l, v :: vs, m, ⟨h1, h2⟩, h => by
    unfold caps at h
    split at h
    · rename_i heq; cases heq
    · rename_i b o l' heq
      simp only [List.cons.injEq] at heq
      obtain ⟨rfl, rfl⟩ := heq
      split at h
      · rename_i m' hm
        cases h
        exact ⟨h1, caps_rl h2 hm⟩
      · cases h
    · cases h
  | [], _ :: _, _, h, _ => h.elim
  | _ :: _, [], _, h, _ => h.elim

theorem rl_map {x : Cx} {g : Operand → SV} {ρ : Operand → Value} (hg : ∀ o, RS x (g o) (ρ o)) : ∀ (l : List Operand), RL (RS x) (l.map g) (l.map ρ)
  | [] => trivial
  | o :: l => ⟨hg o, rl_map hg l⟩

/-! ### a struct out of parts -/

theorem foldl_set (l : List Value) : ∀ (k off : Nat) (cs : Array Value), off + k + l.length ≤ cs.size →
    (l.zipIdx k).foldl (fun cs (p : Value × Nat) => cs.setIfInBounds (off + p.2) p.1) cs = (cs.toList.take (off + k) ++ l ++ cs.toList.drop (off + k + l.length)).toArray := by
  induction l with
  | nil => intro k off cs h; simp
  | cons v l ih =>
    intro k off cs h
    simp only [List.length_cons] at h
    simp only [List.zipIdx_cons, List.foldl_cons]
    rw [ih (k + 1) off _ (by simp; omega)]
    congr 1
    have hlt : off + k < cs.toList.length := by simp; omega
    have e1 : (cs.setIfInBounds (off + k) v).toList = cs.toList.set (off + k) v := by simp
    rw [e1]
    have e2 : cs.toList.set (off + k) v = cs.toList.take (off + k) ++ v :: cs.toList.drop (off + k + 1) := by
      rw [List.set_eq_take_append_cons_drop, if_pos hlt]
    rw [e2]
    have hl : (cs.toList.take (off + k)).length = off + k := by simp; omega
    have e3 : (cs.toList.take (off + k) ++ v :: cs.toList.drop (off + k + 1)).take (off + (k + 1)) = cs.toList.take (off + k) ++ [v] := by
      rw [List.take_append, hl]
      have : off + (k + 1) - (off + k) = 1 := by omega
      rw [this, List.take_of_length_le (by omega)]
      rfl
    have e4 : (cs.toList.take (off + k) ++ v :: cs.toList.drop (off + k + 1)).drop (off + (k + 1) + l.length) = cs.toList.drop (off + k + (l.length + 1)) := by
      rw [List.drop_append, hl]
      have : off + (k + 1) + l.length - (off + k) = 1 + l.length := by omega
      rw [this, List.drop_of_length_le (by omega), List.nil_append, Nat.add_comm 1, List.drop_succ_cons, List.drop_drop]
      congr 1
      omega
    rw [e3, e4]
    simp

theorem fillC_sound {x : Cx} {fs : List (Nat × Nat × Bool)} {place : Nat → Option (Nat × Nat)} (hpl : ∀ i o s ag, fs[i]? = some (o, s, ag) → place i = some (o, s)) :
    ∀ (parts : List (Nat × SV)) (vals : List (Nat × Value)) (cells : List C) (l : List C) (cs : Array Value), RL (fun (p : Nat × SV) (u : Nat × Value) => p.1 = u.1 ∧ RS x p.2 u.2) parts vals →
      RL (RC x) cells cs.toList → fillC fs cells parts = some l → ∃ cs', Instr.fill place cs vals = some cs' ∧ RL (RC x) l cs'.toList
  | [], [], cells, l, cs, _, hc, h => by simp only [fillC, Option.some.injEq] at h; subst h; exact ⟨cs, rfl, hc⟩
  | (i, v) :: r, (i', u) :: vals, cells, l, cs, ⟨⟨e, hv⟩, hr⟩, hc, h => by
    simp only at e
    subst e
    have hsize := RL.len hc
    simp only [Array.length_toList] at hsize
    unfold fillC at h
    split at h
    · rename_i o s ag hf
      have hp := hpl _ _ _ _ hf
      split at h
      · rename_i y
        split at h
        · rename_i hcond
          obtain ⟨rfl, hlt⟩ := hcond
          have hv : RC x y u := hv
          have hu1 : u.cells = #[u] := by
            have := RC.one hv
            cases u <;> simp_all [Value.oneCell', Value.cells]
          have hfold := foldl_set [u] 0 o cs (by simp; omega)
          obtain ⟨cs', h1, h2⟩ := fillC_sound hpl r vals _ l (cs.setIfInBounds o u) hr (by simpa using RL.set hv o hc) h
          refine ⟨cs', ?_, h2⟩
          simp only [Instr.fill, hp, hu1]
          have hno : ¬ ((decide (#[u].size ≠ 1) || decide (o + #[u].size > cs.size)) = true) := by simp; omega
          rw [if_neg hno]
          simpa using h1
        · cases h
      · rename_i m
        split at h
        · rename_i hcond
          obtain ⟨rfl, hle⟩ := hcond
          obtain ⟨us, rfl, hv⟩ := hv
          have hlu := RL.len hv
          simp only [Array.length_toList] at hlu
          have hfold := foldl_set us.toList 0 o cs (by simp; omega)
          have hnew : RL (RC x) (cells.take o ++ m ++ cells.drop (o + m.length)) (cs.toList.take o ++ us.toList ++ cs.toList.drop (o + us.size)) := by
            rw [hlu]
            exact RL.app (RL.app (RL.take o hc) hv) (RL.drop _ hc)
          obtain ⟨cs', h1, h2⟩ := fillC_sound hpl r vals _ l (cs.toList.take o ++ us.toList ++ cs.toList.drop (o + us.size)).toArray hr (by simpa using hnew) h
          refine ⟨cs', ?_, h2⟩
          simp only [Instr.fill, hp, Value.cells]
          refine (if_neg (by simp [hlu]; omega)).trans ?_
          have e : us.zipIdx.foldl (fun cs (p : Value × Nat) => cs.setIfInBounds (o + p.2) p.1) cs = (cs.toList.take o ++ us.toList ++ cs.toList.drop (o + us.size)).toArray := by
            rw [← Array.foldl_toList, Array.toList_zipIdx]
            simpa using hfold
          rw [← h1]
          exact congrArg (fun z => Instr.fill place z vals) e
        · cases h
      · cases h
    · cases h
  | [], _ :: _, _, _, _, h, _, _ => h.elim
  | _ :: _, [], _, _, _, h, _, _ => h.elim

theorem fld_places {w : World} : ∀ {fs : List (Nat × Nat × Bool)} {gs : List Field}, fldIs P fs gs = true →
    (gs.mapM (m := Sem) fun f => do pure (f.offset, ← Go.sizeOf f.type)).run P w = .ok (fs.map fun p => (p.1, p.2.1)) w
  | [], [], _ => rfl
  | [], _ :: _, h => by simp [fldIs] at h
  | _ :: _, [], h => by simp [fldIs] at h
  | (o, s, ag) :: fs, g :: gs, h => by
    obtain ⟨g', hg, ho, hs, ⟨j, hj, hjs⟩, _⟩ := fld_get h (i := 0) rfl
    simp only [List.getElem?_cons_zero, Option.some.injEq] at hg
    subst hg
    simp only [fldIs, Bool.and_eq_true] at h
    have := fld_places (w := w) h.2
    simp [List.mapM_cons, Go.sizeOf, typeInfo, hj, hjs, ho] at this ⊢
    rw [this]
    rfl

theorem bldV_sound {ti : Nat → Option TI} (ht : TabOk P ti) {x : Cx} {g : Operand → SV} {ρ : Operand → Value} (hg : ∀ o, RS x (g o) (ρ o)) {t : TypeId} {parts : Array (Nat × Operand)} {q : Q} {w : World}
    (h : bldV (ti t) (parts.toList.map fun p => (p.1, g p.2)) = some q) {o : Oper} (ho : o.op = .build t parts) : OP q.hyp ∧ (OP q.pre → ∃ v, RS x q.v v ∧ Yields P w v (execOp ρ o)) := by
  unfold bldV at h
  split at h
  · rename_i fs _ _ z _ hi
    split at h
    · rename_i l hl
      cases h
      have is := ht.is hi
      obtain ⟨fl, hu, hfl⟩ := tk_strct is.tk
      obtain ⟨j, zv, hj, hz, hzz⟩ := is.zero
      simp only [TK.agg, if_true] at hzz
      obtain ⟨cs0, rfl, hall⟩ := hzz
      have hpm : RL (fun (p : Nat × SV) (u : Nat × Value) => p.1 = u.1 ∧ RS x p.2 u.2) (parts.toList.map fun p => (p.1, g p.2)) (parts.toList.map fun p => (p.1, ρ p.2)) := by
        generalize parts.toList = pl
        induction pl with
        | nil => trivial
        | cons p pl ih => exact ⟨⟨rfl, hg _⟩, ih⟩
      obtain ⟨cs', h1, h2⟩ := fillC_sound (place := fun i => (fs.map fun p => (p.1, p.2.1))[i]?) (fun i o s ag hf => by simp [hf]) _ _ z l cs0 hpm (rl_of_allIs hall) hl
      refine ⟨trivial, fun _ => ⟨.agg cs', ⟨cs', rfl, h2⟩, fun w' _ => ?_⟩⟩
      have hm : (fl.mapM (m := Sem) fun f => do pure (f.offset, ← Go.sizeOf f.type)).run P w' = .ok (fs.map fun p => (p.1, p.2.1)).toArray w' := by
        rw [Array.mapM_eq_mapM_toList, Sem.run_map, fld_places hfl]
        rfl
      have e : ((parts.map fun (p : Nat × Operand) => (p.1, ρ p.2)).toList) = parts.toList.map fun p => (p.1, ρ p.2) := by simp
      have hfill : Instr.fill (fun i => (fs.map fun p => (p.1, p.2.1)).toArray[i]?) cs0 (parts.toList.map fun p => (p.1, ρ p.2)) = some cs' := by
        simpa using h1
      simp only [execOp, ho, Instr.build, Sem.run_bind, zeroValue, typeInfo, run_program, Result.andThen_ok, hj, Sem.run_pure, hz, Value.cells, und_run hu, hm, e, hfill]
    · cases h
  · cases h

theorem isB_is {ti : Nat → Option TI} (ht : TabOk P ti) {s : TypeId} (h : isB ti s = true) : ∃ e, P.underlying s = some (.slice e) ∧ P.underlying e = some (.int .u8) := by
  unfold isB at h
  split at h
  · rename_i e _ _ _ _ hi
    split at h
    · rename_i hi'
      exact ⟨e, tk_slice (ht.is hi).tk, tk_int (ht.is hi').tk⟩
    · cases h
  · cases h
theorem isS_is {ti : Nat → Option TI} (ht : TabOk P ti) {s : TypeId} (h : isS ti s = true) : P.underlying s = some .string := by
  unfold isS at h
  split at h
  · rename_i hi
    exact tk_str (ht.is hi).tk
  · cases h

theorem rdf_ints {w : World} {ok : Nat → Prop} {k : IntKind} : ∀ {xs : List Int} {cs : List Value}, RdF (Rd w ok (.int k)) xs cs → cs = xs.map (Value.int k)
  | [], _, h => h
  | x :: xs, _, ⟨c1, c2, e, h1, h2⟩ => by
    simp only [Rd] at h1
    rw [e, h1, rdf_ints h2]
    rfl

theorem nums_eq (xs : List Int) : strOfNums xs = ⟨(byl xs).toArray⟩ := by
  simp [strOfNums, byl]

theorem cbsV_sound {ti : Nat → Option TI} (ht : TabOk P ti) {w0 : W0} {hp hq : List (Nat × Ob)} {nx : Nat → Prop} {η : Nat → Option Nat × Value} {w : World} (hH : RepH w0 hp nx η w) (hs : ∀ b o, lk hq b = some o → lk hp b = some o) {t u : TypeId} {s : SV} {q : Q}
    {X : Operand} {ρ : Operand → Value} (h : cbsV ti hq t u s = some q) (hx : RS (cxS w0 hp nx η w) s (ρ X)) {o : Oper} (ho : o.op = .convert t u X) :
    OP q.hyp ∧ (OP q.pre → ∃ v, RS (cxS w0 hp nx η w) q.v v ∧ Yields P w v (execOp ρ o)) := by
  have run0 : ∀ A c, ρ X = .slice A 0 c → isB ti t = true → isS ti u = true → Yields P w (.string ⟨(byl []).toArray⟩) (execOp ρ o) := by
    intro A c e hb hs w' hw'
    obtain ⟨el, h1, h2⟩ := isB_is ht hb
    have h3 := isS_is ht hs
    have e0 : (convert t u (.slice A 0 c)).run P w' = .ok (.string ⟨(byl []).toArray⟩) w' := by
      rw [run_convert_bytes_string w' t u el A 0 c h1 h2 h3]
      cases A <;> simp [Conv.bytesToString, loadCells, loadCellsFrom] <;> rfl
    simp [execOp, ho, e, e0]
  have run : ∀ (xs : List Int) k off c, ρ X = .slice (some ⟨k, off, none⟩) xs.length c → isB ti t = true → isS ti u = true →
      ((∃ ob, w.heap[k]? = some ob) ∧ ∀ w' : World, w'.heap[k]? = w.heap[k]? → ∀ i, i < xs.length → w'.cell? ⟨k, off + i, none⟩ = some (.int .u8 (xs.getD i 0))) →
      Yields P w (.string ⟨(byl xs).toArray⟩) (execOp ρ o) := by
    intro xs k off c e hb hs ⟨⟨ob, hob⟩, hc⟩ w' hw'
    obtain ⟨el, h1, h2⟩ := isB_is ht hb
    have h3 := isS_is ht hs
    have := run_convert_bytes_arg (P := P) w' t el h1 h2 k off xs.length c xs rfl (hc w' (heap_below hw' hob)) u h3
    simp [execOp, ho, e, this, nums_eq]
  have cell : ∀ {w' : World} {k : Nat} {cells : Array Value} {T : TypeId} {fz : Nat × Nat} {off : Nat} {xs : List Int}, w'.heap[k]? = some (.cells cells T fz) →
      ((cells.toList.drop off).take xs.length) = xs.map (Value.int .u8) → ∀ i, i < xs.length → w'.cell? ⟨k, off + i, none⟩ = some (.int .u8 (xs.getD i 0)) := by
    intro w' k cells T fz off xs hk hm i hi
    rw [cell_of hk]
    have h1 : ((cells.toList.drop off).take xs.length)[i]? = some (.int .u8 (xs.getD i 0)) := by
      rw [hm]; simp [hi]
    rw [List.getElem?_take, if_pos hi, List.getElem?_drop] at h1
    simpa using h1
  unfold cbsV at h
  split at h
  · rename_i xs
    split at h
    · rename_i hc
      simp only [Bool.and_eq_true] at hc
      cases h
      have hx' : Rd w (okS w0 hp η w) (.list (.int .u8)) xs [ρ X] := hx
      simp only [Rd] at hx'
      obtain ⟨A, c, e, hc', hm, hn, hr⟩ := hx'
      simp only [List.cons.injEq, and_true] at e
      rcases hr with hr | ⟨k', off', cells, T, fz, hA', hok, hb, hf⟩
      · subst hr
        exact ⟨trivial, fun _ => ⟨_, rfl, run0 A c e hc.1 hc.2⟩⟩
      · subst hA'
        have := rdf_ints (w := w) (ok := okS w0 hp η w) hf
        simp only [D.sz, Nat.mul_one] at this
        exact ⟨trivial, fun _ => ⟨_, rfl, run xs _ _ c e hc.1 hc.2 ⟨⟨_, hb⟩, fun w' hw' => cell (hw'.trans hb) this⟩⟩⟩
    · cases h
  · rename_i b
    obtain ⟨hb, e, _⟩ := hx
    split at h
    · rename_i T xs hlk
      split at h
      · rename_i hc
        simp only [Bool.and_eq_true] at hc
        cases h
        obtain ⟨cs, r1, r2, r3⟩ := hH.obs b _ (hs _ _ hlk)
        rcases r2.2 with ⟨hv, hn⟩ | ⟨g, cap, cur, hv, _, hg, hc1, hc2, hc3, hc4⟩
        · have hxs : xs = [] := List.eq_nil_of_length_eq_zero hn
          subst hxs
          exact ⟨trivial, fun _ => ⟨_, rfl, run0 none 0 (e.trans hv) hc.1 hc.2⟩⟩
        · have := rdf_ints r3
          rw [← hc4] at this
          simp only [D.sz, Nat.mul_one] at this
          exact ⟨trivial, fun _ => ⟨_, rfl, run xs _ _ cap (e.trans hv) hc.1 hc.2 ⟨⟨_, hg⟩, fun w' hw' => cell (hw'.trans hg) (by simpa using this)⟩⟩⟩
      · cases h
    · cases h
  · cases h

/-- the quiet operations, all together -/
theorem qv_sound {ti : Nat → Option TI} (ht : TabOk P ti) {w0 : W0} {hp hq : List (Nat × Ob)} {nx : Nat → Prop} {η : Nat → Option Nat × Value} {w : World} (hH : RepH w0 hp nx η w) (hs : ∀ b o, lk hq b = some o → lk hp b = some o)
    {g : Operand → SV} {ρ : Operand → Value} (hg : ∀ o, RS (cxS w0 hp nx η w) (g o) (ρ o)) {o : Oper} {q : Q} (h : qv ti hq g o.op = some q) :
    OP q.hyp ∧ (OP q.pre → ∃ v, RS (cxS w0 hp nx η w) q.v v ∧ Yields P w v (execOp ρ o)) := by
  unfold qv at h
  split at h
  · rename_i x ho
    cases h
    exact ⟨trivial, fun _ => ⟨_, hg x, fun w' _ => by simp [execOp, ho]⟩⟩
  · rename_i x ho
    cases h
    exact ⟨trivial, fun _ => ⟨_, hg x, fun w' _ => by simp [execOp, ho]⟩⟩
  · rename_i c a b ho
    split at h
    · rename_i t hc
      have hc' := hg c
      rw [hc] at hc'
      have ec := rs_bool hc'
      cases t with
      | tt => cases h; exact ⟨trivial, fun _ => ⟨ρ a, hg a, fun w' _ => by simp [execOp, ho, ec, asBool, BE.v]⟩⟩
      | ff => cases h; exact ⟨trivial, fun _ => ⟨ρ b, hg b, fun w' _ => by simp [execOp, ho, ec, asBool, BE.v]⟩⟩
      | sym t =>
        cases h
        refine ⟨trivial, fun _ => ⟨if t = true then ρ a else ρ b, ?_, fun w' _ => ?_⟩⟩
        · cases t
          · exact hg b
          · exact hg a
        · cases t <;> simp [execOp, ho, ec, asBool, BE.v]
    · cases h
  · rename_i op t x y u ho
    split at h
    · rename_i q' hq'
      cases h
      exact binV_sound hq' (hg x) (hg y) ho
    · split at h
      · rename_i q' hq'
        cases h
        exact eqB_sound ht hq' (hg x) (hg y) ho
      · exact nilB_sound ht h (hg x) (hg y) ho
  · rename_i op t x ho
    exact unV_sound h (hg x) ho
  · rename_i s d x ho
    split at h
    · rename_i q' hq'
      cases h
      exact convV_sound ht hq' (hg x) ho
    · exact cbsV_sound ht hH hs h (hg x) ho
  · rename_i x i ho
    exact extV_sound h (hg x) ho
  · rename_i t x f ho
    exact fadV_sound ht h (hg x) ho
  · rename_i t x f ho
    exact fldV_sound ht h (hg x) ho
  · rename_i t x ho
    exact loadV_sound ht hH hs h (hg x) ho
  · rename_i t x i ho
    exact idxV_sound ht h (hg x) (hg i) ho
  · rename_i t x i ho
    exact iadV_sound ht hH hs h (hg x) (hg i) ho
  · rename_i t x lo hi ho
    split at h
    · rename_i q' hq'
      cases h
      exact cutV_sound ht hg hq' ho
    · exact cutS_sound ht hg h ho
  · rename_i t x lo hi m ho
    exact cut3_sound ht hH hs h (hg x) (hg lo) (hg hi) (hg m) ho
  · rename_i x ho
    split at h
    · rename_i b off hx
      cases h
      have hx' := hg x
      rw [hx] at hx'
      have hx2 := hx'
      obtain ⟨hb, k, hk, e⟩ := hx'
      exact ⟨trivial, fun _ => ⟨_, hx2, fun w' _ => by simp [execOp, ho, e]⟩⟩
    · rename_i d y off hx
      cases h
      have hx' := hg x
      rw [hx] at hx'
      have hx2 := hx'
      obtain ⟨k, o', cells, T, fz, cs, e, _⟩ := hx'
      exact ⟨trivial, fun _ => ⟨_, hx2, fun w' _ => by simp [execOp, ho, e]⟩⟩
    · cases h
  · rename_i f first captured ho
    split at h
    · rename_i l h1 h2
      cases h
      have hr := caps_rl (rl_map hg captured.toList) h2
      have e1 : first = #[] := by rw [← Array.toList_inj]; simpa using h1
      exact ⟨trivial, fun _ => ⟨.func (.func f) #[] (captured.map ρ), ⟨_, rfl, by simpa using hr⟩, fun w' _ => by simp [execOp, ho, Instr.makeFunc, e1]⟩⟩
    · rename_i X h1 h2
      split at h
      · rename_i b off hX
        cases h
        have hr := caps_rl (rl_map hg captured.toList) h2
        have e2 : captured = #[] := by
          rw [← Array.toList_inj]
          cases hc : captured.toList with
          | nil => simp
          | cons a l => rw [hc] at hr; exact hr.elim
        have e1 : first = #[X] := by rw [← Array.toList_inj]; simpa using h1
        have hx := hg X
        rw [hX] at hx
        obtain ⟨g1, k, g2, g3⟩ := hx
        exact ⟨trivial, fun _ => ⟨.func (.func f) #[ρ X] #[], ⟨g1, k, g2, by rw [g3]⟩, fun w' _ => by simp [execOp, ho, Instr.makeFunc, e1, e2]⟩⟩
      · cases h
    · cases h
  · rename_i t parts ho
    exact bldV_sound ht hg h ho
  · rename_i c ho
    split at h
    · rename_i x t h1 h2 h3
      exact lenV_sound ht hH hs h (hg x) ho h1 h2 h3
    · rename_i x t h1 h2 h3
      exact capV_sound ht h (hg x) ho h1 h2 h3
    · cases h
  · cases h

end OE
