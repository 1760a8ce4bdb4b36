/- OE, part 10: small facts on leaves: wraps, bits, bytes. Own work. -/
import Derived.Test.YthpllblcbbkfdaaOeDraw
import Derived.Laws.BitsAllLaws
import GoSem.Claim
namespace OE
open Go Go.RowKit

/-- a test whose outcome is known -/
theorem tk {b : Bool} {X Y : Prop} (hb : b = true) (hx : X) : (b = true → X) ∧ (b = false → Y) := ⟨fun _ => hx, fun h => by rw [hb] at h; cases h⟩
theorem fk {b : Bool} {X Y : Prop} (hb : b = false) (hy : Y) : (b = true → X) ∧ (b = false → Y) := ⟨fun h => (by rw [hb] at h; cases h), fun _ => hy⟩

theorem wf_i64 {a : Int} (h : (Lit.int .i64 a).wf = true) : -9223372036854775808 ≤ a ∧ a ≤ 9223372036854775807 := by
  simpa [Lit.wf, IntKind.min, IntKind.max, IntKind.bits, IntKind.signed] using h
theorem wf_u64 {a : Int} (h : (Lit.int .u64 a).wf = true) : 0 ≤ a ∧ a ≤ 18446744073709551615 := by
  simpa [Lit.wf, IntKind.min, IntKind.max, IntKind.bits, IntKind.signed] using h

theorem wr64 (x : Int) (h0 : -9223372036854775808 ≤ x) (h1 : x ≤ 9223372036854775807) : IntKind.wrap .i64 x = x := by
  have e : IntKind.wrap .i64 x = if (9223372036854775808 : Int) ≤ x % 18446744073709551616 then x % 18446744073709551616 - 18446744073709551616 else x % 18446744073709551616 := by
    simp [IntKind.wrap, IntKind.bits, IntKind.signed]
  rw [e]
  split <;> omega
theorem wru64 (x : Int) (h0 : 0 ≤ x) (h1 : x ≤ 18446744073709551615) : IntKind.wrap .u64 x = x := by
  have e : IntKind.wrap .u64 x = x % 18446744073709551616 := by simp [IntKind.wrap, IntKind.bits, IntKind.signed]
  rw [e]; omega
theorem wru64m (x : Int) : IntKind.wrap .u64 x = x % 18446744073709551616 := by simp [IntKind.wrap, IntKind.bits, IntKind.signed]
theorem wru8 (x : Int) : IntKind.wrap .u8 x = x % 256 := by simp [IntKind.wrap, IntKind.bits, IntKind.signed]
theorem wr64m (x : Int) : IntKind.wrap .i64 x = if (9223372036854775808 : Int) ≤ x % 18446744073709551616 then x % 18446744073709551616 - 18446744073709551616 else x % 18446744073709551616 := by
  simp [IntKind.wrap, IntKind.bits, IntKind.signed]

theorem and127 (c : Nat) (h : c < 256) : bits .and .u8 (c : Int) 127 = ((c % 128 : Nat) : Int) := by
  have := u8_and_nat c 127 h (by omega)
  rw [show ((127 : Nat) : Int) = 127 from rfl] at this
  rw [this, show (127 : Nat) = 2 ^ 7 - 1 from rfl, Nat.and_two_pow_sub_one_eq_mod]
theorem or128 (c : Nat) (h : c < 256) : bits .or .u8 (c : Int) 128 = ((c % 128 + 128 : Nat) : Int) := by
  have := u8_or_nat c 128 h (by omega)
  rw [show ((128 : Nat) : Int) = 128 from rfl] at this
  rw [this]
  congr 1
  have e1 : ∀ d : Nat, d < 128 → d ||| 128 = d + 128 := by
    intro d hd
    rw [Nat.or_comm]
    have := Nat.two_pow_add_eq_or_of_lt (i := 7) (b := d) hd 1
    simp only [Nat.mul_one, show (2 : Nat) ^ 7 = 128 from rfl] at this
    omega
  by_cases hc : c < 128
  · rw [e1 c hc, Nat.mod_eq_of_lt hc]
  · have e2 : c = c % 128 + 128 := by omega
    have e3 := e1 (c % 128) (Nat.mod_lt _ (by omega))
    rw [← e3]
    rw [← e3] at e2
    conv => lhs; rw [e2]
    rw [Nat.or_assoc, Nat.or_self]
theorem or_apart (n m i : Nat) (hn : n < 2 ^ i) (hb : n + m * 2 ^ i < 18446744073709551616) : bits .or .u64 (n : Int) ((m * 2 ^ i : Nat) : Int) = ((n + m * 2 ^ i : Nat) : Int) := by
  rw [u64_or_nat n (m * 2 ^ i) (by omega) (by omega)]
  congr 1
  rw [Nat.or_comm, Nat.mul_comm, ← Nat.two_pow_add_eq_or_of_lt hn]
  omega

theorem xor_max (a : Nat) (h : a < 18446744073709551616) : a ^^^ 18446744073709551615 = 18446744073709551615 - a := by
  have e := congrArg BitVec.toNat (BitVec.xor_allOnes (x := BitVec.ofNat 64 a))
  rw [BitVec.toNat_xor, BitVec.toNat_allOnes, BitVec.toNat_not, BitVec.toNat_ofNat, Nat.mod_eq_of_lt h] at e
  exact e
theorem wrx (x : Nat) (hx : x < 18446744073709551616) : IntKind.wrap .i64 (x : Int) = if x < 9223372036854775808 then (x : Int) else x - 18446744073709551616 := by
  rw [wr64m]; split <;> split <;> omega
theorem xor64_zero (a : Int) (h0 : -9223372036854775808 ≤ a) (h1 : a ≤ 9223372036854775807) : bits .xor .i64 a 0 = a := by
  have : bits .xor .i64 a 0 = IntKind.wrap .i64 ((BitVec.ofInt 64 a ^^^ 0#64).toNat : Nat) := rfl
  rw [this, BitVec.xor_zero, wrx _ (BitVec.isLt _), BitVec.toNat_ofInt]
  split <;> omega
theorem xor64_one (a : Int) (h0 : -9223372036854775808 ≤ a) (h1 : a ≤ 9223372036854775807) : bits .xor .i64 a (-1) = -a - 1 := by
  have : bits .xor .i64 a (-1) = IntKind.wrap .i64 ((BitVec.ofInt 64 a ^^^ BitVec.allOnes 64).toNat : Nat) := rfl
  rw [this, BitVec.xor_allOnes, wrx _ (BitVec.isLt _), BitVec.toNat_not, BitVec.toNat_ofInt]
  split <;> omega

theorem bt_nat (s : List UInt8) (i : Nat) (h : i < s.length) : bt s (i : Int) = ((s[i]).toNat : Int) := by
  simp [bt, h]
theorem gt_nat {d : D} (xs : List d.T) (i : Nat) (h : i < xs.length) : gt xs (i : Int) = xs[i] := by
  unfold gt
  simp [List.getD, h]
theorem bt_rng (s : List UInt8) (i : Int) : 0 ≤ bt s i ∧ bt s i < 256 := by
  unfold bt
  have := (s.getD i.toNat 0).toNat_lt
  omega

theorem byl_app (xs ys : List Int) : byl (xs ++ ys) = byl xs ++ byl ys := by simp [byl]


/-! ### lists, gone through by a number -/

theorem eqL_len {α : Type} {f : α → α → Bool} : ∀ {l m : List α}, l.length ≠ m.length → eqL f l m = false
  | [], [], h => by simp at h
  | [], _ :: _, _ => rfl
  | _ :: _, [], _ => rfl
  | a :: l, b :: m, h => by simp only [eqL, eqL_len (l := l) (m := m) (by simpa using h), Bool.and_false]
theorem eqL_step {α : Type} {f : α → α → Bool} {l m : List α} {i : Nat} (h1 : i < l.length) (h2 : i < m.length) : eqL f (l.drop i) (m.drop i) = (f l[i] m[i] && eqL f (l.drop (i + 1)) (m.drop (i + 1))) := by
  rw [List.drop_eq_getElem_cons h1, List.drop_eq_getElem_cons h2]; rfl
theorem eqL_end {α : Type} {f : α → α → Bool} {l m : List α} {i : Nat} (h1 : l.length ≤ i) (h2 : m.length ≤ i) : eqL f (l.drop i) (m.drop i) = true := by
  rw [List.drop_of_length_le h1, List.drop_of_length_le h2]; rfl
theorem any_step {α : Type} {f : α → Bool} {l : List α} {i : Nat} (h1 : i < l.length) : (l.drop i).any f = (f l[i] || (l.drop (i + 1)).any f) := by
  rw [List.drop_eq_getElem_cons h1]; rfl
theorem any_end {α : Type} {f : α → Bool} {l : List α} {i : Nat} (h1 : l.length ≤ i) : (l.drop i).any f = false := by
  rw [List.drop_of_length_le h1]; rfl
theorem all_step {α : Type} {f : α → Bool} {l : List α} {i : Nat} (h1 : i < l.length) : (l.drop i).all f = (f l[i] && (l.drop (i + 1)).all f) := by
  rw [List.drop_eq_getElem_cons h1]; rfl
theorem all_end {α : Type} {f : α → Bool} {l : List α} {i : Nat} (h1 : l.length ≤ i) : (l.drop i).all f = true := by
  rw [List.drop_of_length_le h1]; rfl
theorem find_step {α : Type} {f : α → Bool} {l : List α} {i : Nat} (h1 : i < l.length) : (l.drop i).find? f = (match f l[i] with | true => some l[i] | false => (l.drop (i + 1)).find? f) := by
  rw [List.drop_eq_getElem_cons h1]; rfl
theorem find_end {α : Type} {f : α → Bool} {l : List α} {i : Nat} (h1 : l.length ≤ i) : (l.drop i).find? f = none := by
  rw [List.drop_of_length_le h1]; rfl
theorem take_step {α : Type} {l : List α} {i : Nat} (h1 : i < l.length) : l.take (i + 1) = l.take i ++ [l[i]] := by
  rw [List.take_succ_eq_append_getElem h1]
theorem filter_step {α : Type} {f : α → Bool} {l : List α} {i : Nat} (h1 : i < l.length) : (l.take (i + 1)).filter f = (l.take i).filter f ++ (if f l[i] = true then [l[i]] else []) := by
  rw [take_step h1, List.filter_append]
  congr 1
  cases h : f l[i] <;> simp [h]
theorem wr_succ (i : Nat) (h : i + 1 ≤ 9223372036854775807) : ((i + 1 : Nat) : Int) = IntKind.wrap .i64 ((i : Int) + 1) := by rw [wr64 _ (by omega) (by omega)]; omega
theorem wr_succ' (i : Nat) (h : i + 1 ≤ 9223372036854775807) : IntKind.wrap .i64 ((i : Int) + 1) = ((i + 1 : Nat) : Int) := (wr_succ i h).symm

/-! ### maps of data -/

section
variable {kd vd : D}
theorem mset_cons (p : kd.T × vd.T) (l : List (kd.T × vd.T)) (k : kd.T) (v : vd.T) : mset (p :: l) k v = if kd.eqb p.1 k = true then (k, v) :: l else p :: mset l k v := by
  unfold mset
  simp only [midx]
  by_cases h : kd.eqb p.1 k = true
  · simp [h]
  · simp only [h]
    cases midx l k <;> simp
theorem mval_cons (p : kd.T × vd.T) (l : List (kd.T × vd.T)) (k : kd.T) : mval (p :: l) k = if kd.eqb p.1 k = true then p.2 else mval l k := by
  unfold mval
  simp only [midx]
  by_cases h : kd.eqb p.1 k = true
  · simp [h]
  · simp only [h]
    cases midx l k <;> simp
theorem mval_mset : ∀ (es : List (kd.T × vd.T)) (k : kd.T) (v : vd.T) (k' : kd.T), mval (mset es k v) k' = if k = k' then v else mval es k'
  | [], k, v, k' => by
    have : mset ([] : List (kd.T × vd.T)) k v = [(k, v)] := rfl
    rw [this, mval_cons]
    by_cases h : k = k'
    · rw [if_pos ((D.eqb_iff kd _ _).2 h), if_pos h]
    · rw [if_neg (fun e => h ((D.eqb_iff kd _ _).1 e)), if_neg h]
  | p :: l, k, v, k' => by
    rw [mset_cons]
    by_cases h : kd.eqb p.1 k = true
    · have hp := (D.eqb_iff kd _ _).1 h
      rw [if_pos h, mval_cons, mval_cons]
      by_cases h2 : k = k'
      · subst h2; rw [if_pos ((D.eqb_iff kd _ _).2 rfl), if_pos rfl]
      · rw [if_neg (fun e => h2 ((D.eqb_iff kd _ _).1 e)), if_neg h2, hp, if_neg (fun e => h2 ((D.eqb_iff kd _ _).1 e))]
    · rw [if_neg h, mval_cons, mval_cons, mval_mset l k v k']
      by_cases h2 : k = k'
      · subst h2; rw [if_neg h, if_pos rfl, if_pos rfl]
      · rw [if_neg h2, if_neg h2]
theorem mval_nil (k : kd.T) : mval ([] : List (kd.T × vd.T)) k = vd.df := rfl
theorem mval_mem {es : List (kd.T × vd.T)} (h : es.Pairwise (fun p q => p.1 ≠ q.1)) {i : Nat} (hi : i < es.length) : mval es es[i].1 = es[i].2 := by
  have hm := midx_at h (k := es[i].1) (v := es[i].2) (i := i) (by simp [hi])
  unfold mval
  rw [hm]
  simp [hi]
theorem mval_get {es : List (kd.T × vd.T)} {k : kd.T} (h : mval es k ≠ vd.df) : ∃ (i : Nat) (hi : i < es.length), es[i] = (k, mval es k) := by
  unfold mval at h ⊢
  cases hm : midx es k with
  | none => rw [hm] at h; exact (h rfl).elim
  | some i =>
    obtain ⟨v, hv⟩ := midx_some hm
    obtain ⟨hi, e⟩ := List.getElem?_eq_some_iff.1 hv
    exact ⟨i, hi, by simp [hv, e]⟩
theorem ent_mset (es : List (kd.T × vd.T)) (y : kd.T) (v : vd.T) : mput (ment es y) ((midx es y).getD es.length) v = mset es y v := by
  unfold mput ment mhas mset
  cases hm : midx es y with
  | none => simp
  | some i =>
    obtain ⟨u, hu⟩ := midx_some hm
    simp [hu]
theorem mval_ment (es : List (kd.T × vd.T)) (y : kd.T) : mval (ment es y) y = mval es y := by
  have key : ∀ l : List (kd.T × vd.T), midx l y = none → mval (l ++ [(y, vd.df)]) y = vd.df := by
    intro l
    induction l with
    | nil => intro _; rw [List.nil_append, mval_cons, if_pos ((D.eqb_iff kd _ _).2 rfl)]
    | cons p l ih =>
      intro h
      simp only [midx] at h
      split at h
      · cases h
      · rename_i hp
        simp only [Option.map_eq_none_iff] at h
        rw [List.cons_append, mval_cons, if_neg hp]
        exact ih h
  unfold ment mhas
  cases hm : midx es y with
  | none =>
    simp only [Option.isSome_none, Bool.false_eq_true, if_false]
    rw [key es hm]
    unfold mval
    rw [hm]
  | some i => simp
theorem ent_len (es : List (kd.T × vd.T)) (y : kd.T) : (midx es y).getD es.length < (ment es y).length := by
  unfold ment mhas
  cases hm : midx es y with
  | none => simp
  | some i =>
    obtain ⟨u, hu⟩ := midx_some hm
    obtain ⟨hi, _⟩ := List.getElem?_eq_some_iff.1 hu
    simpa using hi
end

theorem nodup_bd : ∀ {n : Nat} {l : List Nat}, l.Nodup → (∀ i ∈ l, i < n) → l.length ≤ n
  | 0, [], _, _ => Nat.le_refl _
  | 0, a :: l, _, h => by have := h a (by simp); omega
  | n + 1, l, hd, h => by
    have h1 := nodup_bd (n := n) (l := l.filter (· != n)) (hd.sublist List.filter_sublist) (fun i hi => by
      simp only [List.mem_filter, bne_iff_ne] at hi
      have := h i hi.1; omega)
    have h2 : l.length ≤ (l.filter (· != n)).length + 1 := by
      have hc : l.count n ≤ 1 := List.nodup_iff_count.1 hd n
      have := List.length_eq_countP_add_countP (l := l) (p := (· != n))
      rw [← List.countP_eq_length_filter]
      have e : List.countP (fun a => decide ¬(a != n) = true) l = l.count n := by
        unfold List.count
        congr 1
        funext a
        by_cases h : a = n <;> simp [h]
      omega
    omega

/-! ### arguments that are nil -/
theorem FnD.args {P : Program} {f : Nat} {as bs : List SV} {post : SV → Prop} (h : FnD P f as post) (hs : ∀ w ok, RL (fun b a => ∀ v, RS (DX w ok) b v → RS (DX w ok) a v) bs as) : FnD P f bs post := by
  refine ⟨h.1, fun w ok vs hok hvs => h.2 w ok vs hok ?_⟩
  have key : ∀ {bs as : List SV} {m : List Value}, RL (fun b a => ∀ v, RS (DX w ok) b v → RS (DX w ok) a v) bs as → RL (RS (DX w ok)) bs m → RL (RS (DX w ok)) as m := by
    intro bs
    induction bs with
    | nil =>
      intro as m h1 h2
      cases as with
      | nil => exact h2
      | cons _ _ => exact h1.elim
    | cons b bs ih =>
      intro as m h1 h2
      cases as with
      | nil => exact h1.elim
      | cons a as =>
        obtain ⟨v, m', rfl, g1, g2⟩ := rl_cons h2
        exact ⟨h1.1 v g1, ih h1.2 g2⟩
  exact key (hs w ok) hvs
theorem nilA {w : World} {ok : Nat → Prop} {d : D} (v : Value) (h : RS (DX w ok) (.c (.val (.slice none 0 0))) v) : RS (DX w ok) (.c (.dat d [])) v := by
  obtain ⟨rfl, _⟩ := h
  show Rd w ok (.list d) [] [_]
  simp only [Rd]
  exact ⟨none, 0, rfl, by simp, by simp [maxLen], fun _ => rfl, .inl rfl⟩
theorem sameA {w : World} {ok : Nat → Prop} {a : SV} (v : Value) (h : RS (DX w ok) a v) : RS (DX w ok) a v := h
/-- a result told in another way -/
theorem FnD.res {P : Program} {f : Nat} {args : List SV} {pf : SV → Prop} {s : SV} (h : FnD P f args pf) (hs : ∀ r, pf r → ∀ w ok v, RS (DX w ok) r v → RS (DX w ok) s v) : FnD P f args (· = s) :=
  ⟨h.1, fun w ok vs ho hv => (h.2 w ok vs ho hv).mono fun _ _ ⟨r, v, e, h1, h2, h3⟩ => ⟨s, v, e, rfl, hs r h1 _ _ v h2, h3⟩⟩
/-- a list, or nil -/
def nilOr (d : D) (l : List d.T) (r : SV) : Prop := r = .c (.dat d l) ∨ (l = [] ∧ r = .c (.val (.slice none 0 0)))
theorem FnD.nil {P : Program} {f : Nat} {args : List SV} {d : D} {l : List d.T} (h : FnD P f args (nilOr d l)) : FnD P f args (· = .c (.dat d l)) :=
  h.res fun r hr w ok v hv => by
    rcases hr with rfl | ⟨rfl, rfl⟩
    · exact hv
    · exact nilA v hv
end OE
