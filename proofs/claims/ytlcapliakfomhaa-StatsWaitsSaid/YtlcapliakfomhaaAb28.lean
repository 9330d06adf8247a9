/- THE ABSTRACT EVALUATOR, 28: what stands in a store, for proofs over the typed form: slices, growth, whole numbers that do not wrap. -/
import Derived.Test.YtlcapliakfomhaaAb27
namespace Go.Ab

/-! Stores that grow. -/
def Gr (o o' : OS) : Prop := ∀ (i : Nat) (x : AO), o[i]? = some x → o'[i]? = some x
theorem Gr.refl (o : OS) : Gr o o := fun _ _ h => h
theorem Gr.trans {a b c : OS} (h : Gr a b) (k : Gr b c) : Gr a c := fun i x hx => k i x (h i x hx)
theorem getElem?_lt {α : Type} {l : List α} {i : Nat} {x : α} (h : l[i]? = some x) : i < l.length := (List.getElem?_eq_some_iff.1 h).1
theorem Gr.push {a b : OS} (h : Gr a b) (t : OS) : Gr a (b ++ t) := fun i x hx => by
  have := h i x hx
  rw [List.getElem?_append_left (getElem?_lt this)]; exact this
theorem Gr.len {a b : OS} (h : Gr a b) : a.length ≤ b.length := by
  rcases Nat.lt_or_ge b.length a.length with hl | hl
  · have h1 := h b.length a[b.length] (List.getElem?_eq_getElem hl)
    have := getElem?_lt h1
    omega
  · exact hl
theorem Gr.set {a b : OS} (h : Gr a b) {id : Nat} (hid : a.length ≤ id) (x : AO) : Gr a (b.set id x) := fun i y hy => by
  have := h i y hy
  rw [List.getElem?_set_ne (by have := getElem?_lt hy; omega)]; exact this
theorem rt_in {o o' : OS} {K : AV → OS → Prop} {v : AV} (h : K v o') : rt o K v o' := .inl h
theorem rt_old {o o' : OS} {K : AV → OS → Prop} {v : AV} (hv : v.flat = true) (hg : Gr o o') (h : K v o) : rt o K v o' :=
  .inr ⟨hv, fun i hi => by rw [hg i _ (List.getElem?_eq_getElem hi), List.getElem?_eq_getElem hi], h⟩

/-! Whole numbers. -/
theorem wrap_i64 (x : Int) : IntKind.wrap .i64 x = (x + 9223372036854775808) % 18446744073709551616 - 9223372036854775808 := by
  simp only [IntKind.wrap, IntKind.bits, IntKind.signed, Bool.true_and]
  split <;> rename_i h <;> simp at h <;> omega
theorem wrap_id {x : Int} (h1 : -9223372036854775808 ≤ x) (h2 : x ≤ 9223372036854775807) : IntKind.wrap .i64 x = x := by
  rw [wrap_i64]; omega
theorem wrap_u64 (x : Int) : IntKind.wrap .u64 x = x % 18446744073709551616 := by simp [IntKind.wrap, IntKind.bits, IntKind.signed]
theorem wrap_u8 (x : Int) : IntKind.wrap .u8 x = x % 256 := by simp [IntKind.wrap, IntKind.bits, IntKind.signed]
theorem wrap_u32 (x : Int) : IntKind.wrap .u32 x = x % 4294967296 := by simp [IntKind.wrap, IntKind.bits, IntKind.signed]
theorem wrap_range (x : Int) : -9223372036854775808 ≤ IntKind.wrap .i64 x ∧ IntKind.wrap .i64 x ≤ 9223372036854775807 := by
  rw [wrap_i64]; omega
theorem wrap_wrap_add (x y : Int) : IntKind.wrap .i64 (IntKind.wrap .i64 x + y) = IntKind.wrap .i64 (x + y) := by
  simp only [wrap_i64]; omega
def I64 (x : Int) : Prop := -9223372036854775808 ≤ x ∧ x ≤ 9223372036854775807

theorem bnd_of {α : Type} {x y : α} {K : α → Prop} (h : x = y) (hk : K y) : bnd x K := by subst h; exact hk
theorem lp_succ (n : Nat) (F : (List AV → OS → Prop) → List AV → OS → Prop) (v : List AV) (o : OS) : lp (n + 1) F v o = F (lp n F) v o := rfl
theorem jp_eq (F : List AV → OS → Prop) (G : (List AV → OS → Prop) → Prop) : jp F G = G F := rfl
theorem cnd_true (A B : Prop) : cnd true A B = A := by simp [cnd]
theorem cnd_false (A B : Prop) : cnd false A B = B := by simp [cnd]
theorem cnd_dec (p : Prop) [Decidable p] (A B : Prop) : cnd (decide p) A B = if p then A else B := by simp [cnd]
theorem cnd_beq {α : Type} [BEq α] [LawfulBEq α] [DecidableEq α] (a b : α) (A B : Prop) : cnd (a == b) A B = if a = b then A else B := by simp [cnd]
theorem cnd_bne {α : Type} [BEq α] [LawfulBEq α] [DecidableEq α] (a b : α) (A B : Prop) : cnd (a != b) A B = if a = b then B else A := by
  by_cases h : a = b
  · simp [cnd, h]
  · simp [cnd, h]
theorem cnd_not (b : Bool) (A B : Prop) : cnd (!b) A B = cnd b B A := by cases b <;> rfl
theorem GoF_eq (P : Program) (f : Nat) (args : List AV) (o : OS) (K : AV → OS → Prop) : GoF P (.func f) args o K = Go P f args o K := rfl

/-! Slices. -/
def Sl (o : OS) (v : AV) (s : Nat) (cs : List AV) : Prop := match v with
  | .nilslice | .zslice | .eslice _ _ => cs = []
  | .slice id off len _ _ => (len : Int) ≤ 9223372036854775807 ∧ cs.length = len * s ∧ ∃ rw vs, o[id]? = some (.cells rw vs) ∧ off + len * s ≤ vs.length ∧ cs = (vs.drop off).take (len * s)
  | _ => False
theorem Sl.gr {o o' : OS} {v : AV} {s : Nat} {cs : List AV} (h : Sl o v s cs) (hg : Gr o o') : Sl o' v s cs := by
  cases v <;> simp only [Sl] at h ⊢ <;> try exact h
  obtain ⟨h1, h2, rw', vs, h3, h4⟩ := h
  exact ⟨h1, h2, rw', vs, hg _ _ h3, h4⟩
theorem Sl.isS {o : OS} {v : AV} {s : Nat} {cs : List AV} (h : Sl o v s cs) : v.isS = true := by
  cases v <;> simp_all [Sl, AV.isS]
theorem Sl.one {o : OS} {v : AV} {s : Nat} {cs : List AV} (h : Sl o v s cs) : v.one = true := by
  cases v <;> simp_all [Sl, AV.one]
theorem Sl.alen {o : OS} {v : AV} {s : Nat} {cs : List AV} (h : Sl o v s cs) (hs : 0 < s) : alen v = (cs.length / s : Nat) := by
  cases v <;> simp only [Sl] at h <;> try (subst h; simp [Ab.alen])
  · simp only [Ab.alen]; rw [h.2.1, Nat.mul_div_cancel _ hs]
  all_goals exact h.elim
theorem Sl.max {o : OS} {v : AV} {s : Nat} {cs : List AV} (h : Sl o v s cs) : 0 ≤ Ab.alen v ∧ Ab.alen v ≤ 9223372036854775807 := by
  cases v <;> simp_all [Sl, Ab.alen]
/-- A load of one cell. -/
theorem Sl.ld {o : OS} {v : AV} {s : Nat} {cs : List AV} (h : Sl o v s cs) {i : Int} (h0 : 0 ≤ i) (h1 : i < Ab.alen v) (k : Nat) (hk : k < s) : ldO false 1 (padd k (ixp s v i)) o = cs[i.toNat * s + k]? := by
  cases v <;> simp only [Ab.alen] at h1 <;> try omega
  rename_i id off len cap kk
  simp only [Sl] at h
  obtain ⟨_, h2, rw', vs, h3, h4, h5⟩ := h
  have hi : i.toNat < len := by omega
  have hm : i.toNat * s + k < len * s := by
    have := Nat.mul_le_mul_right s (show i.toNat + 1 ≤ len from hi)
    rw [Nat.add_mul] at this; omega
  simp only [ixp, padd, ldO, h3]
  rw [h5, List.getElem?_take_of_lt hm, List.getElem?_drop]
  congr 1; omega
theorem Sl.ld0 {o : OS} {v : AV} {s : Nat} {cs : List AV} (h : Sl o v s cs) {i : Int} (h0 : 0 ≤ i) (h1 : i < Ab.alen v) (hs : 0 < s) : ldO false 1 (ixp s v i) o = cs[i.toNat * s]? := by
  have := h.ld h0 h1 0 hs
  cases v <;> simp only [Ab.alen] at h1 <;> try omega
  simpa [padd, ixp] using this
/-- A load of several cells. -/
theorem Sl.lds {o : OS} {v : AV} {s : Nat} {cs : List AV} (h : Sl o v s cs) {i : Int} (h0 : 0 ≤ i) (h1 : i < Ab.alen v) (k n : Nat) (hk : k + n ≤ s) : ldO true n (padd k (ixp s v i)) o = some (.agg ((cs.drop (i.toNat * s + k)).take n)) := by
  cases v <;> simp only [Ab.alen] at h1 <;> try omega
  rename_i id off len cap kk
  simp only [Sl] at h
  obtain ⟨_, h2, rw', vs, h3, h4, h5⟩ := h
  have hi : i.toNat < len := by omega
  have hm : i.toNat * s + k + n ≤ len * s := by
    have := Nat.mul_le_mul_right s (show i.toNat + 1 ≤ len from hi)
    rw [Nat.add_mul] at this; omega
  simp only [ixp, padd, ldO, h3]
  rw [if_pos (by omega), h5, List.drop_take, List.drop_drop, List.take_take]
  congr 3
  · omega
  · congr 1; omega
theorem Sl.lds0 {o : OS} {v : AV} {s : Nat} {cs : List AV} (h : Sl o v s cs) {i : Int} (h0 : 0 ≤ i) (h1 : i < Ab.alen v) : ldO true s (ixp s v i) o = some (.agg ((cs.drop (i.toNat * s)).take s)) := by
  have := h.lds h0 h1 0 s (by omega)
  cases v <;> simp only [Ab.alen] at h1 <;> try omega
  simpa [padd, ixp] using this
theorem Sl.own {o : OS} {id : Nat} {rw' : Bool} {cs : List AV} {s n cap k : Nat} (h : o[id]? = some (.cells rw' cs)) (hn : cs.length = n * s) (hm : (n : Int) ≤ 9223372036854775807) : Sl o (.slice id 0 n cap k) s cs := by
  refine ⟨hm, hn, rw', cs, h, by omega, ?_⟩
  rw [List.drop_zero, List.take_of_length_le (by omega)]

/-- Rows of things of one size. -/
theorem flat_drop {α : Type} {enc : α → List AV} {s : Nat} (hs : ∀ x, (enc x).length = s) : ∀ (l : List α) (i : Nat) (x : α), l[i]? = some x → ((l.flatMap enc).drop (i * s)).take s = enc x
  | [], i, x, h => by simp at h
  | a :: l, 0, x, h => by
    simp at h; subst h
    rw [List.flatMap_cons, Nat.zero_mul, List.drop_zero, List.take_append_of_le_length (by rw [hs]; exact Nat.le_refl _), List.take_of_length_le (by rw [hs]; exact Nat.le_refl _)]
  | a :: l, i + 1, x, h => by
    rw [List.flatMap_cons, List.drop_append, List.drop_eq_nil_of_le (by rw [hs, Nat.add_mul]; omega), List.nil_append, hs, show (i + 1) * s - s = i * s by rw [Nat.add_mul]; omega]
    exact flat_drop hs l i x (by simpa using h)
theorem flat_len {α : Type} {enc : α → List AV} {s : Nat} (hs : ∀ x, (enc x).length = s) : ∀ (l : List α), (l.flatMap enc).length = l.length * s
  | [] => by simp
  | a :: l => by rw [List.flatMap_cons, List.length_append, hs, flat_len hs l, List.length_cons, Nat.add_mul]; omega
theorem flat_get {α : Type} {enc : α → List AV} {s : Nat} (hs : ∀ x, (enc x).length = s) {l : List α} {i k : Nat} {x : α} (h : l[i]? = some x) (hk : k < s) : (l.flatMap enc)[i * s + k]? = (enc x)[k]? := by
  have := flat_drop hs l i x h
  rw [← this, List.getElem?_take_of_lt hk, List.getElem?_drop]

/-- A row of things. -/
def Els {α : Type} (enc : α → List AV) (s : Nat) (o : OS) (v : AV) (l : List α) : Prop := Sl o v s (l.flatMap enc)
section
variable {α : Type} {enc : α → List AV} {s : Nat} {o o' : OS} {v : AV} {l : List α}
theorem Els.gr (h : Els enc s o v l) (hg : Gr o o') : Els enc s o' v l := Sl.gr h hg
theorem Els.isS (h : Els enc s o v l) : v.isS = true := Sl.isS h
theorem Els.one (h : Els enc s o v l) : v.one = true := Sl.one h
theorem Els.len (h : Els enc s o v l) (hs : ∀ x, (enc x).length = s) (h0 : 0 < s) : alen v = (l.length : Int) := by
  have := Sl.alen h h0
  rw [flat_len hs, Nat.mul_div_cancel _ h0] at this
  exact this
theorem Els.max (h : Els enc s o v l) (hs : ∀ x, (enc x).length = s) (h0 : 0 < s) : (l.length : Int) ≤ 9223372036854775807 := by
  have := (Sl.max h).2; rw [h.len hs h0] at this; exact this
theorem Els.ld (h : Els enc s o v l) (hs : ∀ x, (enc x).length = s) (hp : 0 < s) {i : Int} {x : α} (hx : l[i.toNat]? = some x) (h0 : 0 ≤ i) : ldO true s (ixp s v i) o = some (.agg (enc x)) := by
  have hlt := getElem?_lt hx
  rw [Sl.lds0 h h0 (by rw [h.len hs hp]; omega), flat_drop hs l _ x hx]
theorem Els.ldk (h : Els enc s o v l) (hs : ∀ x, (enc x).length = s) {i : Int} {x : α} (hx : l[i.toNat]? = some x) (h0 : 0 ≤ i) (k : Nat) (hk : k < s) : ldO false 1 (padd k (ixp s v i)) o = (enc x)[k]? := by
  have hlt := getElem?_lt hx
  rw [Sl.ld h h0 (by rw [h.len hs (by omega)]; omega) k hk, flat_get hs hx hk]
theorem Els.ldks (h : Els enc s o v l) (hs : ∀ x, (enc x).length = s) {i : Int} {x : α} (hx : l[i.toNat]? = some x) (h0 : 0 ≤ i) (k n : Nat) (hk : k + n ≤ s) (hp : 0 < s) : ldO true n (padd k (ixp s v i)) o = some (.agg (((enc x).drop k).take n)) := by
  have hlt := getElem?_lt hx
  rw [Sl.lds h h0 (by rw [h.len hs (by omega)]; omega) k n hk, ← flat_drop hs l _ x hx, List.drop_take, List.drop_drop, List.take_take, Nat.min_eq_left (by omega)]
theorem Els.ld0 (h : Els enc s o v l) (hs : ∀ x, (enc x).length = s) {i : Int} {x : α} (hx : l[i.toNat]? = some x) (h0 : 0 ≤ i) (hp : 0 < s) : ldO false 1 (ixp s v i) o = (enc x)[0]? := by
  have hlt := getElem?_lt hx
  rw [Sl.ld0 h h0 (by rw [h.len hs hp]; omega) hp]
  have := flat_get (k := 0) hs hx hp
  simpa using this
end

/-! Rows of whole numbers. -/
def eInt (n : Int) : List AV := [.int .i64 n]
theorem eInt_len (x : Int) : (eInt x).length = 1 := rfl
abbrev Ints (o : OS) (v : AV) (l : List Int) : Prop := Els eInt 1 o v l
section
variable {o o' : OS} {v : AV} {l : List Int}
theorem Ints.len (h : Ints o v l) : alen v = (l.length : Int) := Els.len h eInt_len (by omega)
theorem Ints.max (h : Ints o v l) : (l.length : Int) ≤ 9223372036854775807 := Els.max h eInt_len (by omega)
theorem Ints.ld (h : Ints o v l) {i : Int} {x : Int} (hx : l[i.toNat]? = some x) (h0 : 0 ≤ i) : ldO false 1 (ixp 1 v i) o = some (.int .i64 x) := Els.ld0 h eInt_len hx h0 (by omega)
theorem Els.ilen (h : Els eInt 1 o v l) : alen v = (l.length : Int) := Els.len h eInt_len (by omega)
theorem Els.imax (h : Els eInt 1 o v l) : (l.length : Int) ≤ 9223372036854775807 := Els.max h eInt_len (by omega)
theorem Els.ild (h : Els eInt 1 o v l) {i : Int} {x : Int} (hx : l[i.toNat]? = some x) (h0 : 0 ≤ i) : ldO false 1 (ixp 1 v i) o = some (.int .i64 x) := Els.ld0 h eInt_len hx h0 (by omega)
theorem flat_eInt (l : List Int) : l.flatMap eInt = l.map (.int .i64) := by
  induction l with
  | nil => rfl
  | cons a l ih => rw [List.flatMap_cons, ih]; rfl
theorem Ints.of_own {id : Nat} {rw' : Bool} {cap k : Nat} (h : o[id]? = some (.cells rw' (l.map (.int .i64)))) (hm : (l.length : Int) ≤ 9223372036854775807) : Ints o (.slice id 0 l.length cap k) l := by
  unfold Ints Els
  rw [flat_eInt]
  exact Sl.own h (by simp) hm
end

/-- A store of one cell into a row of the call's own. -/
theorem stO_own {o : OS} {id : Nat} {cs : List AV} {s n cap k : Nat} {i : Int} {x : AV} (j : Nat) (h : o[id]? = some (.cells true cs)) (h0 : i.toNat * s + j < cs.length) : stO (padd j (ixp s (.slice id 0 n cap k) i)) [x] o = some (o.set id (.cells true (cs.set (i.toNat * s + j) x))) := by
  simp only [ixp, padd, stO, h, Nat.zero_add]
  rw [if_pos (by simp; omega)]
  simp only [splice, List.length_singleton]
  congr 3
  rw [List.set_eq_take_append_cons_drop, if_pos h0]
  rfl
theorem stO_own0 {o : OS} {id : Nat} {cs : List AV} {s n cap k : Nat} {i : Int} {x : AV} (h : o[id]? = some (.cells true cs)) (h0 : i.toNat * s < cs.length) : stO (ixp s (.slice id 0 n cap k) i) [x] o = some (o.set id (.cells true (cs.set (i.toNat * s) x))) := by
  have := stO_own (n := n) (cap := cap) (k := k) (x := x) 0 h (i := i) (s := s) (by omega)
  simpa [padd, ixp] using this

/-! What is appended. -/
theorem Sl.newOf {o : OS} {v : AV} {s : Nat} {cs : List AV} (h : Sl o v s cs) : newOf s v (mk o) = some ((Ab.alen v).toNat, cs) := by
  cases v <;> simp only [Sl] at h <;> try (subst h; simp [Ab.newOf, Ab.alen]; done)
  · obtain ⟨h1, h2, rw', vs, h3, h4, h5⟩ := h
    have hget : (mk o).get _ = _ := congrArg (fun x => x.getD AO.dead) h3
    simp only [Ab.newOf, slCells, hget, Option.getD_some, h4, if_true, Option.map_some, Ab.alen, Int.toNat_natCast]
    rw [h5]
  all_goals exact h.elim
theorem Sl.alen_mul {o : OS} {v : AV} {s : Nat} {cs : List AV} (h : Sl o v s cs) : cs.length = (Ab.alen v).toNat * s := by
  cases v <;> simp only [Sl] at h <;> try (subst h; simp [Ab.alen]; done)
  · exact h.2.1
  all_goals exact h.elim
/-- A clone: append of a row to a new, empty one. -/
theorem appO_clone {o : OS} {v : AV} {s b : Nat} {cs : List AV} (h : Sl o v s cs) (hone : cs.all AV.one = true) (hm : Ab.alen v ≤ 4294967296) (hb : b ≤ 4096) (hs : 0 < s) :
    ∃ id k o', appO s b (.slice o.length 0 0 0 0) v (o ++ [AO.cells true []]) = some (.slice id 0 (Ab.alen v).toNat (Ab.alen v).toNat k, o') ∧ Gr o o' ∧ o.length ≤ id ∧ o'[id]? = some (.cells true cs) := by
  have h' := h.gr ((Gr.refl o).push [AO.cells true []])
  have hl := h.alen_mul
  have hget : (mk (o ++ [AO.cells true []])).get o.length = .cells true [] := by
    show ((o ++ [AO.cells true []])[o.length]?).getD .dead = _
    simp
  unfold appO
  rw [h'.newOf]
  simp only
  rw [if_pos ⟨hone, by omega, hb, hs, hl⟩]
  unfold appendTo
  simp only
  by_cases hz : (Ab.alen v).toNat = 0
  · rw [if_pos hz]
    have : cs = [] := List.eq_nil_of_length_eq_zero (by rw [hl, hz]; omega)
    subst this
    refine ⟨o.length, 0, _, by rw [hz]; rfl, (Gr.refl o).push _, Nat.le_refl _, by simp⟩
  · rw [if_neg hz, hget]
    simp only
    rw [if_pos (by simp), if_pos trivial, if_neg (by omega), if_pos (by omega)]
    refine ⟨o.length + 1, s, o ++ [AO.cells true []] ++ [AO.cells true cs], ?_, ((Gr.refl o).push _).push _, by omega, ?_⟩
    · simp [St.size, St.push]
    · rw [List.getElem?_append_right (by simp)]; simp
/-- An accumulator: a row that append made, behind all that stood. -/
def Acc (o0 o : OS) (v : AV) (s : Nat) (cs : List AV) : Prop :=
  Gr o0 o ∧ ((v = .nilslice ∧ cs = []) ∨ ∃ id m, v = .slice id 0 m m s ∧ 0 < m ∧ o0.length ≤ id ∧ o[id]? = some (.cells true cs) ∧ cs.length = m * s ∧ m ≤ 4294967296)
theorem Acc.nil (o : OS) (s : Nat) : Acc o o .nilslice s [] := ⟨Gr.refl o, .inl ⟨rfl, rfl⟩⟩
theorem Acc.gr0 {o0 o1 o : OS} {v : AV} {s : Nat} {cs : List AV} (h : Acc o1 o v s cs) (hg : Gr o0 o1) : Acc o0 o v s cs := by
  obtain ⟨h1, h2⟩ := h
  refine ⟨hg.trans h1, ?_⟩
  rcases h2 with h2 | ⟨id, m, a, b, c, d⟩
  · exact .inl h2
  · exact .inr ⟨id, m, a, b, Nat.le_trans hg.len c, d⟩
theorem Acc.gr {o0 o o' : OS} {v : AV} {s : Nat} {cs : List AV} (h : Acc o0 o v s cs) (hg : Gr o o') : Acc o0 o' v s cs := by
  obtain ⟨h1, h2⟩ := h
  refine ⟨h1.trans hg, ?_⟩
  rcases h2 with h2 | ⟨id, m, a, b, c, d, e⟩
  · exact .inl h2
  · exact .inr ⟨id, m, a, b, c, hg _ _ d, e⟩
theorem Acc.sl {o0 o : OS} {v : AV} {s : Nat} {cs : List AV} (h : Acc o0 o v s cs) : Sl o v s cs := by
  rcases h.2 with ⟨rfl, rfl⟩ | ⟨id, m, rfl, _, hid, hg, hl, hm⟩
  · exact rfl
  · exact Sl.own hg hl (by omega)
theorem Acc.one {o0 o : OS} {v : AV} {s : Nat} {cs : List AV} (h : Acc o0 o v s cs) : v.one = true := h.sl.one
/-- A row is appended to an accumulator. -/
theorem Acc.app {o0 o : OS} {v y : AV} {s b : Nat} {cs new : List AV} (h : Acc o0 o v s cs) (hy : Sl o y s new) (hone : new.all AV.one = true) (hb : b ≤ 4096) (hs : 0 < s)
    (hm : cs.length + new.length ≤ 4294967296) : ∃ v' o', appO s b v y o = some (v', o') ∧ Acc o0 o' v' s (cs ++ new) := by
  have hl := hy.alen_mul
  have hmy := hy.max
  have hle : (Ab.alen y).toNat ≤ new.length := by rw [hl]; exact Nat.le_mul_of_pos_right _ hs
  unfold appO
  rw [hy.newOf]
  simp only
  rw [if_pos ⟨hone, by omega, hb, hs, hl⟩]
  obtain ⟨h1, h2⟩ := h
  rcases h2 with ⟨rfl, rfl⟩ | ⟨id, m, rfl, hpos, hid, hg, hcl, hmm⟩
  · unfold appendTo
    simp only
    by_cases hz : (Ab.alen y).toNat = 0
    · rw [if_pos hz]
      have : new = [] := List.eq_nil_of_length_eq_zero (by rw [hl, hz]; omega)
      subst this
      exact ⟨_, _, rfl, h1, .inl ⟨rfl, rfl⟩⟩
    · rw [if_neg hz]
      refine ⟨_, _, rfl, h1.push _, .inr ⟨o.length, (Ab.alen y).toNat, rfl, by omega, h1.len, by simp [St.push], by simpa using hl, by omega⟩⟩
  · unfold appendTo
    simp only
    by_cases hz : (Ab.alen y).toNat = 0
    · rw [if_pos hz]
      have : new = [] := List.eq_nil_of_length_eq_zero (by rw [hl, hz]; omega)
      subst this
      exact ⟨_, _, rfl, h1, .inr ⟨id, m, rfl, hpos, hid, by simpa using hg, by simpa using hcl, hmm⟩⟩
    · rw [if_neg hz]
      have hget : (mk o).get id = .cells true cs := congrArg (fun x => x.getD AO.dead) hg
      have hmc : m ≤ cs.length := by rw [hcl]; exact Nat.le_mul_of_pos_right _ hs
      rw [hget]
      simp only
      rw [if_pos (by omega), if_neg (by omega), if_pos ⟨trivial, by omega, trivial⟩]
      refine ⟨_, _, rfl, ?_, .inr ⟨o.length, m + (Ab.alen y).toNat, ?_, by omega, h1.len, ?_, by rw [List.length_append, hcl, hl, Nat.add_mul], by omega⟩⟩
      · exact (h1.set hid _).push _
      · rfl
      · show ((o.set id .dead) ++ [_])[o.length]? = _
        rw [List.getElem?_append_right (by simp)]
        simp only [List.length_set, Nat.sub_self, List.getElem?_cons_zero, List.drop_zero]
        rw [List.take_of_length_le (by omega)]
/-- One thing is appended, by a new row of it. -/
theorem Acc.app1 {o0 o : OS} {v : AV} {s b : Nat} {cs new : List AV} (h : Acc o0 o v s cs) (hone : new.all AV.one = true) (hl : new.length = s) (hb : b ≤ 4096) (hs : 0 < s)
    (hm : cs.length + s ≤ 4294967296) : ∃ v' o', appO s b v (.slice o.length 0 1 1 0) (o ++ [AO.cells true new]) = some (v', o') ∧ Acc o0 o' v' s (cs ++ new) :=
  (h.gr ((Gr.refl o).push _)).app (Sl.own (by simp : (o ++ [AO.cells true new])[o.length]? = some (.cells true new)) (by omega) (by omega)) hone hb hs (by omega)
theorem times_rep (x : AV) : ∀ n : Nat, times [x] n = List.replicate n x
  | 0 => rfl
  | n + 1 => by rw [times, times_rep x n]; rfl

/-! What comes in. -/
section
variable {P : Program} {H : Type}
/-- WHAT IS TOLD OF A LAW's CALL, ON THE MACHINE. -/
theorem law_ok {enc : TypeId × Value → H} {w : World} {f : FuncId} (k : Nat) {ts : List TypeId} {args : Array Value} {ds : List (DataW H)} {ps : List MemPlace} (h : DataW.TrodAll enc P w 0 (fun _ => true) true ts args.toList ds ps) (hk : ts.all (okT P k) = true)
    (hok : ∀ (j : Nat) t v, ts[j]? = some t → args[j]? = some v → ∃ r base, Value.okWide P w r base t v)
    (hrun : CallOk P (.func f) (layArgs P ts ds { objs := [] }).1 (layArgs P ts ds { objs := [] }).2 fun v _ => v = .bool true) : Calls P f args w fun e W' => e = .returned (.bool true) ∧ RowKit.Below w.heap.size w W' := by
  have h0 : SRel w (fun _ => ⟨0, 0, 0⟩) { objs := [] } w := ⟨RowKit.Below.refl _ _, fun id hid => by simp [St.size] at hid, fun i j hi => by simp [St.size] at hi, fun i hi => by simp [St.size] at hi⟩
  obtain ⟨M, hs, _, hv⟩ := args_sound k ts args.toList ds ps h (fun t ht => List.all_eq_true.1 hk t ht) (fun j t v ht hv => hok j t v ht (by simpa using hv)) _ _ h0
  have := (hrun.2 w M w args hs hv).1
  refine this.mono ?_
  rintro e W' ⟨v, x, st', M', rfl, rfl, hvr, hs', _⟩
  simp only [VR] at hvr
  subst hvr
  exact ⟨rfl, hs'.below⟩
theorem wf_i64 {n : Int} (h : (Lit.int .i64 n).wf = true) : I64 n := by
  simp only [Lit.wf, Bool.and_eq_true, decide_eq_true_eq] at h
  simpa [I64, IntKind.min, IntKind.max, IntKind.signed, IntKind.bits] using h
/-- A row of whole numbers that comes in. -/
theorem lay_Ints {k : Nat} {t e : TypeId} {d : DataW H} (ht : P.underlying t = some (.slice e)) (hu : P.underlying e = some (.int .i64)) (h : hasT P (k + 1) t d) (o : OS) :
    ∃ (v : AV) (o' : OS) (zs : List Int), lay d (mk o) = ([v], mk o') ∧ Gr o o' ∧ Ints o' v zs ∧ ∀ z ∈ zs, I64 z := by
  rcases hasT_ints ht hu h with rfl | ⟨zs, sp, rfl, hl, hz⟩
  · exact ⟨.nilslice, o, [], by simp [lay], Gr.refl o, rfl, by simp⟩
  · rw [lay_ints]
    split
    · exact ⟨.zslice, o, [], rfl, Gr.refl o, rfl, by simp⟩
    · refine ⟨_, o ++ [.cells false (zs.map (.int .i64))], zs, rfl, (Gr.refl o).push _, ?_, fun z hzz => wf_i64 (hz z hzz)⟩
      have hm : maxLen = 9223372036854775807 := by decide
      exact Ints.of_own (rw' := false) (by simp [St.size]) (by omega)
/-- A row of whole numbers of any kind that comes in. -/
theorem lay_K {k : Nat} {t e : TypeId} {kd : IntKind} {d : DataW H} (ht : P.underlying t = some (.slice e)) (hu : P.underlying e = some (.int kd)) (h : hasT P (k + 1) t d) (o : OS) :
    ∃ (v : AV) (o' : OS) (zs : List Int), lay d (mk o) = ([v], mk o') ∧ Gr o o' ∧ Els (fun n => [.int kd n]) 1 o' v zs ∧ ∀ z ∈ zs, (Lit.int kd z).wf = true := by
  rcases hasT_ints ht hu h with rfl | ⟨zs, sp, rfl, hl, hz⟩
  · exact ⟨.nilslice, o, [], by simp [lay], Gr.refl o, rfl, by simp⟩
  · rw [lay_ints]
    split
    · exact ⟨.zslice, o, [], rfl, Gr.refl o, rfl, by simp⟩
    · refine ⟨_, o ++ [.cells false (zs.map (.int kd))], zs, rfl, (Gr.refl o).push _, ?_, hz⟩
      have hm : maxLen = 9223372036854775807 := by decide
      have e : zs.flatMap (fun n => [AV.int kd n]) = zs.map (.int kd) := by
        clear hz hl h
        rename_i x1
        clear x1
        induction zs with
        | nil => rfl
        | cons a l ih => rw [List.flatMap_cons, ih]; rfl
      unfold Els
      rw [e]
      exact Sl.own (rw' := false) (by simp [St.size]) (by simp) (by omega)
end
end Go.Ab
