/- THE ABSTRACT EVALUATOR, 3: what an abstract value, store, frame stands for in the model's world. -/
import Derived.Test.YtlcapliakfomhaaAb2
import Derived.CallsIn
import Derived.OrdersIn
import Derived.Below
import Derived.Laws.Sem
import Derived.Laws.Entries
import Derived.Laws.Cells
import Derived.Laws.CopyRow
import Derived.Laws.IdiomCopy
namespace Go.Ab
open Go.RowKit (Below)

/-- Where an object lies: the block, the first cell, the block's size. -/
structure Place where
  b : Nat
  sh : Nat
  sz : Nat
abbrev Map := Nat → Place

mutual
def VR (M : Map) (n : Nat) : AV → Value → Prop
  | .bool b, v => v = .bool b
  | .int k i, v => v = .int k i
  | .str s, v => v = .string s
  | .nilptr, v => v = .pointer none
  | .ptr id off, v => id < n ∧ v = .pointer (some ⟨(M id).b, (M id).sh + off, none⟩)
  | .nilslice, v => v = .slice none 0 0
  | .slice id off len cap k, v => id < n ∧ ∃ c, v = .slice (some ⟨(M id).b, (M id).sh + off, none⟩) len c ∧ cap ≤ c ∧ len ≤ cap ∧ (k = 0 → c = cap) ∧ (0 < k → (M id).sh + off + c * k ≤ (M id).sz)
  | .eslice id k, v => id < n ∧ 0 < k ∧ ∃ o c, v = .slice (some ⟨(M id).b, o, none⟩) 0 c ∧ o + c * k ≤ (M id).sz
  | .zslice, v => ∃ x, v = .slice (some x) 0 0
  | .nilmap, v => v = .map none
  | .map id, v => id < n ∧ v = .map (some (M id).b)
  | .nilfunc, v => v = .nilFunc
  | .func f a c, v => ∃ f' a' c', v = .func f' a' c' ∧ (match f with | .yield l => l < n ∧ f' = .yield (M l).b | f => f' = f) ∧ VRs M n a a'.toList ∧ VRs M n c c'.toList
  | .agg cs, v => ∃ cs', v = .agg cs' ∧ VRs M n cs cs'.toList
  | .tuple cs, v => ∃ cs', v = .tuple cs' ∧ VRs M n cs cs'.toList
  | .iter id, v => id < n ∧ v = .pointer (some ⟨(M id).b, 0, none⟩)
  | .unk, _ => True
def VRs (M : Map) (n : Nat) : List AV → List Value → Prop
  | [], vs => vs = []
  | a :: as, vs => ∃ v vs', vs = v :: vs' ∧ VR M n a v ∧ VRs M n as vs'
end

mutual
theorem VR.mono {M M' : Map} {n n' : Nat} (hn : n ≤ n') (hM : ∀ i, i < n → M' i = M i) : ∀ (a : AV) (v : Value), VR M n a v → VR M' n' a v
  | .bool _, _, h | .int _ _, _, h | .str _, _, h | .nilptr, _, h | .nilslice, _, h | .zslice, _, h | .nilmap, _, h | .nilfunc, _, h => by simpa [VR] using h
  | .ptr id off, _, h => by simp only [VR] at h ⊢; rw [hM _ h.1]; exact ⟨by omega, h.2⟩
  | .slice .., _, h => by simp only [VR] at h ⊢; rw [hM _ h.1]; exact ⟨by omega, h.2⟩
  | .eslice .., _, h => by simp only [VR] at h ⊢; rw [hM _ h.1]; exact ⟨by omega, h.2⟩
  | .map _, _, h => by simp only [VR] at h ⊢; rw [hM _ h.1]; exact ⟨by omega, h.2⟩
  | .iter _, _, h => by simp only [VR] at h ⊢; rw [hM _ h.1]; exact ⟨by omega, h.2⟩
  | .func f a c, _, h => by
    simp only [VR] at h ⊢
    obtain ⟨f', a', c', e, hf, h1, h2⟩ := h
    refine ⟨f', a', c', e, ?_, VRs.mono hn hM _ _ h1, VRs.mono hn hM _ _ h2⟩
    cases f <;> first | exact hf | (simp only at hf ⊢; rw [hM _ hf.1]; exact ⟨by omega, hf.2⟩)
  | .agg cs, _, h => by simp only [VR] at h ⊢; obtain ⟨a', e, h1⟩ := h; exact ⟨a', e, VRs.mono hn hM _ _ h1⟩
  | .tuple cs, _, h => by simp only [VR] at h ⊢; obtain ⟨a', e, h1⟩ := h; exact ⟨a', e, VRs.mono hn hM _ _ h1⟩
  | .unk, _, _ => by simp [VR]
theorem VRs.mono {M M' : Map} {n n' : Nat} (hn : n ≤ n') (hM : ∀ i, i < n → M' i = M i) : ∀ (a : List AV) (v : List Value), VRs M n a v → VRs M' n' a v
  | [], _, h => by simpa [VRs] using h
  | a :: as, _, h => by
    simp only [VRs] at h ⊢
    obtain ⟨v, vs', e, h1, h2⟩ := h
    exact ⟨v, vs', e, VR.mono hn hM _ _ h1, VRs.mono hn hM _ _ h2⟩
end

theorem VRs_nil {M : Map} {n : Nat} : VRs M n [] [] := by simp [VRs]
theorem VRs_cons {M : Map} {n : Nat} {a : AV} {as : List AV} {v : Value} {vs : List Value} : VRs M n (a :: as) (v :: vs) ↔ VR M n a v ∧ VRs M n as vs := by
  simp only [VRs]
  constructor
  · rintro ⟨v', vs', e, h⟩; obtain ⟨rfl, rfl⟩ := List.cons.inj e; exact h
  · intro h; exact ⟨v, vs, rfl, h⟩
theorem VRs.length {M : Map} {n : Nat} : ∀ {a : List AV} {v : List Value}, VRs M n a v → a.length = v.length
  | [], v, h => by simp [VRs] at h; simp [h]
  | a :: as, v, h => by
    simp only [VRs] at h
    obtain ⟨x, vs', rfl, _, h⟩ := h
    simp [VRs.length h]
theorem VRs_iff {M : Map} {n : Nat} : ∀ {a : List AV} {v : List Value}, VRs M n a v ↔ a.length = v.length ∧ ∀ (i : Nat) (x : AV), a[i]? = some x → ∃ y, v[i]? = some y ∧ VR M n x y
  | [], v => by
    constructor
    · intro h; simp [VRs] at h; simp [h]
    · rintro ⟨h, _⟩; simp [VRs]; exact List.eq_nil_of_length_eq_zero h.symm
  | a :: as, [] => by simp [VRs]
  | a :: as, v :: vs => by
    rw [VRs_cons, VRs_iff (a := as)]
    constructor
    · rintro ⟨h1, h2, h3⟩
      refine ⟨by simp [h2], fun i x hx => ?_⟩
      cases i with
      | zero => simp at hx; exact ⟨v, rfl, hx ▸ h1⟩
      | succ i => simpa using h3 i x (by simpa using hx)
    · rintro ⟨h2, h3⟩
      refine ⟨?_, by simpa using h2, fun i x hx => by simpa using h3 (i + 1) x (by simpa using hx)⟩
      obtain ⟨y, hy, hr⟩ := h3 0 a rfl
      simp at hy
      exact hy ▸ hr
theorem VRs.get {M : Map} {n : Nat} {a : List AV} {v : List Value} (h : VRs M n a v) {i : Nat} {x : AV} (hx : a[i]? = some x) : ∃ y, v[i]? = some y ∧ VR M n x y :=
  (VRs_iff.1 h).2 i x hx
theorem VRs.append {M : Map} {n : Nat} : ∀ {a b : List AV} {v u : List Value}, VRs M n a v → VRs M n b u → VRs M n (a ++ b) (v ++ u)
  | [], b, v, u, h, h' => by simp [VRs] at h; simpa [h] using h'
  | a :: as, b, v, u, h, h' => by
    simp only [VRs] at h
    obtain ⟨x, vs', rfl, h1, h2⟩ := h
    simp only [List.cons_append]
    exact VRs_cons.2 ⟨h1, VRs.append h2 h'⟩
theorem VRs.take {M : Map} {n : Nat} {a : List AV} {v : List Value} (h : VRs M n a v) (k : Nat) : VRs M n (a.take k) (v.take k) := by
  rw [VRs_iff] at h ⊢
  refine ⟨by simp [h.1], fun i x hx => ?_⟩
  rw [List.getElem?_take] at hx ⊢
  split at hx
  · rw [if_pos ‹_›]; exact h.2 i x hx
  · simp at hx
theorem VRs.drop {M : Map} {n : Nat} {a : List AV} {v : List Value} (h : VRs M n a v) (k : Nat) : VRs M n (a.drop k) (v.drop k) := by
  rw [VRs_iff] at h ⊢
  refine ⟨by simp [h.1], fun i x hx => ?_⟩
  rw [List.getElem?_drop] at hx ⊢
  exact h.2 _ x hx
theorem VRs.map_of {M : Map} {n : Nat} {α : Type} {f : α → AV} {g : α → Value} : ∀ {l : List α}, (∀ x, x ∈ l → VR M n (f x) (g x)) → VRs M n (l.map f) (l.map g)
  | [], _ => by simp [VRs]
  | x :: l, h => by
    simp only [List.map_cons]
    exact VRs_cons.2 ⟨h x (by simp), VRs.map_of fun y hy => h y (by simp [hy])⟩

/-- One-celled values have one cell. -/
theorem VR.one {M : Map} {n : Nat} {a : AV} {v : Value} (h : VR M n a v) (ha : a.one = true) : v.oneCell' = true := by
  cases a <;> simp [AV.one] at ha <;> simp only [VR] at h
  all_goals first
    | (subst h; rfl)
    | (obtain ⟨_, rfl⟩ := h; rfl)
    | (obtain ⟨_, _, rfl, _⟩ := h; rfl)
    | (obtain ⟨_, _, _, rfl, _⟩ := h; rfl)
    | (obtain ⟨_, _, _, _, rfl, _⟩ := h; rfl)
theorem Value.cells_one {v : Value} (h : v.oneCell' = true) : v.cells = #[v] := by cases v <;> simp_all [Value.oneCell', Value.cells]
theorem AV.cells_one {a : AV} (h : a.one = true) : a.cells = [a] := by cases a <;> simp_all [AV.one, AV.cells]
/-- The cells of a value that is known to have such. -/
theorem VR.cells {M : Map} {n : Nat} {a : AV} {v : Value} (h : VR M n a v) (ha : a.cells.all AV.one = true) : VRs M n a.cells v.cells.toList := by
  by_cases h1 : a.one = true
  · rw [AV.cells_one h1, Value.cells_one (h.one h1)]
    exact VRs_cons.2 ⟨h, VRs_nil⟩
  · cases a <;> simp [AV.one] at h1 <;> try (simp [AV.cells, AV.one] at ha; done)
    simp only [VR] at h
    obtain ⟨cs', rfl, h⟩ := h
    exact h
theorem VRs.one {M : Map} {n : Nat} {a : List AV} {v : List Value} (h : VRs M n a v) (ha : a.all AV.one = true) : ∀ x ∈ v, x.oneCell' = true := by
  intro x hx
  obtain ⟨i, hi⟩ := List.getElem?_of_mem hx
  have hlt : i < a.length := by rw [VRs.length h]; exact (List.getElem?_eq_some_iff.1 hi).1
  obtain ⟨y, hy, hr⟩ := h.get (List.getElem?_eq_getElem hlt)
  rw [hi] at hy
  obtain rfl := Option.some.inj hy
  exact hr.one (List.all_eq_true.1 ha _ (List.getElem_mem hlt))

/-- Constants. -/
theorem VR_ofVal1 (M : Map) (n : Nat) (v : Value) : VR M n (ofVal1 v) v := by
  unfold ofVal1
  split <;> simp [VR]
theorem VRs_ofVal1 (M : Map) (n : Nat) (l : List Value) : VRs M n (l.map ofVal1) l := by
  have := VRs.map_of (M := M) (n := n) (f := ofVal1) (g := id) (l := l) (fun x _ => VR_ofVal1 M n x)
  simpa using this
theorem VR_ofVal (M : Map) (n : Nat) (v : Value) : VR M n (ofVal v) v := by
  unfold ofVal
  split
  · simp only [VR]; exact ⟨_, rfl, VRs_ofVal1 M n _⟩
  · exact VR_ofVal1 M n _

/-! Objects. -/
def AO.own : AO → Bool
  | .cells true _ | .map .. | .iter .. | .loop .. => true
  | _ => false

def VRe (M : Map) (n : Nat) (e : AV × AV × Nat) (e' : MapEntry) : Prop := VR M n e.1 e'.key ∧ VR M n e.2.1 e'.val ∧ e'.born = e.2.2
def VRes (M : Map) (n : Nat) : List (AV × AV × Nat) → List MapEntry → Prop
  | [], vs => vs = []
  | a :: as, vs => ∃ v vs', vs = v :: vs' ∧ VRe M n a v ∧ VRes M n as vs'

/-- The frame: each slot that is known. -/
def ERel (M : Map) (n : Nat) (env : Env) (tmps : Array Value) : Prop := ∀ t, VR M n (env.get t) (tmps.getD t undef)
/-- Slots that code writes. -/
def dstsIn (nt : Nat) (ops : Array Oper) : Bool := ops.all fun o => match o.dst with | some d => decide (d < nt) | none => true
def fits (nt : Nat) : Code → Bool
  | .region _ ops _ => dstsIn nt ops
  | .seq a b => fits nt a && fits nt b
  | .cond _ a b => fits nt a && fits nt b
  | .block _ b => fits nt b
  | .loop b => fits nt b
  | .rangeFunc _ ps a b => ps.all (fun p => decide (p < nt)) && fits nt a && fits nt b
  | .scope b => fits nt b
  | _ => true

/-- The block of an object's. -/
def ORel (B : Nat) (M : Map) (n : Nat) (o : AO) (p : Place) (w : World) : Prop :=
  match o with
  | .dead => True
  | .cells rw vs => ∃ c e fz, w.heap[p.b]? = some (.cells c e fz) ∧
      (∀ (i : Nat) (x : AV), vs[i]? = some x → ∃ y, c[p.sh + i]? = some y ∧ VR M n x y) ∧
      (rw = true → B ≤ p.b ∧ p.sz = c.size ∧ (fz.1 = fz.2 ∨ c.size ≤ fz.1)) ∧ (rw = false → p.b < B)
  | .map es clock => B ≤ p.b ∧ ∃ es', w.heap[p.b]? = some (.map es' clock) ∧ VRes M n es es'.toList
  | .loop s pend ps assign body env => B ≤ p.b ∧ ∃ r : Loop, w.heap[p.b]? = some (.loop r) ∧ r.state = s ∧ r.pending = pend ∧ r.params.toList = ps ∧ r.assign = assign ∧ r.body = body ∧ ERel M n env r.tmps ∧
      fits r.tmps.size (.rangeFunc (.tmp 0) r.params assign body) = true
  | .iter m since seen last => B ≤ p.b ∧ ∃ sn, w.heap[p.b]? = some (.mapIter (m.map fun i => (M i).b) since sn last) ∧ sn.toList = seen ∧ ∀ i, m = some i → i < n

structure SRel (w0 : World) (M : Map) (st : St) (w : World) : Prop where
  below : Below w0.heap.size w0 w
  objs : ∀ id, id < st.size → ORel w0.heap.size M st.size (st.get id) (M id) w
  inj : ∀ i j, i < st.size → j < st.size → (st.get i).own = true → (st.get j).own = true → (M i).b = (M j).b → i = j
  bnd : ∀ i, i < st.size → (M i).b < w.heap.size

/-- What a step leaves alone. -/
structure Ext (M : Map) (st : St) (w : World) (M' : Map) (st' : St) (w' : World) : Prop where
  size : st.size ≤ st'.size
  map : ∀ i, i < st.size → M' i = M i
  heap : w.heap.size ≤ w'.heap.size
  frame : ∀ b, b < w.heap.size → (∀ i, i < st.size → (M i).b ≠ b) → w'.heap[b]? = w.heap[b]?
  fresh : ∀ i, st.size ≤ i → i < st'.size → w.heap.size ≤ (M' i).b ∨ ∃ j, j < st.size ∧ (M' i).b = (M j).b

theorem Ext.refl (M : Map) (st : St) (w : World) : Ext M st w M st w :=
  ⟨Nat.le_refl _, fun _ _ => rfl, Nat.le_refl _, fun _ _ _ => rfl, fun i h h' => by omega⟩
theorem Ext.trans {M M' M'' : Map} {st st' st'' : St} {w w' w'' : World} (h : Ext M st w M' st' w') (k : Ext M' st' w' M'' st'' w'') : Ext M st w M'' st'' w'' := by
  refine ⟨Nat.le_trans h.size k.size, fun i hi => ?_, Nat.le_trans h.heap k.heap, fun b hb hno => ?_, fun i hi hi' => ?_⟩
  · rw [k.map i (by have := h.size; omega), h.map i hi]
  · rw [k.frame b (by have := h.heap; omega) ?_, h.frame b hb hno]
    intro i hi
    by_cases h1 : i < st.size
    · rw [h.map i h1]; exact hno i h1
    · rcases h.fresh i (by omega) hi with h2 | ⟨j, hj, h2⟩
      · omega
      · rw [h2]; exact hno j hj
  · by_cases h1 : i < st'.size
    · rw [k.map i h1]; exact h.fresh i hi h1
    · rcases k.fresh i (by omega) hi' with h2 | ⟨j, hj, h2⟩
      · exact .inl (by have := h.heap; omega)
      · by_cases h3 : j < st.size
        · exact .inr ⟨j, h3, by rw [h2, h.map j h3]⟩
        · rcases h.fresh j (by omega) hj with h4 | ⟨l, hl, h4⟩
          · exact .inl (by omega)
          · exact .inr ⟨l, hl, by rw [h2, h4]⟩
theorem Ext.vr {M M' : Map} {st st' : St} {w w' : World} (h : Ext M st w M' st' w') {a : AV} {v : Value} (hv : VR M st.size a v) : VR M' st'.size a v := hv.mono h.size h.map
theorem Ext.vrs {M M' : Map} {st st' : St} {w w' : World} (h : Ext M st w M' st' w') {a : List AV} {v : List Value} (hv : VRs M st.size a v) : VRs M' st'.size a v := hv.mono h.size h.map

theorem nofz {fz : Nat × Nat} {k i : Nat} (h : fz.1 = fz.2 ∨ k ≤ fz.1) (hi : i < k) : (decide (fz.1 ≤ i) && decide (i < fz.2)) = false := by
  simp only [Bool.and_eq_false_iff, decide_eq_false_iff_not]; omega

theorem Env.get_put_same (env : Env) (d : Nat) (v : AV) : (env.put (some d) v).get d = v := by simp [Env.put, Env.get]
theorem Env.get_put_ne (env : Env) {d t : Nat} (v : AV) (h : d ≠ t) : (env.put (some d) v).get t = env.get t := by
  simp only [Env.put, Env.get]
  have : Nat.beq d t = false := by rw [← Bool.not_eq_true]; intro hh; exact h (Nat.eq_of_beq_eq_true hh)
  rw [this]
theorem ERel.put {M : Map} {n : Nat} {env : Env} {tmps : Array Value} (h : ERel M n env tmps) {d : Nat} (hd : d < tmps.size) {a : AV} {v : Value} (hv : VR M n a v) :
    ERel M n (env.put (some d) a) (tmps.setIfInBounds d v) := by
  intro t
  by_cases e : d = t
  · subst e; rw [Env.get_put_same]; simpa [hd] using hv
  · rw [Env.get_put_ne _ _ e]
    have := h t
    simpa [Array.getD_eq_getD_getElem?, Array.getElem?_setIfInBounds_ne e] using this
theorem ERel.mono {M M' : Map} {n n' : Nat} {env : Env} {tmps : Array Value} (h : ERel M n env tmps) (hn : n ≤ n') (hM : ∀ i, i < n → M' i = M i) : ERel M' n' env tmps :=
  fun t => (h t).mono hn hM
theorem ERel.opd {M : Map} {n : Nat} {env : Env} {a : Act} (h : ERel M n env a.tmps) (x : Operand) : VR M n (Ab.opd env x) (a.eval x) := by
  cases x with
  | tmp t => exact h t
  | const v => exact VR_ofVal M n v
  | global g => simp [Ab.opd, VR]
  | func f =>
    show VR M n (.func (.func f) [] []) (.func (.func f) #[] #[])
    simp only [VR]
    exact ⟨_, _, _, rfl, rfl, by simp [VRs], by simp [VRs]⟩
theorem ERel.opds {M : Map} {n : Nat} {env : Env} {a : Act} (h : ERel M n env a.tmps) (xs : Array Operand) : VRs M n (xs.toList.map (Ab.opd env)) (xs.map a.eval).toList := by
  rw [Array.toList_map]
  exact VRs.map_of fun x _ => h.opd x

end Go.Ab
