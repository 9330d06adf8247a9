/- THE ABSTRACT EVALUATOR, 10: how a store changes, and the world with it. -/
import Derived.Test.YtlcapliakfomhaaAb9
namespace Go.Ab
open Go.RowKit (Below)
variable {P : Program} {M : Map} {n : Nat} {st : St} {w0 w : World}

@[simp] theorem St.size_set (st : St) (i : Nat) (o : AO) : (st.set i o).size = st.size := by simp [St.set, St.size]
@[simp] theorem St.size_push (st : St) (o : AO) : (st.push o).size = st.size + 1 := by simp [St.push, St.size]
theorem St.get_set_same {i : Nat} (h : i < st.size) (o : AO) : (st.set i o).get i = o := by
  unfold St.size at h; simp [St.set, St.get, h]
theorem St.get_set_ne {i j : Nat} (h : i ≠ j) (o : AO) : (st.set i o).get j = st.get j := by
  simp [St.set, St.get, List.getElem?_set_ne h]
theorem St.get_push_old {i : Nat} (h : i < st.size) (o : AO) : (st.push o).get i = st.get i := by
  unfold St.size at h; simp [St.push, St.get, List.getElem?_append_left h]
theorem St.get_push_new (o : AO) : (st.push o).get st.size = o := by
  simp [St.push, St.get, St.size]

theorem VRe.mono {M' : Map} {n' : Nat} (hn : n ≤ n') (hM : ∀ i, i < n → M' i = M i) {e : AV × AV × Nat} {e' : MapEntry} (h : VRe M n e e') : VRe M' n' e e' :=
  ⟨h.1.mono hn hM, h.2.1.mono hn hM, h.2.2⟩
theorem ORel.mono {B : Nat} {M' : Map} {n' : Nat} {o : AO} {p : Place} (hn : n ≤ n') (hM : ∀ i, i < n → M' i = M i) (h : ORel B M n o p w) : ORel B M' n' o p w := by
  cases o with
  | dead => exact h
  | cells rw vs =>
    obtain ⟨c, e, fz, h1, h2, h3⟩ := h
    refine ⟨c, e, fz, h1, fun i x hx => ?_, h3⟩
    obtain ⟨y, hy, hv⟩ := h2 i x hx
    exact ⟨y, hy, hv.mono hn hM⟩
  | map es clock =>
    obtain ⟨h0, es', h1, h2⟩ := h
    exact ⟨h0, es', h1, h2.mono hn hM⟩
  | iter m since seen last =>
    obtain ⟨h0, sn, h1, h2, h3⟩ := h
    refine ⟨h0, sn, ?_, h2, fun i hi => by have := h3 i hi; omega⟩
    cases m with
    | none => exact h1
    | some i => simpa [hM i (h3 i rfl)] using h1
  | loop s pend ps assign body env =>
    obtain ⟨h0, r, h1, h2, h3, h4, h5, h6, h7, h8⟩ := h
    exact ⟨h0, r, h1, h2, h3, h4, h5, h6, h7.mono hn hM, h8⟩
theorem ORel.world {B : Nat} {o : AO} {p : Place} {w' : World} (h : ORel B M n o p w) (hw : o ≠ .dead → w'.heap[p.b]? = w.heap[p.b]?) : ORel B M n o p w' := by
  cases o with
  | dead => trivial
  | cells rw vs => obtain ⟨c, e, fz, h1, h2⟩ := h; exact ⟨c, e, fz, (hw (by simp)).trans h1, h2⟩
  | map es clock => obtain ⟨h0, es', h1, h2⟩ := h; exact ⟨h0, es', (hw (by simp)).trans h1, h2⟩
  | iter m since seen last => obtain ⟨h0, sn, h1, h2⟩ := h; exact ⟨h0, sn, (hw (by simp)).trans h1, h2⟩
  | loop s pend ps assign body env => obtain ⟨h0, r, h1, h2⟩ := h; exact ⟨h0, r, (hw (by simp)).trans h1, h2⟩
theorem ORel.bound {B : Nat} {o : AO} {p : Place} (h : ORel B M n o p w) (hd : o ≠ .dead) : p.b < w.heap.size := by
  have key : ∀ x, w.heap[p.b]? = some x → p.b < w.heap.size := fun x hx => (Array.getElem?_eq_some_iff.1 hx).1
  cases o with
  | dead => exact absurd rfl hd
  | cells rw vs => obtain ⟨c, e, fz, h1, h2⟩ := h; exact key _ h1
  | map es clock => obtain ⟨h0, es', h1, h2⟩ := h; exact key _ h1
  | iter m since seen last => obtain ⟨h0, sn, h1, h2⟩ := h; exact key _ h1
  | loop s pend ps assign body env => obtain ⟨h0, r, h1, h2⟩ := h; exact key _ h1
theorem ORel.base {B : Nat} {o : AO} {p : Place} (h : ORel B M n o p w) (hd : o.own = true) : B ≤ p.b := by
  cases o with
  | dead => simp [AO.own] at hd
  | cells rw vs => cases rw <;> simp [AO.own] at hd; obtain ⟨c, e, fz, h1, h2, h3, h4⟩ := h; exact (h3 rfl).1
  | map es clock => exact h.1
  | iter m since seen last => exact h.1
  | loop s pend ps assign body env => exact h.1
theorem ORel.ro {B : Nat} {o : AO} {p : Place} (h : ORel B M n o p w) (hd : o.own = false) (hn : o ≠ .dead) : p.b < B := by
  cases o with
  | dead => exact absurd rfl hn
  | cells rw vs => cases rw <;> simp [AO.own] at hd; obtain ⟨c, e, fz, h1, h2, h3, h4⟩ := h; exact h4 rfl
  | map es clock => simp [AO.own] at hd
  | iter m since seen last => simp [AO.own] at hd
  | loop s pend ps assign body env => simp [AO.own] at hd

/-- How one world follows on another: the streams stay, no block goes. -/
structure Foll (w w' : World) : Prop where
  os : w'.os = w.os
  tape : w'.tape = w.tape
  output : w'.output = w.output
  size : w.heap.size ≤ w'.heap.size
theorem Foll.below {w w' : World} (h : Foll w w') {B : Nat} (hb : ∀ b, b < B → w'.heap[b]? = w.heap[b]?) : Below B w w' := ⟨h.os, h.tape, h.output, h.size, hb⟩
theorem Foll.refl (w : World) : Foll w w := ⟨rfl, rfl, rfl, Nat.le_refl _⟩
theorem SRel.base (hs : SRel w0 M st w) : w0.heap.size ≤ w.heap.size := hs.below.size

def Mput (M : Map) (i : Nat) (p : Place) : Map := fun j => if j = i then p else M j
theorem Mput_same (M : Map) (i : Nat) (p : Place) : Mput M i p i = p := by simp [Mput]
theorem Mput_lt (M : Map) (i : Nat) (p : Place) : ∀ j, j < i → Mput M i p j = M j := fun j hj => by simp [Mput]; omega

/-- One block turns, that of one object. -/
theorem SRel.upd (hs : SRel w0 M st w) {id : Nat} (hid : id < st.size) {o : AO} (ho : (st.get id).own = true) {w' : World} (hf : Foll w w')
    (hold : ∀ b, b < w.heap.size → b ≠ (M id).b → w'.heap[b]? = w.heap[b]?) (hrel : ORel w0.heap.size M st.size o (M id) w') : SRel w0 M (st.set id o) w' ∧ Ext M st w M (st.set id o) w' := by
  have hbase : w0.heap.size ≤ (M id).b := (hs.objs id hid).base ho
  refine ⟨⟨hs.below.trans (hf.below fun b hb => hold b (by have := hs.base; omega) (by omega)), fun j hj => ?_, fun i j hi hj h1 h2 e => ?_, fun i hi => Nat.lt_of_lt_of_le (hs.bnd i (by simpa using hi)) hf.size⟩, ⟨by simp, fun _ _ => rfl, hf.size, fun b hb hno => hold b hb (hno id hid |>.symm), fun i h h' => by simp at h'; omega⟩⟩
  · simp only [St.size_set] at hj ⊢
    by_cases e : id = j
    · subst e; rw [St.get_set_same hid]; exact hrel
    · rw [St.get_set_ne e]
      have := hs.objs j hj
      refine this.world fun hd => hold _ (this.bound hd) fun eb => ?_
      cases hown : (st.get j).own with
      | true => exact e (hs.inj id j hid hj ho hown eb.symm)
      | false => have := this.ro hown hd; omega
  · simp only [St.size_set] at hi hj
    refine hs.inj i j hi hj ?_ ?_ e
    · by_cases e1 : id = i
      · exact e1 ▸ ho
      · rwa [St.get_set_ne e1] at h1
    · by_cases e1 : id = j
      · exact e1 ▸ ho
      · rwa [St.get_set_ne e1] at h2

/-- An object is forgotten; its block may turn. -/
theorem SRel.kill (hs : SRel w0 M st w) {id : Nat} (hid : id < st.size) (ho : (st.get id).own = true) {w' : World} (hf : Foll w w')
    (hold : ∀ b, b < w.heap.size → b ≠ (M id).b → w'.heap[b]? = w.heap[b]?) : SRel w0 M (st.set id .dead) w' ∧ Ext M st w M (st.set id .dead) w' :=
  hs.upd hid ho hf hold trivial

/-- An object more. -/
theorem SRel.push (hs : SRel w0 M st w) (o : AO) (p : Place) {w' : World} (hf : Foll w w') (hold : ∀ b, b < w.heap.size → w'.heap[b]? = w.heap[b]?)
    (ho : ORel w0.heap.size (Mput M st.size p) (st.size + 1) o p w') (hnew : o.own = true → ∀ i, i < st.size → (st.get i).own = true → (M i).b ≠ p.b) (hpb : p.b < w'.heap.size) :
    SRel w0 (Mput M st.size p) (st.push o) w' := by
  have hM := Mput_lt M st.size p
  refine ⟨hs.below.trans (hf.below fun b hb => hold b (by have := hs.base; omega)), fun j hj => ?_, fun i j hi hj h1 h2 e => ?_, fun i hi => ?_⟩
  rotate_left 2
  · simp only [St.size_push] at hi
    by_cases e : i = st.size
    · subst e; rw [Mput_same]; exact hpb
    · rw [hM i (by omega)]; exact Nat.lt_of_lt_of_le (hs.bnd i (by omega)) hf.size
  · simp only [St.size_push] at hj ⊢
    by_cases e : j = st.size
    · subst e; rw [St.get_push_new, Mput_same]; exact ho
    · have hj' : j < st.size := by omega
      rw [St.get_push_old hj', hM j hj']
      have := hs.objs j hj'
      exact ((this.world fun hd => hold _ (this.bound hd))).mono (by omega) hM
  · simp only [St.size_push] at hi hj
    by_cases ei : i = st.size <;> by_cases ej : j = st.size
    · omega
    · have hj' : j < st.size := by omega
      subst ei
      rw [St.get_push_new] at h1
      rw [St.get_push_old hj'] at h2
      rw [Mput_same, hM j hj'] at e
      exact absurd e.symm (hnew h1 j hj' h2)
    · have hi' : i < st.size := by omega
      subst ej
      rw [St.get_push_new] at h2
      rw [St.get_push_old hi'] at h1
      rw [Mput_same, hM i hi'] at e
      exact absurd e (hnew h2 i hi' h1)
    · have hi' : i < st.size := by omega
      have hj' : j < st.size := by omega
      rw [St.get_push_old hi'] at h1
      rw [St.get_push_old hj'] at h2
      rw [hM i hi', hM j hj'] at e
      exact hs.inj i j hi' hj' h1 h2 e
theorem Ext.push {w' : World} (o : AO) (p : Place) (hf : Foll w w') (hold : ∀ b, b < w.heap.size → w'.heap[b]? = w.heap[b]?) (hp : w.heap.size ≤ p.b ∨ ∃ j, j < st.size ∧ p.b = (M j).b) :
    Ext M st w (Mput M st.size p) (st.push o) w' := by
  refine ⟨by simp, Mput_lt M st.size p, hf.size, fun b hb _ => hold b hb, fun i hi hi' => ?_⟩
  simp at hi'
  obtain rfl : i = st.size := by omega
  rw [Mput_same]; exact hp

/-- A new block bears a new object. -/
theorem SRel.fresh (hs : SRel w0 M st w) (o : AO) (sz : Nat) {x : Obj} {w' : World} (hw : w'.heap = w.heap.push x) (hf : Foll w w')
    (ho : ORel w0.heap.size (Mput M st.size ⟨w.heap.size, 0, sz⟩) (st.size + 1) o ⟨w.heap.size, 0, sz⟩ w') :
    SRel w0 (Mput M st.size ⟨w.heap.size, 0, sz⟩) (st.push o) w' ∧ Ext M st w (Mput M st.size ⟨w.heap.size, 0, sz⟩) (st.push o) w' := by
  have hold : ∀ b, b < w.heap.size → w'.heap[b]? = w.heap[b]? := fun b hb => by rw [hw, Array.getElem?_push, if_neg (by omega)]
  refine ⟨hs.push o _ hf hold ho (fun _ i hi hown e => ?_) (by simp [hw]), Ext.push o _ hf hold (.inl (Nat.le_refl _))⟩
  have hd : st.get i ≠ .dead := fun h => by rw [h] at hown; simp [AO.own] at hown
  have := (hs.objs i hi).bound hd
  simp at e
  omega
theorem SRel.fresh_cells (hs : SRel w0 M st w) {vs : List AV} {c : Array Value} {e : TypeId} {fz : Nat × Nat} {w' : World} (hw : w'.heap = w.heap.push (.cells c e fz)) (hf : Foll w w')
    (hv : ∀ (i : Nat) (x : AV), vs[i]? = some x → ∃ y, c[i]? = some y ∧ VR M st.size x y) (hz : fz.1 = fz.2 ∨ c.size ≤ fz.1) :
    SRel w0 (Mput M st.size ⟨w.heap.size, 0, c.size⟩) (st.push (.cells true vs)) w' ∧ Ext M st w (Mput M st.size ⟨w.heap.size, 0, c.size⟩) (st.push (.cells true vs)) w' := by
  refine hs.fresh _ _ hw hf ⟨c, e, fz, by rw [hw]; simp, fun i x hx => ?_, fun _ => ⟨hs.base, rfl, hz⟩, fun h => by cases h⟩
  obtain ⟨y, hy, hr⟩ := hv i x hx
  exact ⟨y, by simpa using hy, hr.mono (by omega) (Mput_lt M st.size _)⟩
theorem VRs.at {a : List AV} {c : Array Value} (h : VRs M n a c.toList) : ∀ (i : Nat) (x : AV), a[i]? = some x → ∃ y, c[i]? = some y ∧ VR M n x y := fun i x hx => by
  obtain ⟨y, hy, hr⟩ := h.get hx
  exact ⟨y, by simpa using hy, hr⟩
theorem World.foll_alloc (w : World) (o : Obj) : Foll w (w.alloc o) := ⟨rfl, rfl, rfl, by simp⟩
theorem Foll.trans {a b c : World} (h : Foll a b) (k : Foll b c) : Foll a c := ⟨k.os.trans h.os, k.tape.trans h.tape, k.output.trans h.output, Nat.le_trans h.size k.size⟩

/-- Storing a row of cells into an object's. -/
theorem store_cells (hs : SRel w0 M st w) {id : Nat} {vs : List AV} (hid : id < st.size) (ho : st.get id = .cells true vs) {off : Nat} {new : List AV} {new' : List Value} (hn : VRs M st.size new new')
    (hone : new.all AV.one = true) (hle : off + new.length ≤ vs.length) :
    ∃ w', (storeCells ⟨(M id).b, (M id).sh + off, none⟩ new').run P w = .ok () w' ∧ SRel w0 M (st.set id (.cells true (splice vs off new))) w' ∧ Ext M st w M (st.set id (.cells true (splice vs off new))) w' := by
  obtain ⟨c, e, fz, hb, hc, hrw, _⟩ := hs.cells hid ho
  obtain ⟨hbase, hsz, hfz⟩ := hrw rfl
  have hlen := VRs.length hn
  have hin : ∀ j, j < new'.length → (M id).sh + off + j < c.size := by
    intro j hj
    obtain ⟨y, hy, _⟩ := hc (off + j) _ (List.getElem?_eq_getElem (by omega))
    have := (Array.getElem?_eq_some_iff.1 hy).1
    omega
  have hrun := run_storeCells_cells (P := P) (M id).b ((M id).sh + off) new' 0 w (fun j hj => by
      rw [Nat.add_zero, cell_of hb]; simp [hin j hj]) (fun j hj => by
      rw [Nat.add_zero, frozen_of hb]; exact nofz hfz (hin j hj)) (hn.one hone)
  rw [Nat.add_zero] at hrun
  refine ⟨_, hrun, ?_⟩
  have key : ∀ (l : List Value) (o : Nat) (w : World) (c : Array Value), w.heap[(M id).b]? = some (.cells c e fz) → Foll w (w.setCells (M id).b o l) ∧
      (∀ b, b ≠ (M id).b → (w.setCells (M id).b o l).heap[b]? = w.heap[b]?) ∧ ∃ c', (w.setCells (M id).b o l).heap[(M id).b]? = some (.cells c' e fz) ∧ c'.size = c.size ∧
        ∀ i, c'[i]? = if o ≤ i ∧ i < o + l.length ∧ i < c.size then l[i - o]? else c[i]? := by
    intro l
    induction l with
    | nil =>
      intro o w c h
      exact ⟨Foll.refl w, fun _ _ => rfl, c, h, rfl, fun i => by rw [if_neg (by simp; omega)]⟩
    | cons v l ih =>
      intro o w c h
      have h1 : (w.setCell ⟨(M id).b, o, none⟩ v).heap[(M id).b]? = some (.cells (c.setIfInBounds o v) e fz) := by
        simp [World.setCell, Array.getElem?_modify, h]
      obtain ⟨f1, f2, c', f3, f4, f5⟩ := ih (o + 1) (w.setCell ⟨(M id).b, o, none⟩ v) _ h1
      simp only [World.setCells]
      have f0 : Foll w (w.setCell ⟨(M id).b, o, none⟩ v) := ⟨rfl, rfl, rfl, by simp⟩
      refine ⟨f0.trans f1, fun b hb => (f2 b hb).trans (Go.RowKit.Below.heap_setCell _ _ _ _ hb), c', f3, by simp [f4], fun i => ?_⟩
      rw [f5 i]
      simp only [Array.size_setIfInBounds, List.length_cons]
      by_cases hi : i = o
      · subst hi
        rw [if_neg (by omega)]
        by_cases hlt : i < c.size
        · rw [if_pos ⟨Nat.le_refl _, by omega, hlt⟩]; simp [hlt]
        · rw [if_neg (by omega)]; simp [hlt]
      · rw [Array.getElem?_setIfInBounds_ne (Ne.symm hi)]
        by_cases hc' : o + 1 ≤ i ∧ i < o + 1 + l.length ∧ i < c.size
        · rw [if_pos hc', if_pos (by omega), show i - o = (i - (o + 1)) + 1 by omega, List.getElem?_cons_succ]
        · rw [if_neg hc', if_neg (by omega)]
  obtain ⟨hf, hother, c', hb', hsz', hget⟩ := key new' ((M id).sh + off) w c hb
  refine hs.upd hid (by rw [ho]; rfl) hf (fun b _ hne => hother b hne) ⟨c', e, fz, hb', fun i x hx => ?_, fun _ => ⟨hbase, by rw [hsz']; exact hsz, by rw [hsz']; exact hfz⟩, fun h => by cases h⟩
  rw [hget]
  unfold splice at hx
  rw [List.getElem?_append] at hx
  simp only [List.length_take, Nat.min_eq_left (show off ≤ vs.length by omega)] at hx
  split at hx
  · rename_i hlt
    rw [if_neg (by omega)]
    rw [List.getElem?_take, if_pos hlt] at hx
    exact hc i x hx
  · rename_i hge
    rw [List.getElem?_append] at hx
    split at hx
    · rename_i hlt
      obtain ⟨y, hy, hv⟩ := hn.get hx
      have hlt2 := hin (i - off) (by omega)
      rw [if_pos (by omega)]
      exact ⟨y, by rw [← hy]; congr 1; omega, hv⟩
    · rename_i hge2
      rw [if_neg (by omega)]
      rw [List.getElem?_drop] at hx
      have := hc _ x hx
      rwa [show (M id).sh + (off + new.length + (i - off - new.length)) = (M id).sh + i by omega] at this
end Go.Ab
