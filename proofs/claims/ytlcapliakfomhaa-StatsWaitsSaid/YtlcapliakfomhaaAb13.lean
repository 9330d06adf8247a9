/- THE ABSTRACT EVALUATOR, 13: append, copy, texts turned to bytes. -/
import Derived.Test.YtlcapliakfomhaaAb12
namespace Go.Ab
open Go.RowKit (Below)
variable {P : Program} {M : Map} {n : Nat} {st : St} {w0 w : World}

theorem setCells_block {b : Nat} {e : TypeId} {fz : Nat × Nat} : ∀ (l : List Value) (o : Nat) (w : World) (c : Array Value), w.heap[b]? = some (.cells c e fz) → Foll w (w.setCells b o l) ∧ (w.setCells b o l).heap.size = w.heap.size ∧
    (∀ b', b' ≠ b → (w.setCells b o l).heap[b']? = w.heap[b']?) ∧ ∃ c', (w.setCells b o l).heap[b]? = some (.cells c' e fz) ∧ c'.size = c.size ∧
      ∀ i, c'[i]? = if o ≤ i ∧ i < o + l.length ∧ i < c.size then l[i - o]? else c[i]? := by
  intro l
  induction l with
  | nil =>
    intro o w c h
    exact ⟨Foll.refl w, rfl, fun _ _ => rfl, c, h, rfl, fun i => by rw [if_neg (by simp; omega)]⟩
  | cons v l ih =>
    intro o w c h
    have h1 : (w.setCell ⟨b, o, none⟩ v).heap[b]? = some (.cells (c.setIfInBounds o v) e fz) := by
      simp [World.setCell, Array.getElem?_modify, h]
    obtain ⟨f1, fs, f2, c', f3, f4, f5⟩ := ih (o + 1) (w.setCell ⟨b, o, none⟩ v) _ h1
    simp only [World.setCells]
    have f0 : Foll w (w.setCell ⟨b, o, none⟩ v) := ⟨rfl, rfl, rfl, by simp⟩
    refine ⟨f0.trans f1, by rw [fs]; simp, fun b' hb => (f2 b' hb).trans (Go.RowKit.Below.heap_setCell _ _ _ _ hb), c', f3, by simp [f4], fun i => ?_⟩
    rw [f5 i]
    simp only [Array.size_setIfInBounds, List.length_cons]
    by_cases hi : i = o
    · subst hi
      rw [if_neg (by omega)]
      by_cases hlt : i < c.size
      · rw [if_pos ⟨Nat.le_refl _, by omega, hlt⟩]; simp [hlt]
      · rw [if_neg (by omega)]; simp [hlt]
    · rw [Array.getElem?_setIfInBounds_ne (Ne.symm hi)]
      by_cases hc' : o + 1 ≤ i ∧ i < o + 1 + l.length ∧ i < c.size
      · rw [if_pos hc', if_pos (by omega), show i - o = (i - (o + 1)) + 1 by omega, List.getElem?_cons_succ]
      · rw [if_neg hc', if_neg (by omega)]

theorem VRs_bytes (l : List UInt8) : VRs M n (byteCells l) (l.map fun b => Value.int .u8 b.toNat) := VRs.map_of fun _ _ => VR_int
theorem byteCells_one (l : List UInt8) : (byteCells l).all AV.one = true := by simp [byteCells, AV.one]

/-- What is appended, or copied: its length and its cells, in whatever world of this heap. -/
theorem newOf_sound {s m : Nat} {y : AV} {v : Value} {new : List AV} (h : newOf s y st = some (m, new)) (hs : SRel w0 M st w) (hv : VR M st.size y v) :
    (Builtin.lenOf v).run P w = .ok m w ∧ ∀ k, k ≤ m → new.length = m * s → ∃ new' : Array Value, VRs M st.size (new.take (k * s)) new'.toList ∧ ∀ w1 : World, w1.heap = w.heap → (Builtin.firstCells s k v).run P w1 = .ok new' w1 := by
  have cellEq : ∀ (w1 : World) (a : Addr), w1.heap = w.heap → w1.cell? a = w.cell? a := fun w1 a e => by simp [World.cell?, e]
  unfold newOf at h
  split at h
  · rename_i b
    simp only [VR] at hv; subst hv
    split at h
    · rename_i h1
      obtain ⟨rfl, rfl⟩ := Prod.mk.inj (Option.some.inj h)
      subst h1
      refine ⟨by simp [Builtin.lenOf], fun k hk _ => ⟨(b.extract 0 k).data.map fun x => .int .u8 x.toNat, ?_, fun w1 _ => by simp [Builtin.firstCells]⟩⟩
      have : (byteCells b.data.toList).take (k * 1) = byteCells ((b.extract 0 k).data.toList) := by
        simp [byteCells, List.map_take, List.extract_eq_take_drop]
      rw [this, Array.toList_map]
      exact VRs_bytes _
    · cases h
  · rename_i id off len cap k
    obtain ⟨l, hl, he⟩ := Option.map_eq_some_iff.1 h
    obtain ⟨rfl, rfl⟩ := Prod.mk.inj he
    obtain ⟨ao, len', c, rfl, hcase⟩ := slCells_sound hl hs hv
    have hlen : len' = len := by
      simp only [VR] at hv
      obtain ⟨_, c', e, _⟩ := hv
      exact (Value.slice.inj e).2.1
    subst hlen
    refine ⟨by simp [Builtin.lenOf], fun k hk hnl => ?_⟩
    rcases hcase with ⟨rfl, rfl, rfl⟩ | ⟨ad, vs, rfl, hvl, hvr, hcell⟩
    · exact ⟨#[], by simp [VRs], fun w1 _ => by simp [Builtin.firstCells]⟩
    · refine ⟨(vs.take (k * s)).toArray, by simpa using hvr.take (k * s), fun w1 e => ?_⟩
      have hkl : (vs.take (k * s)).length = k * s := by
        rw [List.length_take, hvl, Nat.min_eq_left]; exact Nat.mul_le_mul_right s hk
      have := run_loadCells_list (P := P) w1 ad (vs.take (k * s)) (fun j u hj => by
        rw [cellEq w1 _ e]
        rw [List.getElem?_take] at hj
        split at hj
        · exact hcell j u hj
        · cases hj)
      rw [hkl] at this
      simpa [Builtin.firstCells] using this
  · obtain ⟨rfl, rfl⟩ := Prod.mk.inj (Option.some.inj h)
    simp only [VR] at hv; subst hv
    exact ⟨by simp [Builtin.lenOf], fun k _ _ => ⟨#[], by simp [VRs], fun w1 _ => by simp [Builtin.firstCells]⟩⟩
  · obtain ⟨rfl, rfl⟩ := Prod.mk.inj (Option.some.inj h)
    simp only [VR] at hv
    obtain ⟨_, _, o, c, rfl, _⟩ := hv
    refine ⟨by simp [Builtin.lenOf], fun k hk _ => ⟨#[], by simp [VRs], fun w1 _ => ?_⟩⟩
    obtain rfl : k = 0 := by omega
    simp [Builtin.firstCells, loadCells, loadCellsFrom]
  · obtain ⟨rfl, rfl⟩ := Prod.mk.inj (Option.some.inj h)
    simp only [VR] at hv
    obtain ⟨_, rfl⟩ := hv
    refine ⟨by simp [Builtin.lenOf], fun k hk _ => ⟨#[], by simp [VRs], fun w1 _ => ?_⟩⟩
    obtain rfl : k = 0 := by omega
    simp [Builtin.firstCells, loadCells, loadCellsFrom]
  · cases h

theorem growBy_le (need : Nat) : ∀ (r c : Nat), c ≤ 2 * need + 768 → Builtin.growBy need r c ≤ 2 * need + 768
  | 0, c, h => by simpa [Builtin.growBy] using h
  | r + 1, c, h => by
    unfold Builtin.growBy
    split
    · exact h
    · exact growBy_le need r _ (by omega)
theorem nextslicecap_le {need old : Nat} (h : old < need) : Builtin.nextslicecap need old ≤ 2 * need + 768 := by
  unfold Builtin.nextslicecap
  split
  · omega
  · split
    · omega
    · exact growBy_le need 4 old (by omega)

/-- append where there is room. -/
theorem run_append_in (hts : List TypeId) {t u e : TypeId} {d : TypeDesc} (ht : P.underlying t = some (.slice e)) (hu : P.underlying u = some d) (hd : ∀ k, d ≠ .int k) (ty : TypeId) {s m : Nat} (hs : tySize P e = some s)
    {base : Option Addr} {len cap : Nat} {vy : Value} (hl : (Builtin.lenOf vy).run P w = .ok m w) (hroom : len + m ≤ cap) {new : Array Value} (hn : (Builtin.firstCells s m vy).run P w = .ok new w) {w' : World}
    (hst : ∀ a, base = some a → (storeCells (a.add (len * s)) new.toList).run P w = .ok () w') (hno : base = none → w' = w) :
    (Builtin.append_ (t :: u :: hts).toArray ty #[.slice base len cap, vy]).run P w = .ok (.slice base (len + m) cap) w' := by
  cases base with
  | none =>
    obtain rfl := hno rfl
    simp [Builtin.append_, run_underlying ht, run_underlying hu, run_sizeOf hs, hl, hroom, hn]
  | some a => simp [Builtin.append_, run_underlying ht, run_underlying hu, run_sizeOf hs, hl, hroom, hn, hst a rfl]
/-- append where there is none. -/
theorem run_append_new (hts : List TypeId) {t u e : TypeId} {d : TypeDesc} (ht : P.underlying t = some (.slice e)) (hu : P.underlying u = some d) (hd : ∀ k, d ≠ .int k) (ty : TypeId) {s b m : Nat} (hs : tySize P e = some s) (hb : tyBytes P e = some b)
    {z : List AV} (hz0 : tyZero P e = some z) {base : Option Addr} {len cap : Nat} {vy : Value} (hl : (Builtin.lenOf vy).run P w = .ok m w) (hroom : cap < len + m) (hneed : len + m ≤ 4294967296) (hbb : b ≤ 4096) {old new : Array Value}
    (ho : ∀ w1 : World, w1.heap = w.heap → (Builtin.firstCells s len (.slice base len cap)).run P w1 = .ok old w1) (hn : ∀ w1 : World, w1.heap = w.heap → (Builtin.firstCells s m vy).run P w1 = .ok new w1) :
    ∃ newCap rest, len + m ≤ newCap ∧ (rest.size = (newCap - (len + m)) * s ∨ rest.size ≠ (newCap - (len + m)) * s) ∧
      (∀ zv, (zeroValue e).run P w = .ok zv w → rest = Builtin.zeroCells zv.cells (newCap - (len + m))) ∧
      (Builtin.append_ (t :: u :: hts).toArray ty #[.slice base len cap, vy]).run P w = .ok (.slice (some ⟨w.heap.size, 0, none⟩) (len + m) newCap) (w.drew.alloc (.cells (old ++ new ++ rest) e)) := by
  obtain ⟨i, hi, hib⟩ := run_bytesOf hb w
  have hzv : ∃ zv, ∀ w : World, (zeroValue e).run P w = .ok zv w := by
    unfold tyZero at hz0
    obtain ⟨v, hv, _⟩ := Option.map_eq_some_iff.1 hz0
    obtain ⟨j, hj, hjz⟩ := Option.bind_eq_some_iff.1 hv
    exact ⟨v, fun w => by simp [zeroValue, typeInfo, hj, hjz]⟩
  obtain ⟨zv, hzv⟩ := hzv
  have hti : ∀ w : World, (typeInfo e).run P w = .ok i w := by
    unfold tyBytes at hb
    obtain ⟨j, hj, _⟩ := Option.map_eq_some_iff.1 hb
    have : (typeInfo e).run P w = .ok j w := by simp [typeInfo, hj]
    rw [hi] at this
    injection this with h1 _
    intro w; simp [typeInfo, hj, h1]
  have h48 : ¬ (Builtin.nextslicecap (len + m) cap * i.bytes > 2 ^ 48) := by
    have h1 := nextslicecap_le hroom
    have h2 : Builtin.nextslicecap (len + m) cap * i.bytes ≤ (2 * 4294967296 + 768) * 4096 := Nat.mul_le_mul (by omega) (by omega)
    omega
  have h63 : ¬ (((len + m : Nat) : Int) > IntKind.i64.max ∧ (False ∨ i.bytes = 0)) := by rw [IntKind.max_i64]; omega
  let q : Question := .appendCap (len + m) cap e
  let newCap := q.cut (w.tape w.drawn q)
  have hcap : len + m ≤ newCap := by simp [newCap, q, Question.cut]
  refine ⟨newCap, Builtin.zeroCells zv.cells (newCap - (len + m)), hcap, Decidable.em _, fun zv' h => ?_, ?_⟩
  · rw [hzv w] at h; injection h with h1 _; rw [h1]
  · have ho' := ho w.drew rfl
    have hn' := hn w.drew rfl
    have hf : q.forced = false := rfl
    have hroom' : ¬ (len + m ≤ cap) := by omega
    simp [Builtin.append_, run_underlying ht, run_underlying hu, run_sizeOf hs, hl, hroom', hti, hzv, newRow]
    rw [if_neg (by omega), if_neg (by omega)]
    have hforced : (Question.appendCap (len + m) cap e).forced = false := rfl
    simp only [hforced, Bool.false_eq_true, if_false, ho', hn', Result.andThen_ok]
    rfl

theorem alias_sound (hs : SRel w0 M st w) {id : Nat} {vs : List AV} (hid : id < st.size) (ho : st.get id = .cells true vs) {off k len c m : Nat} {new : List AV} {new' : List Value} (hbound : (M id).sh + off + c * k ≤ (M id).sz)
    (hroom : len + m ≤ c) (hvs : off + len * k ≤ vs.length) (hnl : new.length = m * k) (hn : VRs M st.size new new') (hone : new.all AV.one = true) :
    ∃ w', (storeCells ((⟨(M id).b, (M id).sh + off, none⟩ : Addr).add (len * k)) new').run P w = .ok () w' ∧
      let M' := Mput M st.size ⟨(M id).b, (M id).sh + off, (M id).sz⟩
      let st' := (st.set id .dead).push (.cells true ((vs.drop off).take (len * k) ++ new))
      SRel w0 M' st' w' ∧ Ext M st w M' st' w' := by
  obtain ⟨c0, e, fz, hb, hc, hrw, _⟩ := hs.cells hid ho
  obtain ⟨hbase, hsz, hfz⟩ := hrw rfl
  have hlen := VRs.length hn
  have hmul : len * k + m * k ≤ c * k := by rw [← Nat.add_mul]; exact Nat.mul_le_mul_right k hroom
  have hin : ∀ j, j < new'.length → (M id).sh + off + len * k + j < c0.size := by intro j hj; omega
  have hrun := run_storeCells_cells (P := P) (M id).b ((M id).sh + off + len * k) new' 0 w (fun j hj => by
      rw [Nat.add_zero, cell_of hb]; simp [hin j hj]) (fun j hj => by
      rw [Nat.add_zero, frozen_of hb]; exact nofz hfz (hin j hj)) (hn.one hone)
  rw [Nat.add_zero] at hrun
  obtain ⟨hf, hsize, hother, c', hb', hsz', hget⟩ := setCells_block new' ((M id).sh + off + len * k) w c0 hb
  refine ⟨_, by rw [Addr.add_lit]; exact hrun, ?_⟩
  have hown : (st.get id).own = true := by rw [ho]; rfl
  obtain ⟨h1, h2⟩ := hs.kill hid hown hf (fun b _ hne => hother b hne)
  have hold : ∀ b, b < (w.setCells (M id).b ((M id).sh + off + len * k) new').heap.size → (w.setCells (M id).b ((M id).sh + off + len * k) new').heap[b]? = (w.setCells (M id).b ((M id).sh + off + len * k) new').heap[b]? := fun _ _ => rfl
  have hpush := h1.push (o := .cells true ((vs.drop off).take (len * k) ++ new)) ⟨(M id).b, (M id).sh + off, (M id).sz⟩ (Foll.refl _) hold ?_ ?_ (h1.bnd id (by simpa using hid))
  · refine ⟨by simpa using hpush, ?_⟩
    have := h2.trans (Ext.push (st := st.set id .dead) (M := M) (.cells true ((vs.drop off).take (len * k) ++ new)) ⟨(M id).b, (M id).sh + off, (M id).sz⟩ (Foll.refl _) hold (.inr ⟨id, by simpa using hid, rfl⟩))
    simpa using this
  · refine ⟨c', e, fz, hb', fun i x hx => ?_, fun _ => ⟨hbase, by rw [hsz']; exact hsz, by rw [hsz']; exact hfz⟩, fun h => by cases h⟩
    simp only [St.size_set]
    rw [hget]
    have hl1 : ((vs.drop off).take (len * k)).length = len * k := by simp; omega
    rw [List.getElem?_append, hl1] at hx
    split at hx
    · rename_i hlt
      rw [if_neg (by omega)]
      rw [List.getElem?_take, if_pos hlt, List.getElem?_drop] at hx
      obtain ⟨y, hy, hv⟩ := hc _ x hx
      exact ⟨y, by rw [← hy]; congr 1; omega, hv.mono (by omega) (Mput_lt _ _ _)⟩
    · rename_i hge
      obtain ⟨y, hy, hv⟩ := hn.get hx
      have : i - len * k < new'.length := (List.getElem?_eq_some_iff.1 hy).1
      have := hin (i - len * k) this
      rw [if_pos (by omega)]
      exact ⟨y, by rw [← hy]; congr 1; omega, hv.mono (by omega) (Mput_lt _ _ _)⟩
  · intro _ i hi hio e
    simp only [St.size_set] at hi
    by_cases ei : id = i
    · subst ei; rw [St.get_set_same hid] at hio; simp [AO.own] at hio
    · rw [St.get_set_ne ei] at hio
      exact ei (hs.inj id i hid hi hown hio e.symm)
end Go.Ab
