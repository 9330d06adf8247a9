/- THE ABSTRACT EVALUATOR, 4: each operation that changes nothing does in the model what the evaluator says. -/
import Derived.Test.YtlcapliakfomhaaAb3
import Derived.Laws.StructEq
import Derived.Laws.BytesString
namespace Go.Ab
open Go.RowKit (Below)
variable {P : Program} {M : Map} {n : Nat} {st : St} {w0 w : World}

theorem run_sizeOf {t : TypeId} {s : Nat} (h : tySize P t = some s) (w : World) : (sizeOf t).run P w = .ok s w := by
  unfold tySize at h
  obtain ⟨i, hi, rfl⟩ := Option.map_eq_some_iff.1 h
  simp [sizeOf, typeInfo, hi]
theorem run_bytesOf {t : TypeId} {s : Nat} (h : tyBytes P t = some s) (w : World) : ∃ i, (typeInfo t).run P w = .ok i w ∧ i.bytes = s := by
  unfold tyBytes at h
  obtain ⟨i, hi, rfl⟩ := Option.map_eq_some_iff.1 h
  exact ⟨i, by simp [typeInfo, hi], rfl⟩
theorem run_isAgg {t : TypeId} {b : Bool} (h : tyAgg P t = some b) (w : World) : (isAgg t).run P w = .ok b w := by
  unfold tyAgg at h
  obtain ⟨d, hd, he⟩ := Option.map_eq_some_iff.1 h
  simp only [isAgg, Sem.run_bind, run_underlying hd, Result.andThen_ok]
  cases d <;> simp_all
theorem run_zero {t : TypeId} {z : List AV} (h : tyZero P t = some z) (w : World) : ∃ v, (zeroValue t).run P w = .ok v w ∧ (ofVal v).cells = z := by
  unfold tyZero at h
  obtain ⟨v, hv, rfl⟩ := Option.map_eq_some_iff.1 h
  obtain ⟨i, hi, hz⟩ := Option.bind_eq_some_iff.1 hv
  exact ⟨v, by simp [zeroValue, typeInfo, hi, hz], rfl⟩

theorem getElem?_toList {α : Type} (a : Array α) (i : Nat) : a.toList[i]? = a[i]? := by simp

theorem part_sound {t : TypeId} {cs : List AV} {cs' : Array Value} {off : Nat} {x : AV} (h : partA P t cs off = some x) (hr : VRs M n cs cs'.toList) (w : World) :
    ∃ v, (part t cs' off).run P w = .ok v w ∧ VR M n x v := by
  unfold partA at h
  split at h
  · rename_i s ha hs
    split at h
    · rename_i hle
      obtain rfl := Option.some.inj h
      refine ⟨.agg (cs'.extract off (off + s)), by simp [part, run_isAgg ha, run_sizeOf hs], ?_⟩
      simp only [VR]
      refine ⟨_, rfl, ?_⟩
      have := (hr.drop off).take s
      simpa [List.take_drop, Array.toList_extract, List.extract_eq_take_drop, Nat.add_comm] using this
    · cases h
  · rename_i ha
    obtain ⟨y, hy, hv⟩ := hr.get h
    rw [getElem?_toList] at hy
    refine ⟨y, ?_, hv⟩
    simp [part, run_isAgg ha, hy]
  · cases h

theorem cell_of {b : Nat} {c : Array Value} {e : TypeId} {fz : Nat × Nat} (h : w.heap[b]? = some (.cells c e fz)) (o : Nat) : w.cell? ⟨b, o, none⟩ = c[o]? := by
  simp [World.cell?, h]
theorem frozen_of {b : Nat} {c : Array Value} {e : TypeId} {fz : Nat × Nat} (h : w.heap[b]? = some (.cells c e fz)) (o : Nat) :
    w.frozen? ⟨b, o, none⟩ = (decide (fz.1 ≤ o) && decide (o < fz.2)) := by
  simp [World.frozen?, h]

theorem SRel.cells (h : SRel w0 M st w) {id : Nat} {rw : Bool} {vs : List AV} (hid : id < st.size) (ho : st.get id = .cells rw vs) :
    ∃ c e fz, w.heap[(M id).b]? = some (.cells c e fz) ∧ (∀ (i : Nat) (x : AV), vs[i]? = some x → ∃ y, c[(M id).sh + i]? = some y ∧ VR M st.size x y) ∧
      (rw = true → w0.heap.size ≤ (M id).b ∧ (M id).sz = c.size ∧ (fz.1 = fz.2 ∨ c.size ≤ fz.1)) ∧ (rw = false → (M id).b < w0.heap.size) := by
  have := h.objs id hid
  rw [ho] at this
  exact this

/-- The values that lie in a row of an object's cells. -/
theorem row_vals {vs : List AV} {c : Array Value} {sh : Nat} (h : ∀ (i : Nat) (x : AV), vs[i]? = some x → ∃ y, c[sh + i]? = some y ∧ VR M n x y) (off k : Nat) (hk : off + k ≤ vs.length) :
    ∃ l : List Value, l.length = k ∧ VRs M n ((vs.drop off).take k) l ∧ ∀ (j : Nat) (v : Value), l[j]? = some v → c[sh + off + j]? = some v := by
  have hlen : ((c.toList.drop (sh + off)).take k).length = k := by
    by_cases hz : k = 0
    · subst hz; simp
    · obtain ⟨y, hy, _⟩ := h (off + k - 1) _ (List.getElem?_eq_getElem (by omega))
      have := (Array.getElem?_eq_some_iff.1 hy).1
      simp; omega
  refine ⟨(c.toList.drop (sh + off)).take k, hlen, ?_, ?_⟩
  · rw [VRs_iff]
    refine ⟨by rw [hlen]; simp; omega, fun i x hx => ?_⟩
    rw [List.getElem?_take] at hx ⊢
    split at hx
    · rename_i hi
      rw [if_pos hi]
      rw [List.getElem?_drop] at hx ⊢
      obtain ⟨y, hy, hv⟩ := h (off + i) x hx
      exact ⟨y, by rw [getElem?_toList]; rw [← hy]; congr 1; omega, hv⟩
    · cases hx
  · intro j v hj
    rw [List.getElem?_take] at hj
    split at hj
    · rw [List.getElem?_drop] at hj; simpa [Nat.add_assoc] using hj
    · cases hj

theorem load_sound {t : TypeId} {a x : AV} {v : Value} (h : ldT P t a st = some x) (hs : SRel w0 M st w) (hv : VR M st.size a v) :
    ∃ y, (Instr.loadAt t v).run P w = .ok y w ∧ VR M st.size x y := by
  unfold ldT at h
  split at h
  · rename_i id off
    simp only [VR] at hv
    obtain ⟨hid, rfl⟩ := hv
    split at h
    · rename_i rw vs ho
      obtain ⟨c, e, fz, hb, hc, _, _⟩ := hs.cells hid ho
      unfold partA at h
      split at h
      · rename_i s ha hsz
        split at h
        · rename_i hle
          obtain rfl := Option.some.inj h
          obtain ⟨l, hl, hvr, hcell⟩ := row_vals hc off s hle
          have hld := run_loadCells_list (P := P) w ⟨(M id).b, (M id).sh + off, none⟩ l (fun j u hj => by
            rw [Addr.add_lit, cell_of hb]; exact hcell j u hj)
          rw [hl] at hld
          refine ⟨.agg l.toArray, by simp [Instr.loadAt, Instr.sureAddr, loadVar, run_isAgg ha, run_sizeOf hsz, hld], ?_⟩
          simp only [VR]
          exact ⟨_, rfl, by simpa using hvr⟩
        · cases h
      · rename_i ha
        obtain ⟨y, hy, hv⟩ := hc _ _ h
        refine ⟨y, ?_, hv⟩
        simp [Instr.loadAt, Instr.sureAddr, loadVar, run_isAgg ha, cell_of hb, hy]
      · cases h
    · cases h
  · cases h

theorem fieldAddr_sound {t : TypeId} {a x : AV} {v : Value} {f : Nat} (h : fieldAddrA P t a f = some x) (hv : VR M n a v) (w : World) :
    ∃ y, (Instr.fieldAt t v f).run P w = .ok y w ∧ VR M n x y := by
  unfold fieldAddrA at h
  split at h
  · rename_i fs id off hu
    simp only [VR] at hv
    obtain ⟨hid, rfl⟩ := hv
    split at h
    · rename_i fd hf
      split at h
      · rename_i s hs
        obtain rfl := Option.some.inj h
        refine ⟨.pointer (some ⟨(M id).b, (M id).sh + (off + fd.offset), none⟩), ?_, by simp [VR, hid]⟩
        simp [Instr.fieldAt, run_underlying hu, hf, Instr.sureAddr, fieldPlace, run_sizeOf hs, Addr.add_lit, Nat.add_assoc]
      · cases h
    · cases h
  · cases h

theorem indexAddr_sound {t : TypeId} {a i x : AV} {v iv : Value} (h : indexAddrA P t a i = some x) (hv : VR M n a v) (hi : VR M n i iv) (w : World) :
    ∃ y, (Instr.indexAt t v iv).run P w = .ok y w ∧ VR M n x y := by
  unfold indexAddrA at h
  split at h
  · rename_i len e id off k i hu
    simp only [VR] at hv hi
    obtain ⟨hid, rfl⟩ := hv
    subst hi
    split at h
    · rename_i s hs
      split at h
      · rename_i hlt
        obtain rfl := Option.some.inj h
        refine ⟨.pointer (some ⟨(M id).b, (M id).sh + (off + i.toNat * s), none⟩), ?_, by simp [VR, hid]⟩
        simp [Instr.indexAt, run_underlying hu, Instr.sureAddr, asIntOf, hlt.1, hlt.2, run_sizeOf hs, Addr.add_lit, Nat.add_assoc]
      · cases h
    · cases h
  · rename_i e id off len cap k' k i hu
    simp only [VR] at hv hi
    obtain ⟨hid, c, rfl, _⟩ := hv
    subst hi
    split at h
    · rename_i s hs
      split at h
      · rename_i hlt
        obtain rfl := Option.some.inj h
        refine ⟨.pointer (some ⟨(M id).b, (M id).sh + (off + i.toNat * s), none⟩), ?_, by simp [VR, hid]⟩
        simp [Instr.indexAt, run_underlying hu, asIntOf, hlt.1, hlt.2, run_sizeOf hs, Addr.add_lit, Nat.add_assoc]
      · cases h
    · cases h
  · cases h

theorem field_sound {t : TypeId} {a x : AV} {v : Value} {f : Nat} (h : fieldA P t a f = some x) (hv : VR M n a v) (w : World) :
    ∃ y, (Instr.field t v f).run P w = .ok y w ∧ VR M n x y := by
  unfold fieldA at h
  split at h
  · rename_i fs cs hu
    simp only [VR] at hv
    obtain ⟨cs', rfl, hcs⟩ := hv
    split at h
    · rename_i fd hf
      obtain ⟨y, hy, hvr⟩ := part_sound h hcs w
      exact ⟨y, by simp [Instr.field, run_underlying hu, hf, asAgg, hy], hvr⟩
    · cases h
  · cases h

theorem index_sound {t : TypeId} {a i x : AV} {v iv : Value} (h : indexA P t a i = some x) (hv : VR M n a v) (hi : VR M n i iv) (w : World) :
    ∃ y, (Instr.index t v iv).run P w = .ok y w ∧ VR M n x y := by
  unfold indexA at h
  split at h
  · rename_i len e cs k i hu
    simp only [VR] at hv hi
    obtain ⟨cs', rfl, hcs⟩ := hv
    subst hi
    split at h
    · rename_i s hs
      split at h
      · rename_i hlt
        obtain ⟨y, hy, hvr⟩ := part_sound h hcs w
        exact ⟨y, by simp [Instr.index, run_underlying hu, asIntOf, hlt.1, hlt.2, run_sizeOf hs, hy], hvr⟩
      · cases h
    · cases h
  · rename_i s k i hu
    simp only [VR] at hv hi
    subst hv hi
    split at h
    · rename_i h0
      split at h
      · rename_i b hb
        obtain rfl := Option.some.inj h
        exact ⟨.int .u8 b.toNat, by simp [Instr.index, run_underlying hu, asIntOf, h0, hb], by simp [VR]⟩
      · cases h
    · cases h
  · cases h

/-! Comparing. -/
theorem eqFields_sound (D : Nat) (eq : TypeId → AV → AV → Option Bool)
    (ih : ∀ t x y b vx vy, eq t x y = some b → VR M n x vx → VR M n y vy → (Op.equalIn D t vx vy).run P w = .ok b w) {xs ys : List AV} {xs' ys' : Array Value}
    (hx : VRs M n xs xs'.toList) (hy : VRs M n ys ys'.toList) : ∀ (fs : List Field) (b : Bool), eqFields P eq xs ys fs = some b → (Op.eqFields D xs' ys' fs).run P w = .ok b w
  | [], b, h => by simp [eqFields] at h; simp [Op.eqFields, h]
  | f :: fs, b, h => by
    unfold eqFields at h
    unfold Op.eqFields
    split at h
    · rename_i hn
      rw [if_neg (by simp [hn])]
      exact eqFields_sound D eq ih hx hy fs b h
    · rename_i hn
      rw [if_pos hn]
      split at h
      · rename_i a1 b1 ha hb
        obtain ⟨va, hva, hra⟩ := part_sound ha hx w
        obtain ⟨vb, hvb, hrb⟩ := part_sound hb hy w
        simp only [Sem.run_bind, hva, hvb, Result.andThen_ok]
        split at h
        · rename_i he
          rw [ih _ _ _ _ _ _ he hra hrb]
          simp only [Result.andThen_ok, Bool.not_true, Bool.false_eq_true, if_false]
          exact eqFields_sound D eq ih hx hy fs b h
        · rename_i he
          rw [ih _ _ _ _ _ _ h hra hrb]
          cases b with
          | true => exact absurd h he
          | false => simp
      · cases h
theorem eqElems_sound {β : Type} (eq : TypeId → AV → AV → Option Bool) (e : TypeId) (s : Nat) {xs ys : List AV} (init stop : β) (f : Nat → β → Sem (ForInStep β))
    (hf : ∀ i b a1 b1, partA P e xs (i * s) = some a1 → partA P e ys (i * s) = some b1 → eq e a1 b1 = some b → (f i init).run P w = .ok (if b then .yield init else .done stop) w) :
    ∀ (is : List Nat) (b : Bool), eqElems P eq e s xs ys is = some b → (forIn is init f).run P w = .ok (if b then init else stop) w
  | [], b, h => by simp [eqElems] at h; simp [h]
  | i :: is, b, h => by
    unfold eqElems at h
    split at h
    · rename_i a1 b1 ha hb
      simp only [List.forIn_cons, Sem.run_bind]
      split at h
      · rename_i he
        rw [hf _ _ _ _ ha hb he]
        simp only [Result.andThen_ok, if_true]
        exact eqElems_sound eq e s init stop f hf is b h
      · rename_i he
        rw [hf _ _ _ _ ha hb h]
        cases b with
        | true => exact absurd h he
        | false => simp
    · cases h

set_option maxHeartbeats 2000000 in
theorem eqA_sound (w : World) : ∀ (D : Nat) (t : TypeId) (x y : AV) (b : Bool) (vx vy : Value), eqA P D t x y = some b → VR M n x vx → VR M n y vy → ∀ D', D ≤ D' → (Op.equalIn D' t vx vy).run P w = .ok b w
  | 0, _, _, _, _, _, _, h, _, _ => by simp [eqA] at h
  | D + 1, t, x, y, b, vx, vy, h, hx, hy => by
    intro D' hD
    obtain ⟨D', rfl⟩ : ∃ d, D' = d + 1 := ⟨D' - 1, by omega⟩
    have ih : ∀ t x y b vx vy, eqA P D t x y = some b → VR M n x vx → VR M n y vy → (Op.equalIn D' t vx vy).run P w = .ok b w :=
      fun t x y b vx vy h hx hy => eqA_sound w D t x y b vx vy h hx hy D' (by omega)
    unfold eqA at h
    split at h
    case h_18 fs xs ys hu =>
      simp only [VR] at hx hy
      obtain ⟨xs', rfl, hx⟩ := hx
      obtain ⟨ys', rfl, hy⟩ := hy
      split at h
      · cases h
      · rename_i hst
        have hf : P.fieldsOf t = fs := by simp [Program.fieldsOf, hu]
        rw [run_equalIn_struct w D' t xs' ys' (by rw [hf]; exact hu) (by simpa using hst), hf]
        exact eqFields_sound D' _ ih hx hy _ _ h
    case h_19 len e xs ys hu =>
      simp only [VR] at hx hy
      obtain ⟨xs', rfl, hx⟩ := hx
      obtain ⟨ys', rfl, hy⟩ := hy
      split at h
      · rename_i s hs
        simp only [Op.equalIn, Sem.run_bind, run_underlying hu, Result.andThen_ok, run_sizeOf hs]
        simp only [Std.Legacy.Range.forIn_eq_forIn_range']
        rw [eqElems_sound (P := P) (w := w) (eqA P D) e s _ (some false, ()) _ ?_ _ b (by simpa [List.range_eq_range', Std.Legacy.Range.size] using h)]
        · cases b <;> simp
        · intro i b a1 b1 ha hb he
          obtain ⟨va, hva, hra⟩ := part_sound ha hx w
          obtain ⟨vb, hvb, hrb⟩ := part_sound hb hy w
          simp only [Sem.run_bind, hva, hvb, Result.andThen_ok, ih _ _ _ _ _ _ he hra hrb]
          cases b <;> simp
      · cases h
    case h_22 => cases h
    case h_2 =>
      rename_i hu
      simp only [VR] at hx hy
      subst hx hy
      split at h
      · rename_i hk; obtain rfl := Option.some.inj h; simp [Op.equalIn, run_underlying hu, hk]
      · cases h
    all_goals
      rename_i hu
      obtain rfl := Option.some.inj h
      simp only [VR] at hx hy
      try (obtain ⟨_, _, _, rfl, _⟩ := hx)
      try (obtain ⟨_, _, _, rfl, _⟩ := hy)
      try (obtain ⟨_, _, _, _, rfl, _⟩ := hx)
      try (obtain ⟨_, _, _, _, rfl, _⟩ := hy)
      try (obtain ⟨_, _, rfl, _⟩ := hx)
      try (obtain ⟨_, _, rfl, _⟩ := hy)
      try (obtain ⟨_, rfl⟩ := hx)
      try (obtain ⟨_, rfl⟩ := hy)
      try subst hx
      try subst hy
      simp [Op.equalIn, run_underlying hu]
end Go.Ab
