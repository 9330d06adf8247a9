/- THE ABSTRACT EVALUATOR, 11: the operations that change the store. -/
import Derived.Test.YtlcapliakfomhaaAb10
namespace Go.Ab
open Go.RowKit (Below)
variable {P : Program} {M : Map} {n : Nat} {st : St} {w0 w : World}

theorem times_length (z : List AV) : ∀ n, (times z n).length = n * z.length
  | 0 => by simp [times]
  | n + 1 => by simp [times, times_length z n, Nat.add_mul]; omega
theorem times_get (z : List AV) : ∀ (n i : Nat), i < n * z.length → (times z n)[i]? = z[i % z.length]?
  | 0, i, h => by simp at h
  | n + 1, i, h => by
    simp only [times]
    rw [List.getElem?_append]
    split
    · rename_i hlt; rw [Nat.mod_eq_of_lt hlt]
    · rename_i hge
      rw [times_get z n (i - z.length) (by rw [Nat.succ_mul] at h; omega), ← Nat.mod_eq_sub_mod (by omega)]
/-- The zero value of a type whose cells are all known. -/
theorem zero_sound {t : TypeId} {z : List AV} (h : tyZero P t = some z) (hone : z.all AV.one = true) (w : World) : ∃ v, (zeroValue t).run P w = .ok v w ∧ VRs M n z v.cells.toList := by
  obtain ⟨v, hv, rfl⟩ := run_zero h w
  exact ⟨v, hv, (VR_ofVal M n v).cells hone⟩
theorem zeros_parts {t : TypeId} {k : Nat} {r : List AV} (h : zeros P t k = some r) : ∃ s z, tySize P t = some s ∧ tyZero P t = some z ∧ z.length = s ∧ z.all AV.one = true ∧ r = times z k := by
  unfold zeros at h
  split at h
  · rename_i s z hs hz
    split at h
    · rename_i hc
      simp only [Bool.and_eq_true, beq_iff_eq] at hc
      exact ⟨s, z, hs, hz, hc.1, hc.2, (Option.some.inj h).symm⟩
    · cases h
  · cases h
theorem VRs_times {z : List AV} {z' : Array Value} (h : VRs M n z z'.toList) (k : Nat) (c : Array Value) (hc : c.size = k * z.length) (hg : ∀ i, i < k * z.length → c[i]? = z'[i % z'.size]?) : VRs M n (times z k) c.toList := by
  have hl : z.length = z'.size := by rw [VRs.length h]; simp
  rw [VRs_iff]
  refine ⟨by rw [times_length]; simp [hc], fun i x hx => ?_⟩
  have hi : i < k * z.length := by
    have := (List.getElem?_eq_some_iff.1 hx).1
    rwa [times_length] at this
  rw [times_get z k i hi] at hx
  obtain ⟨y, hy, hv⟩ := h.get hx
  refine ⟨y, ?_, hv⟩
  rw [getElem?_toList] at hy ⊢
  rw [hg i hi, ← hl]; exact hy
theorem row_get (zero : Array Value) (m i : Nat) (hi : i < m) (hz : 0 < zero.size) : ((Array.range m).map fun i => zero[i % zero.size]!)[i]? = zero[i % zero.size]? := by
  have : i % zero.size < zero.size := Nat.mod_lt _ hz
  simp [hi, this]

/-- What an operation leaves: its value, and the world related to the store behind. -/
def Steps1 (w0 : World) (M : Map) (st : St) (w : World) (P : Program) (s : Sem Value) (x : AV) (st' : St) : Prop :=
  ∃ v w' M', s.run P w = .ok v w' ∧ VR M' st'.size x v ∧ SRel w0 M' st' w' ∧ Ext M st w M' st' w'
def StepsU (w0 : World) (M : Map) (st : St) (w : World) (P : Program) (s : Sem Unit) (st' : St) : Prop :=
  ∃ w' M', s.run P w = .ok () w' ∧ SRel w0 M' st' w' ∧ Ext M st w M' st' w'

theorem newRow_sound (hs : SRel w0 M st w) {vs : List AV} {c : Array Value} (hv : VRs M st.size vs c.toList) (t : TypeId) :
    ∃ M', (newRow t c).run P w = .ok ⟨w.heap.size, 0, none⟩ (w.alloc (.cells c t)) ∧ M' st.size = ⟨w.heap.size, 0, c.size⟩ ∧ SRel w0 M' (st.push (.cells true vs)) (w.alloc (.cells c t)) ∧ Ext M st w M' (st.push (.cells true vs)) (w.alloc (.cells c t)) := by
  obtain ⟨h1, h2⟩ := hs.fresh_cells (w' := w.alloc (.cells c t)) (e := t) (fz := (0, 0)) rfl (World.foll_alloc w _) hv.at (.inl rfl)
  exact ⟨_, by simp only [newRow, Sem.run_bind, run_newObj, Result.andThen_ok, Sem.run_pure]; rfl, Mput_same _ _ _, h1, h2⟩
theorem VR_new {M' : Map} {b sz : Nat} (h : M' st.size = ⟨b, 0, sz⟩) (o : AO) : VR M' (st.push o).size (.ptr st.size 0) (.pointer (some ⟨b, 0, none⟩)) := by
  simp only [VR, h, St.size_push]; exact ⟨by omega, by simp⟩

theorem alloc_sound {t : TypeId} {z : List AV} (h : zeros P t 1 = some z) (hs : SRel w0 M st w) : Steps1 w0 M st w P (Instr.alloc t true (.tuple #[])) (.ptr st.size 0) (st.push (.cells true z)) := by
  obtain ⟨s, z1, h1, h2, h3, h4, rfl⟩ := zeros_parts h
  obtain ⟨v, hv, hvr⟩ := zero_sound (M := M) (n := st.size) h2 h4 w
  have e : times z1 1 = z1 := by simp [times]
  rw [e]
  obtain ⟨M', hrun, hm, hr, hx⟩ := newRow_sound (P := P) hs hvr t
  exact ⟨_, _, M', by simp [Instr.alloc, hv, newVar, hrun], VR_new hm _, hr, hx⟩
/-- An alloc, on the machine alone. -/
theorem alloc_run {t : TypeId} {z : List AV} (h : zeros P t 1 = some z) (w : World) : ∃ c : Array Value, (Instr.alloc t true (.tuple #[])).run P w = .ok (.pointer (some ⟨w.heap.size, 0, none⟩)) (w.alloc (.cells c t)) ∧ ∀ (M : Map) (n : Nat), VRs M n z c.toList := by
  obtain ⟨s, z1, h1, h2, h3, h4, rfl⟩ := zeros_parts h
  obtain ⟨v, hv, rfl⟩ := run_zero h2 w
  have e : times (ofVal v).cells 1 = (ofVal v).cells := by simp [times]
  rw [e]
  exact ⟨v.cells, by simp [Instr.alloc, hv, newVar, newRow, Sem.run_bind, run_newObj], fun M n => (VR_ofVal M n v).cells h4⟩
theorem box_sound {t : TypeId} {a : AV} {v : Value} (h : a.cells.all AV.one = true) (hs : SRel w0 M st w) (hv : VR M st.size a v) : Steps1 w0 M st w P (Instr.box t v) (.ptr st.size 0) (st.push (.cells true a.cells)) := by
  obtain ⟨M', hrun, hm, hr, hx⟩ := newRow_sound (P := P) hs (hv.cells h) t
  exact ⟨_, _, M', by simp [Instr.box, newVar, hrun], VR_new hm _, hr, hx⟩
theorem buildSlice_sound {t : TypeId} {k : Nat} {parts : List (Nat × AV)} {parts' : Array (Nat × Value)} {x : AV} {st' : St} (h : buildSliceA P t k parts st = some (x, st')) (hs : SRel w0 M st w) (hl : parts.length = parts'.size)
    (hp : ∀ (j : Nat) (p : Nat × AV) (p' : Nat × Value), parts[j]? = some p → parts'[j]? = some p' → p.1 = p'.1 ∧ VR M st.size p.2 p'.2) : Steps1 w0 M st w P (Instr.buildSlice t k parts') x st' := by
  unfold buildSliceA at h
  split at h
  · rename_i e hu
    split at h
    · rename_i s z hsz hz
      split at h
      · rename_i hle
        obtain ⟨cs, hf, he⟩ := Option.map_eq_some_iff.1 h
        obtain ⟨rfl, rfl⟩ := Prod.mk.inj he
        obtain ⟨s', z1, h1, h2, h3, h4, rfl⟩ := zeros_parts hz
        rw [hsz] at h1
        obtain rfl := Option.some.inj h1
        obtain ⟨v, hv, hvr⟩ := zero_sound (M := M) (n := st.size) h2 h4 w
        have hvs : v.cells.size = z1.length := by rw [VRs.length hvr]; simp
        have hrow : ∃ zero : Array Value, ((k * s = 0 ∧ zero = #[]) ∨ (¬ k * s = 0 ∧ zero = v.cells)) ∧ VRs M st.size (times z1 k) ((Array.range (k * s)).map (zero[· % zero.size]!)).toList := by
          by_cases h0 : k * s = 0
          · refine ⟨#[], .inl ⟨h0, rfl⟩, VRs_times hvr k _ (by simp [h3]) (fun i hi => by rw [h3, h0] at hi; omega)⟩
          · refine ⟨v.cells, .inr ⟨h0, rfl⟩, VRs_times hvr k _ (by simp [h3]) (fun i hi => ?_)⟩
            exact row_get _ _ _ (by rw [← h3]; exact hi) (by rw [hvs, h3]; exact Nat.pos_of_ne_zero fun h => h0 (by simp [h]))
        obtain ⟨zero, hzero, hrowv⟩ := hrow
        obtain ⟨r', hr', hrr⟩ := fill_sound (place' := fun i => some (i * s, s)) (fun i => rfl) parts parts'.toList _ cs _ hf hrowv (by simpa using hl) (fun j p p' hj hj' => hp j p p' hj (by simpa using hj'))
        obtain ⟨M', hrun, hm, hr, hx⟩ := newRow_sound (P := P) hs hrr e
        refine ⟨.slice (some ⟨w.heap.size, 0, none⟩) k k, _, M', ?_, ?_, hr, hx⟩
        · rcases hzero with ⟨h0, rfl⟩ | ⟨h0, rfl⟩
          · simp [Instr.buildSlice, run_underlying hu, run_sizeOf hsz, h0] at hr' hrun ⊢
            simp [hr', hrun]
          · simp only [Instr.buildSlice, Sem.run_bind, run_underlying hu, Result.andThen_ok, run_sizeOf hsz]
            rw [if_neg (by simp; omega), if_neg h0]
            simp only [Sem.run_bind, hv, Result.andThen_ok, Sem.run_pure, hr', hrun]
        · simp only [VR, hm, St.size_push]
          exact ⟨by omega, k, by simp, Nat.le_refl _, Nat.le_refl _, fun _ => rfl, fun h => by omega⟩
      · cases h
    · cases h
  · cases h
theorem makeSlice_sound {t : TypeId} {l c x : AV} {vl vc : Value} {st' : St} (h : makeSliceA P t l c st = some (x, st')) (hs : SRel w0 M st w) (hl : VR M st.size l vl) (hc : VR M st.size c vc) : Steps1 w0 M st w P (Instr.makeSlice t vl vc) x st' := by
  unfold makeSliceA at h
  split at h
  · rename_i e k1 l k2 c hu
    simp only [VR] at hl hc
    subst hl hc
    split at h
    · rename_i b z hb hz
      split at h
      · rename_i hle
        obtain ⟨rfl, rfl⟩ := Prod.mk.inj (Option.some.inj h)
        obtain ⟨hl0, hlc, hcm, hbm⟩ := hle
        obtain ⟨s, z1, h1, h2, h3, h4, rfl⟩ := zeros_parts hz
        obtain ⟨v, hv, hvr⟩ := zero_sound (M := M) (n := st.size) h2 h4 w
        have hvs : v.cells.size = z1.length := by rw [VRs.length hvr]; simp
        obtain ⟨i, hi, hib⟩ := run_bytesOf hb w
        have wl : IntKind.i64.wrap l = l := by simp [IntKind.wrap, IntKind.bits, IntKind.signed]; omega
        have wc : IntKind.i64.wrap c = c := by simp [IntKind.wrap, IntKind.bits, IntKind.signed]; omega
        obtain ⟨N, rfl⟩ := Int.eq_ofNat_of_zero_le (show 0 ≤ c by omega)
        have hbc : ((i.bytes : Int) * (N : Int)) ≤ 65536 * 4294967296 := by rw [hib]; exact Int.mul_le_mul (by omega) (by omega) (by omega) (by omega)
        have hrow : ∃ zero : Array Value, ((N * s = 0 ∧ zero = #[]) ∨ (¬ N * s = 0 ∧ zero = v.cells)) ∧ VRs M st.size (times z1 N) ((Array.range (N * s)).map (zero[· % zero.size]!)).toList := by
          by_cases h0 : N * s = 0
          · refine ⟨#[], .inl ⟨h0, rfl⟩, VRs_times hvr N _ (by simp [h3]) (fun i hi => by rw [h3, h0] at hi; omega)⟩
          · refine ⟨v.cells, .inr ⟨h0, rfl⟩, VRs_times hvr N _ (by simp [h3]) (fun i hi => ?_)⟩
            exact row_get _ _ _ (by rw [← h3]; exact hi) (by rw [hvs, h3]; exact Nat.pos_of_ne_zero fun h => h0 (by simp [h]))
        obtain ⟨zero, hzero, hrowv⟩ := hrow
        simp only [Int.toNat_natCast]
        obtain ⟨M', hrun, hm, hr, hx⟩ := newRow_sound (P := P) hs hrowv e
        refine ⟨.slice (some ⟨w.heap.size, 0, none⟩) l.toNat N, _, M', ?_, ?_, hr, hx⟩
        · simp only [Instr.makeSlice, Sem.run_bind, run_underlying hu, Result.andThen_ok, asInt, asIntOf, Sem.run_pure, hi]
          rw [wl, wc, if_neg (by simp; omega)]
          simp only [Sem.run_bind, run_askRoom, Result.andThen_ok, run_sizeOf h1, Int.toNat_natCast]
          rcases hzero with ⟨h0, rfl⟩ | ⟨h0, rfl⟩
          · rw [if_pos h0]; simp only [Sem.run_bind, Sem.run_pure, Result.andThen_ok, hrun]
          · rw [if_neg h0]; simp only [Sem.run_bind, hv, Sem.run_pure, Result.andThen_ok, hrun]
        · simp only [VR, hm, St.size_push]
          exact ⟨by omega, N, by simp, Nat.le_refl _, by omega, fun _ => rfl, fun h => by omega⟩
      · cases h
    · cases h
  · cases h
theorem store_sound {t : TypeId} {a x : AV} {va vx : Value} {st' : St} (h : stT P t a x st = some st') (hs : SRel w0 M st w) (ha : VR M st.size a va) (hx : VR M st.size x vx) : StepsU w0 M st w P (Instr.storeAt t va vx) st' := by
  unfold stT at h
  split at h
  · rename_i id off
    simp only [VR] at ha
    obtain ⟨hid, rfl⟩ := ha
    split at h
    · rename_i vs ho
      split at h
      · rename_i hc
        obtain rfl := Option.some.inj h
        simp only [Bool.and_eq_true, beq_iff_eq, decide_eq_true_eq] at hc
        obtain ⟨⟨h1, h2⟩, h3⟩ := hc
        have hcv := hx.cells h1
        obtain ⟨w', hrun, hr, hxt⟩ := store_cells (P := P) hs hid ho hcv h1 h3
        refine ⟨w', M, ?_, hr, hxt⟩
        have hsz : vx.cells.size = x.cells.length := by rw [VRs.length hcv]; simp
        simp only [Instr.storeAt, Instr.sureAddr, Sem.run_bind, Sem.run_pure, Result.andThen_ok, storeVar, run_sizeOf h2.symm]
        rw [if_neg (by simp [hsz])]
        exact hrun
      · cases h
    · cases h
  · cases h
end Go.Ab
