/- THE ABSTRACT EVALUATOR, 14: append, copy, texts turned to bytes (their theorems). -/
import Derived.Test.YtlcapliakfomhaaAb13
namespace Go.Ab
open Go.RowKit (Below)
variable {P : Program} {M : Map} {n : Nat} {st : St} {w0 w : World}

theorem foll_drew_alloc (w : World) (o : Obj) : Foll w (w.drew.alloc o) := ⟨rfl, rfl, rfl, by simp⟩
theorem times_size {z : List AV} {v : Value} {s : Nat} (hz : VRs M n z v.cells.toList) (h : z.length = s) : v.cells.size = s := by rw [← h, VRs.length hz]; simp
/-- A new row, of what was, what is new, and room. -/
theorem grown_sound {e : TypeId} {s len m newCap : Nat} {a new : List AV} {old' new' rest : Array Value} (ha : VRs M st.size a old'.toList) (hn : VRs M st.size new new'.toList) (hal : a.length = len * s) (hnl : new.length = m * s) (hs0 : 0 < s)
    (hcap : len + m ≤ newCap) (hrest : rest.size = (newCap - (len + m)) * s) {st0 : St} (h0 : SRel w0 M st0 w) (hsz : st0.size = st.size) :
    ∃ M', VR M' (st0.push (.cells true (a ++ new))).size (.slice st0.size 0 (len + m) (len + m) s) (.slice (some ⟨w.heap.size, 0, none⟩) (len + m) newCap) ∧
      SRel w0 M' (st0.push (.cells true (a ++ new))) (w.drew.alloc (.cells (old' ++ new' ++ rest) e)) ∧ Ext M st0 w M' (st0.push (.cells true (a ++ new))) (w.drew.alloc (.cells (old' ++ new' ++ rest) e)) := by
  have hos : old'.size = len * s := by rw [← hal, VRs.length ha]; simp
  have hns : new'.size = m * s := by rw [← hnl, VRs.length hn]; simp
  have hsize : (old' ++ new' ++ rest).size = newCap * s := by
    simp only [Array.size_append, hos, hns, hrest]
    rw [← Nat.add_mul, ← Nat.add_mul]; congr 1; omega
  obtain ⟨h1, h2⟩ := h0.fresh_cells (vs := a ++ new) (c := old' ++ new' ++ rest) (e := e) (fz := (0, 0)) (w' := w.drew.alloc (.cells (old' ++ new' ++ rest) e)) rfl (foll_drew_alloc w _) (fun i x hx => by
      have := (VRs.append ha hn).get hx
      obtain ⟨y, hy, hv⟩ := this
      refine ⟨y, ?_, by rw [hsz]; exact hv⟩
      have hlt : i < (old' ++ new').size := by have := (List.getElem?_eq_some_iff.1 hy).1; simpa using this
      rw [Array.getElem?_append, if_pos hlt, ← getElem?_toList, Array.toList_append]
      exact hy) (.inl rfl)
  refine ⟨_, ?_, h1, h2⟩
  simp only [VR, Mput_same, St.size_push]
  refine ⟨by omega, newCap, by simp, hcap, Nat.le_refl _, fun h => by omega, fun _ => ?_⟩
  rw [hsize]; omega

theorem append_sound {t u : TypeId} {x y r : AV} {vx vy : Value} {st' : St} (hts : List TypeId) (ty : TypeId) (h : appendA P t u x y st = some (r, st')) (hs : SRel w0 M st w) (hx : VR M st.size x vx) (hy : VR M st.size y vy) :
    Steps1 w0 M st w P (Builtin.append_ (t :: u :: hts).toArray ty #[vx, vy]) r st' := by
  unfold appendA at h
  split at h
  · cases h
  · rename_i e d hd0 ht hu
    have hd : ∀ k, d ≠ .int k := fun k e => hd0 k e
    split at h
    · rename_i s b z0 hsz hb hz
      split at h
      · rename_i m new hnew
        split at h
        · rename_i hcond
          obtain ⟨hone, hm32, hb16, hs0, hnl⟩ := hcond
          obtain ⟨s', z1, h1, h2, h3, h4, rfl⟩ := zeros_parts hz
          rw [hsz] at h1
          obtain rfl := Option.some.inj h1
          obtain ⟨hlen, hfirst⟩ := newOf_sound (P := P) hnew hs hy
          obtain ⟨new', hnr, hnrun⟩ := hfirst m (Nat.le_refl _) hnl
          rw [List.take_of_length_le (by omega)] at hnr
          obtain ⟨zv, hzv, hzr⟩ := zero_sound (M := M) (n := st.size) h2 h4 w
          have hzs := times_size hzr h3
          -- the new row
          have grows : ∀ (base : Option Addr) (len cap : Nat) (a : List AV) (old : Array Value) (st0 : St), cap < len + m → len + m ≤ 4294967296 → VRs M st.size a old.toList → a.length = len * s →
              (∀ w1 : World, w1.heap = w.heap → (Builtin.firstCells s len (.slice base len cap)).run P w1 = .ok old w1) → SRel w0 M st0 w → st0.size = st.size → Ext M st w M st0 w →
              Steps1 w0 M st w P (Builtin.append_ (t :: u :: hts).toArray ty #[.slice base len cap, vy]) (.slice st0.size 0 (len + m) (len + m) s) (st0.push (.cells true (a ++ new))) := by
            intro base len cap a old st0 hr hn32 har hal hold h0 hsz0 hx0
            obtain ⟨newCap, rest, hc1, _, hrest, hrun⟩ := run_append_new (P := P) (w := w) hts ht hu hd ty hsz hb h2 hlen hr hn32 hb16 hold hnrun
            have hr2 : rest.size = (newCap - (len + m)) * s := by rw [hrest zv hzv]; simp [Builtin.zeroCells, hzs]
            obtain ⟨M', g1, g2, g3⟩ := grown_sound (e := e) har hnr hal hnl hs0 hc1 hr2 h0 hsz0
            exact ⟨_, _, M', hrun, g1, g2, hx0.trans g3⟩
          unfold appendTo at h
          split at h
          · simp only [VR] at hx
            subst hx
            split at h
            · rename_i hm0
              obtain ⟨rfl, rfl⟩ := Prod.mk.inj (Option.some.inj h)
              subst hm0
              exact ⟨_, w, M, run_append_in (P := P) hts ht hu hd ty hsz hlen (by omega) (hnrun w rfl) (w' := w) (fun a ha => by cases ha) (fun _ => rfl), by simp [VR], hs, Ext.refl _ _ _⟩
            · rename_i hm0
              obtain ⟨rfl, rfl⟩ := Prod.mk.inj (Option.some.inj h)
              have := grows none 0 0 [] #[] st (by omega) (by omega) (by simp [VRs]) (by simp) (fun w1 _ => by simp [Builtin.firstCells]) hs rfl (Ext.refl _ _ _)
              simpa using this
          · simp only [VR] at hx
            obtain ⟨ad, rfl⟩ := hx
            split at h
            · rename_i hm0
              obtain ⟨rfl, rfl⟩ := Prod.mk.inj (Option.some.inj h)
              subst hm0
              have hn0 : new'.toList = [] := by have := VRs.length hnr; rw [hnl] at this; exact List.eq_nil_of_length_eq_zero (by omega)
              refine ⟨_, w, M, run_append_in (P := P) hts ht hu hd ty hsz hlen (by omega) (hnrun w rfl) (w' := w) (fun a ha => by rw [hn0]; simp [storeCells]) (fun h => by cases h), ?_, hs, Ext.refl _ _ _⟩
              simp only [VR]
              exact ⟨ad, rfl⟩
            · rename_i hm0
              obtain ⟨rfl, rfl⟩ := Prod.mk.inj (Option.some.inj h)
              have := grows (some ad) 0 0 [] #[] st (by omega) (by omega) (by simp [VRs]) (by simp) (fun w1 _ => by simp [Builtin.firstCells, loadCells, loadCellsFrom]) hs rfl (Ext.refl _ _ _)
              simpa using this
          · rename_i id k
            simp only [VR] at hx
            obtain ⟨hid, hk0, o, c, rfl, hbound⟩ := hx
            split at h
            · rename_i hm0
              obtain ⟨rfl, rfl⟩ := Prod.mk.inj (Option.some.inj h)
              subst hm0
              have hn0 : new'.toList = [] := by have := VRs.length hnr; rw [hnl] at this; exact List.eq_nil_of_length_eq_zero (by omega)
              refine ⟨_, w, M, run_append_in (P := P) hts ht hu hd ty hsz hlen (by omega) (hnrun w rfl) (w' := w) (fun a ha => by rw [hn0]; simp [storeCells]) (fun h => by cases h), ?_, hs, Ext.refl _ _ _⟩
              simp only [VR]
              exact ⟨hid, hk0, o, c, rfl, hbound⟩
            · rename_i hm0
              split at h
              · rename_i vs ho
                split at h
                · rename_i hks
                  subst hks
                  obtain ⟨rfl, rfl⟩ := Prod.mk.inj (Option.some.inj h)
                  have hown : (st.get id).own = true := by rw [ho]; rfl
                  by_cases hroom : m ≤ c
                  · -- in place
                    obtain ⟨c0, ee, fz, hb', hc, hrw, _⟩ := hs.cells hid ho
                    obtain ⟨hbase, hszc, hfz⟩ := hrw rfl
                    have hmul : m * k ≤ c * k := Nat.mul_le_mul_right k hroom
                    have hnl' := VRs.length hnr
                    have hin : ∀ j, j < new'.toList.length → o + j < c0.size := by intro j hj; omega
                    have hrun := run_storeCells_cells (P := P) (M id).b o new'.toList 0 w (fun j hj => by
                        rw [Nat.add_zero, cell_of hb']; simp [hin j hj]) (fun j hj => by
                        rw [Nat.add_zero, frozen_of hb']; exact nofz hfz (hin j hj)) (hnr.one hone)
                    rw [Nat.add_zero] at hrun
                    obtain ⟨hf, hsize, hother, c', hb2, hsz', hget⟩ := setCells_block new'.toList o w c0 hb'
                    obtain ⟨g1, g2⟩ := hs.kill hid hown hf (fun b _ hne => hother b hne)
                    have hpush := g1.push (o := .cells true new) ⟨(M id).b, o, (M id).sz⟩ (Foll.refl _) (fun _ _ => rfl) ?_ ?_ (g1.bnd id (by simpa using hid))
                    · refine ⟨.slice (some ⟨(M id).b, o, none⟩) (0 + m) c, _, Mput M st.size ⟨(M id).b, o, (M id).sz⟩, run_append_in (P := P) hts ht hu hd ty hsz hlen (by omega) (hnrun w rfl) (fun a ha => by
                        cases ha; simpa [Addr.add] using hrun) (fun h => by cases h), ?_, by simpa using hpush, ?_⟩
                      · simp only [VR, Mput_same, St.size_push, St.size_set]
                        exact ⟨by omega, c, by simp, hroom, Nat.le_refl _, fun h => by omega, fun _ => by simpa using hbound⟩
                      · have := g2.trans (Ext.push (st := st.set id .dead) (M := M) (.cells true new) ⟨(M id).b, o, (M id).sz⟩ (Foll.refl _) (fun _ _ => rfl) (.inr ⟨id, by simpa using hid, rfl⟩))
                        simpa using this
                    · refine ⟨c', ee, fz, hb2, fun i x hx => ?_, fun _ => ⟨hbase, by rw [hsz']; exact hszc, by rw [hsz']; exact hfz⟩, fun h => by cases h⟩
                      simp only [St.size_set]
                      obtain ⟨y', hy', hv⟩ := hnr.get hx
                      have h5 : i < new'.toList.length := (List.getElem?_eq_some_iff.1 hy').1
                      have := hin i h5
                      rw [hget, if_pos (by omega)]
                      exact ⟨y', by rw [← hy']; congr 1; omega, hv.mono (by omega) (Mput_lt _ _ _)⟩
                    · intro _ i hi hio e
                      simp only [St.size_set] at hi
                      by_cases ei : id = i
                      · subst ei; rw [St.get_set_same hid] at hio; simp [AO.own] at hio
                      · rw [St.get_set_ne ei] at hio
                        exact ei (hs.inj id i hid hi hown hio e.symm)
                  · obtain ⟨g1, g2⟩ := hs.kill hid hown (Foll.refl w) (fun _ _ _ => rfl)
                    have := grows (some ⟨(M id).b, o, none⟩) 0 c [] #[] (st.set id .dead) (by omega) (by omega) (by simp [VRs]) (by simp) (fun w1 _ => by simp [Builtin.firstCells, loadCells, loadCellsFrom]) g1 (by simp) g2
                    simpa using this
                · cases h
              · cases h
          · rename_i id off len cap k
            have hx' := hx
            simp only [VR] at hx
            obtain ⟨hid, c, rfl, hc1, hc2, hc3, hc4⟩ := hx
            split at h
            · rename_i hm0
              obtain ⟨rfl, rfl⟩ := Prod.mk.inj (Option.some.inj h)
              subst hm0
              have hn0 : new'.toList = [] := by have := VRs.length hnr; rw [hnl] at this; exact List.eq_nil_of_length_eq_zero (by omega)
              exact ⟨_, w, M, run_append_in (P := P) hts ht hu hd ty hsz hlen (by omega) (hnrun w rfl) (w' := w) (fun a ha => by rw [hn0]; simp [storeCells]) (fun h => by cases h), hx', hs, Ext.refl _ _ _⟩
            · rename_i hm0
              split at h
              · rename_i rw vs ho
                split at h
                · rename_i hvs
                  obtain ⟨c0, ee, fz, hb', hc, _, _⟩ := hs.cells hid ho
                  obtain ⟨lo, hlo, hlor, hlocell⟩ := row_vals hc off (len * s) hvs
                  have hold : ∀ w1 : World, w1.heap = w.heap → (Builtin.firstCells s len (.slice (some ⟨(M id).b, (M id).sh + off, none⟩) len c)).run P w1 = .ok lo.toArray w1 := by
                    intro w1 he
                    have := run_loadCells_list (P := P) w1 ⟨(M id).b, (M id).sh + off, none⟩ lo (fun j v hj => by
                      rw [Addr.add_lit]
                      have e1 : w1.cell? ⟨(M id).b, (M id).sh + off + j, none⟩ = w.cell? ⟨(M id).b, (M id).sh + off + j, none⟩ := by simp [World.cell?, he]
                      rw [e1, cell_of hb']; exact hlocell j v hj)
                    rw [hlo] at this
                    simpa [Builtin.firstCells] using this
                  have hal : ((vs.drop off).take (len * s)).length = len * s := by simp; omega
                  split at h
                  · rename_i hk
                    have hcc := hc3 hk
                    split at h
                    · rename_i hroom
                      split at h
                      · rename_i hrw
                        obtain ⟨rfl, hle⟩ := hrw
                        obtain ⟨rfl, rfl⟩ := Prod.mk.inj (Option.some.inj h)
                        obtain ⟨w', hrun, g1, g2⟩ := store_cells (P := P) hs hid ho (off := off + len * s) hnr hone hle
                        refine ⟨_, w', M, run_append_in (P := P) hts ht hu hd ty hsz hlen (by omega) (hnrun w rfl) (fun a ha => by
                          cases ha; rw [Addr.add_lit, Nat.add_assoc]; exact hrun) (fun h => by cases h), ?_, g1, g2⟩
                        simp only [VR, St.size_set]
                        exact ⟨hid, c, rfl, hc1, by omega, fun _ => hcc, fun h => by omega⟩
                      · cases h
                    · rename_i hroom
                      split at h
                      · rename_i h32
                        obtain ⟨rfl, rfl⟩ := Prod.mk.inj (Option.some.inj h)
                        exact grows _ len c _ lo.toArray st (by omega) h32 (by simpa using hlor) hal hold hs rfl (Ext.refl _ _ _)
                      · cases h
                  · rename_i hk
                    split at h
                    · rename_i hcnd
                      obtain ⟨rfl, h32, rfl⟩ := hcnd
                      obtain ⟨rfl, rfl⟩ := Prod.mk.inj (Option.some.inj h)
                      have hown : (st.get id).own = true := by rw [ho]; rfl
                      have hbound := hc4 (by omega)
                      by_cases hroom : len + m ≤ c
                      · obtain ⟨w', hrun, g1, g2⟩ := alias_sound (P := P) hs hid ho hbound hroom hvs hnl hnr hone
                        refine ⟨.slice (some ⟨(M id).b, (M id).sh + off, none⟩) (len + m) c, w', _, run_append_in (P := P) hts ht hu hd ty hsz hlen hroom (hnrun w rfl) (fun a ha => by cases ha; exact hrun) (fun h => by cases h), ?_, g1, g2⟩
                        simp only [VR, Mput_same, St.size_push, St.size_set]
                        exact ⟨by omega, c, by simp, hroom, Nat.le_refl _, fun h => by omega, fun _ => by simpa using hbound⟩
                      · obtain ⟨g1, g2⟩ := hs.kill hid hown (Foll.refl w) (fun _ _ _ => rfl)
                        have := grows _ len c _ lo.toArray (st.set id .dead) (by omega) h32 (by simpa using hlor) hal hold g1 (by simp) g2
                        simpa using this
                    · cases h
                · cases h
              · cases h
          · cases h
        · cases h
      · cases h
    · cases h
  · cases h
end Go.Ab
