/- THE ABSTRACT EVALUATOR, 15: copy, texts turned to bytes; every operation, as the machine executes it. -/
import Derived.Test.YtlcapliakfomhaaAb14
namespace Go.Ab
open Go.RowKit (Below)
variable {P : Program} {M : Map} {n : Nat} {st : St} {w0 w : World}

theorem copy_sound {t : TypeId} {x y r : AV} {vx vy : Value} {st' : St} (ts : Array TypeId) (ht : ts[0]? = some t) (ty : TypeId) (h : copyA P t x y st = some (r, st')) (hs : SRel w0 M st w) (hx : VR M st.size x vx) (hy : VR M st.size y vy) :
    ∃ v w' M', (Builtin.copy_ ts ty #[vx, vy]).run P w = .ok v w' ∧ VR M' st'.size r v ∧ SRel w0 M' st' w' ∧ Ext M st w M' st' w' := by
  unfold copyA at h
  split at h
  · rename_i e hu
    split at h
    · rename_i s hsz
      split at h
      · rename_i p hnew
        obtain ⟨m, new⟩ := p
        obtain ⟨rfl, rfl⟩ := Prod.mk.inj (Option.some.inj h)
        simp only [VR] at hx; subst hx
        obtain ⟨hlen, hfirst⟩ := newOf_sound (P := P) hnew hs hy
        have h0 : ∃ c : Array Value, (Builtin.firstCells s 0 vy).run P w = .ok c w := by
          have : ∀ v : Value, (∃ a l c, v = .slice a l c) ∨ (∃ b, v = .string b) → ∃ c : Array Value, (Builtin.firstCells s 0 v).run P w = .ok c w := by
            rintro v (⟨a, l, c, rfl⟩ | ⟨b, rfl⟩)
            · cases a
              · exact ⟨#[], by simp [Builtin.firstCells]⟩
              · exact ⟨#[], by simp [Builtin.firstCells, loadCells, loadCellsFrom]⟩
            · exact ⟨_, by simp [Builtin.firstCells]; rfl⟩
          apply this
          unfold newOf at hnew
          split at hnew
          · simp only [VR] at hy; exact .inr ⟨_, hy⟩
          · simp only [VR] at hy; obtain ⟨_, c, e, _⟩ := hy; exact .inl ⟨_, _, _, e⟩
          · simp only [VR] at hy; exact .inl ⟨_, _, _, hy⟩
          · simp only [VR] at hy; obtain ⟨_, _, o, c, e, _⟩ := hy; exact .inl ⟨_, _, _, e⟩
          · simp only [VR] at hy; obtain ⟨_, e⟩ := hy; exact .inl ⟨_, _, _, e⟩
          · cases hnew
        obtain ⟨c, hc⟩ := h0
        refine ⟨goInt 0, w, M, ?_, by simp [VR, goInt], hs, Ext.refl _ _ _⟩
        simp [Builtin.copy_, ht, run_underlying hu, hlen, run_sizeOf hsz, hc]
      · rename_i p id k hnew
        obtain ⟨m, new⟩ := p
        obtain ⟨rfl, rfl⟩ := Prod.mk.inj (Option.some.inj h)
        simp only [VR] at hx
        obtain ⟨hid, hk, o, c, rfl, hb⟩ := hx
        obtain ⟨hlen, hfirst⟩ := newOf_sound (P := P) hnew hs hy
        have h0 : ∃ c : Array Value, (Builtin.firstCells s 0 vy).run P w = .ok c w ∧ c.toList = [] := by
          have : ∀ v : Value, (∃ a l c, v = .slice a l c) ∨ (∃ b, v = .string b) → ∃ c : Array Value, (Builtin.firstCells s 0 v).run P w = .ok c w ∧ c.toList = [] := by
            rintro v (⟨a, l, c, rfl⟩ | ⟨b, rfl⟩)
            · cases a
              · exact ⟨#[], by simp [Builtin.firstCells]⟩
              · exact ⟨#[], by simp [Builtin.firstCells, loadCells, loadCellsFrom]⟩
            · exact ⟨_, by simp [Builtin.firstCells]; rfl, by simp⟩
          apply this
          unfold newOf at hnew
          split at hnew
          · simp only [VR] at hy; exact .inr ⟨_, hy⟩
          · simp only [VR] at hy; obtain ⟨_, c, e, _⟩ := hy; exact .inl ⟨_, _, _, e⟩
          · simp only [VR] at hy; exact .inl ⟨_, _, _, hy⟩
          · simp only [VR] at hy; obtain ⟨_, _, o, c, e, _⟩ := hy; exact .inl ⟨_, _, _, e⟩
          · simp only [VR] at hy; obtain ⟨_, e⟩ := hy; exact .inl ⟨_, _, _, e⟩
          · cases hnew
        obtain ⟨c2, hc, hce⟩ := h0
        refine ⟨goInt 0, w, M, ?_, by simp [VR, goInt], hs, Ext.refl _ _ _⟩
        simp [Builtin.copy_, ht, run_underlying hu, hlen, run_sizeOf hsz, hc, hce, storeCells]
      · rename_i p hnew
        obtain ⟨m, new⟩ := p
        obtain ⟨rfl, rfl⟩ := Prod.mk.inj (Option.some.inj h)
        simp only [VR] at hx
        obtain ⟨ad, rfl⟩ := hx
        obtain ⟨hlen, hfirst⟩ := newOf_sound (P := P) hnew hs hy
        have h0 : ∃ c : Array Value, (Builtin.firstCells s 0 vy).run P w = .ok c w ∧ c.toList = [] := by
          have : ∀ v : Value, (∃ a l c, v = .slice a l c) ∨ (∃ b, v = .string b) → ∃ c : Array Value, (Builtin.firstCells s 0 v).run P w = .ok c w ∧ c.toList = [] := by
            rintro v (⟨a, l, c, rfl⟩ | ⟨b, rfl⟩)
            · cases a
              · exact ⟨#[], by simp [Builtin.firstCells]⟩
              · exact ⟨#[], by simp [Builtin.firstCells, loadCells, loadCellsFrom]⟩
            · exact ⟨_, by simp [Builtin.firstCells]; rfl, by simp⟩
          apply this
          unfold newOf at hnew
          split at hnew
          · simp only [VR] at hy; exact .inr ⟨_, hy⟩
          · simp only [VR] at hy; obtain ⟨_, c, e, _⟩ := hy; exact .inl ⟨_, _, _, e⟩
          · simp only [VR] at hy; exact .inl ⟨_, _, _, hy⟩
          · simp only [VR] at hy; obtain ⟨_, _, o, c, e, _⟩ := hy; exact .inl ⟨_, _, _, e⟩
          · simp only [VR] at hy; obtain ⟨_, e⟩ := hy; exact .inl ⟨_, _, _, e⟩
          · cases hnew
        obtain ⟨c2, hc, hce⟩ := h0
        refine ⟨goInt 0, w, M, ?_, by simp [VR, goInt], hs, Ext.refl _ _ _⟩
        simp [Builtin.copy_, ht, run_underlying hu, hlen, run_sizeOf hsz, hc, hce, storeCells]
      · rename_i m new id off len cap k hnew
        simp only [VR] at hx
        obtain ⟨hid, c, rfl, _⟩ := hx
        obtain ⟨hlen, hfirst⟩ := newOf_sound (P := P) hnew hs hy
        split at h
        · rename_i hz
          obtain ⟨rfl, rfl⟩ := Prod.mk.inj (Option.some.inj h)
          have h0 : ∃ c : Array Value, (Builtin.firstCells s 0 vy).run P w = .ok c w ∧ c.toList = [] := by
            have : ∀ v : Value, (∃ a l c, v = .slice a l c) ∨ (∃ b, v = .string b) → ∃ c : Array Value, (Builtin.firstCells s 0 v).run P w = .ok c w ∧ c.toList = [] := by
              rintro v (⟨a, l, c, rfl⟩ | ⟨b, rfl⟩)
              · cases a
                · exact ⟨#[], by simp [Builtin.firstCells]⟩
                · exact ⟨#[], by simp [Builtin.firstCells, loadCells, loadCellsFrom]⟩
              · exact ⟨_, by simp [Builtin.firstCells]; rfl, by simp⟩
            apply this
            unfold newOf at hnew
            split at hnew
            · simp only [VR] at hy; exact .inr ⟨_, hy⟩
            · simp only [VR] at hy; obtain ⟨_, c, e, _⟩ := hy; exact .inl ⟨_, _, _, e⟩
            · simp only [VR] at hy; exact .inl ⟨_, _, _, hy⟩
            · simp only [VR] at hy; obtain ⟨_, _, o, c, e, _⟩ := hy; exact .inl ⟨_, _, _, e⟩
            · simp only [VR] at hy; obtain ⟨_, e⟩ := hy; exact .inl ⟨_, _, _, e⟩
            · cases hnew
          obtain ⟨c2, hc, hce⟩ := h0
          refine ⟨goInt 0, w, M, ?_, by simp [VR, goInt], hs, Ext.refl _ _ _⟩
          simp [Builtin.copy_, ht, run_underlying hu, hlen, run_sizeOf hsz, hz, hc, hce, storeCells]
        · rename_i hz
          split at h
          · rename_i vs ho
            split at h
            · rename_i hcnd
              obtain ⟨hle, hone, hnl⟩ := hcnd
              obtain ⟨rfl, rfl⟩ := Prod.mk.inj (Option.some.inj h)
              obtain ⟨new', hnr, hnrun⟩ := hfirst (Nat.min m len) (Nat.min_le_left _ _) hnl
              have htl : (new.take (Nat.min m len * s)).length = Nat.min m len * s := by
                rw [List.length_take, hnl, Nat.min_eq_left]; exact Nat.mul_le_mul_right s (Nat.min_le_left _ _)
              obtain ⟨w', hrun, g1, g2⟩ := store_cells (P := P) hs hid ho (off := off) hnr hone (by rw [htl]; exact hle)
              refine ⟨goInt (Nat.min m len), w', M, ?_, by simp [VR, goInt], g1, g2⟩
              simp [Builtin.copy_, ht, run_underlying hu, hlen, run_sizeOf hsz, hnrun w rfl, hrun]
            · cases h
          · cases h
      · cases h
    · cases h
  · cases h

theorem conv_sound {s d : TypeId} {a x : AV} {v : Value} {st' : St} (h : convA P s d a st = some (x, st')) (hs : SRel w0 M st w) (hv : VR M st.size a v) : Steps1 w0 M st w P (convert s d v) x st' := by
  by_cases hr : ∀ e, P.underlying d ≠ some (.slice e)
  · obtain ⟨rfl, y, hy, hyr⟩ := conv01_sound h hr hs hv
    exact ⟨y, w, M, hy, hyr, hs, Ext.refl _ _ _⟩
  · obtain ⟨e0, he0⟩ := Classical.not_forall.1 hr
    have he0 : P.underlying d = some (.slice e0) := Classical.not_not.1 he0
    unfold convA at h
    split at h
    · rename_i h1 h2; rw [he0] at h2; cases h2
    · rename_i h1 h2; rw [he0] at h2; cases h2
    · rename_i h1 h2 h3; rw [he0] at h2; cases h2
    · rename_i e1 e2 id off len cap k h1 h2
      split at h
      · rename_i vs hue ho heq
        obtain ⟨rfl, rfl⟩ := Prod.mk.inj (Option.some.inj h)
        have hv' := hv
        simp only [VR] at hv
        obtain ⟨hid, c, rfl, _⟩ := hv
        obtain ⟨c0, ee, fz, hb, hc, hrw, _⟩ := hs.cells hid ho
        obtain ⟨hbase, hsz, hfz⟩ := hrw rfl
        have hshape : w.shape? (M id).b = some (ee, c0.size) := by simp [World.shape?, hb]
        let fz' : Nat × Nat := if fz.1 == fz.2 then (c0.size, c0.size + 1) else (min fz.1 c0.size, max fz.2 (c0.size + 1))
        let w' := w.freeze ⟨(M id).b, c0.size, none⟩ 1
        have hw' : w'.heap[(M id).b]? = some (.cells c0 ee fz') := by
          simp [w', fz', World.freeze, Array.getElem?_modify, hb]
        have hf : Foll w w' := ⟨rfl, rfl, rfl, by simp [w', World.freeze]⟩
        have hother : ∀ b, b < w.heap.size → b ≠ (M id).b → w'.heap[b]? = w.heap[b]? := fun b _ hne => by
          simp [w', World.freeze, Array.getElem?_modify, Ne.symm hne]
        obtain ⟨g1, g2⟩ := hs.upd (o := .cells true vs) hid (by rw [ho]; rfl) hf hother ⟨c0, ee, fz', hw', hc, fun _ => ⟨hbase, hsz, by
          simp only [fz']
          split
          · exact .inr (Nat.le_refl _)
          · rename_i hne
            refine .inr ?_
            rcases hfz with h | h
            · exact absurd (by simpa using h) hne
            · simp; omega⟩, fun h => by cases h⟩
        have e : st.set id (.cells true vs) = st := by
          obtain ⟨l⟩ := st
          simp only [St.set, St.mk.injEq, and_true]
          apply List.ext_getElem?
          intro j
          rw [List.getElem?_set]
          by_cases ej : id = j
          · subst ej
            have hl : id < l.length := hid
            have : (l[id]?).getD .dead = .cells true vs := ho
            rw [List.getElem?_eq_getElem hl] at this ⊢
            simp [hl] at this ⊢
            exact this.symm
          · simp [ej]
        rw [e] at g1 g2
        refine ⟨_, w', M, ?_, hv', g1, g2⟩
        have hsd : (s == d) = true := heq
        simp [convert, run_underlying h1, run_underlying h2, run_underlying hue, hsd, markStringish, hshape, w']
      · cases h
    · rename_i e1 str h1 h2
      split at h
      · rename_i hue
        split at h
        · rename_i hle
          obtain ⟨rfl, rfl⟩ := Prod.mk.inj (Option.some.inj h)
          simp only [VR] at hv; subst hv
          let q : Question := .appendCap str.size 0 e1
          let cap := q.cut (w.tape w.drawn q)
          have hcap : str.size ≤ cap := by simp [cap, q, Question.cut]
          let row : Array Value := (str.data.map fun b => Value.int .u8 b.toNat) ++ Array.replicate (cap - str.size) (.int .u8 0)
          have hrs : row.size = cap := by
            have : str.data.size = str.size := rfl
            simp [row, this]; omega
          let w1 := w.drew.alloc (.cells row e1)
          let w' := w1.freeze ⟨w.heap.size, row.size, none⟩ 1
          have h1w : w1.heap = w.heap.push (.cells row e1) := rfl
          have hw' : w'.heap = w.heap.push (.cells row e1 (row.size, row.size + 1)) := by
            apply Array.ext_getElem?
            intro i
            simp only [w', World.freeze, h1w, Array.getElem?_modify, Array.getElem?_push, Nat.one_ne_zero, if_false]
            by_cases hi : i = w.heap.size
            · subst hi; simp
            · simp [hi, Ne.symm hi]
          have hf : Foll w w' := ⟨rfl, rfl, rfl, by rw [hw']; simp⟩
          obtain ⟨g1, g2⟩ := hs.fresh_cells (vs := byteCells str.data.toList) hw' hf (fun i x hx => by
            obtain ⟨y, hy, hyr⟩ := (VRs_bytes (M := M) (n := st.size) str.data.toList).get hx
            refine ⟨y, ?_, hyr⟩
            have hlt : i < str.data.size := by have := (List.getElem?_eq_some_iff.1 hy).1; simpa using this
            simp only [row]
            rw [Array.getElem?_append, if_pos (by simpa using hlt)]
            simpa using hy) (.inr (Nat.le_refl _))
          refine ⟨.slice (some ⟨w.heap.size, 0, none⟩) str.size cap, w', _, ?_, ?_, g1, g2⟩
          · have hch : (choose (.appendCap str.size 0 e1)).run P w = .ok cap w.drew := by rw [run_choose]; rfl
            have hnr : (newRow e1 row).run P w.drew = .ok ⟨w.heap.size, 0, none⟩ w1 := by simp only [newRow, Sem.run_bind, run_newObj, Result.andThen_ok, Sem.run_pure]; rfl
            have hsh : w1.shape? w.heap.size = some (e1, row.size) := by simp [World.shape?, h1w]
            simp only [convert, Sem.run_bind, run_underlying h1, run_underlying h2, Result.andThen_ok, run_underlying hue, Conv.stringToBytes, hch]
            simp only [row] at hnr hsh
            simp only [hnr, Result.andThen_ok, markStringish, Sem.run_bind, run_shape, hsh, run_freeze, Sem.run_pure]
            rfl
          · simp only [VR, Mput_same, St.size_push]
            exact ⟨by omega, cap, by simp, hcap, Nat.le_refl _, fun h => by omega, fun _ => by rw [hrs]; omega⟩
        · cases h
      · cases h
    · cases h
end Go.Ab
