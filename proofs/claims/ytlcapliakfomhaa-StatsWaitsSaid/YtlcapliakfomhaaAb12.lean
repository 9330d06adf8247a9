/- THE ABSTRACT EVALUATOR, 12: maps that change; append, copy, clear; texts turned to bytes. -/
import Derived.Test.YtlcapliakfomhaaAb11
namespace Go.Ab
open Go.RowKit (Below)
variable {P : Program} {M : Map} {n : Nat} {st : St} {w0 w : World}

theorem heap_alloc_new (w : World) (o : Obj) : (w.alloc o).heap[w.heap.size]? = some o := by
  show (w.heap.push o)[w.heap.size]? = _
  simp
theorem run_setObj {r : Nat} {o o' : Obj} (h : w.heap[r]? = some o') (hc : ∀ c e f, o' ≠ .cells c e f) : (setObj r o).run P w = .ok () { w with heap := w.heap.setIfInBounds r o } := by
  cases o' <;> first | exact absurd rfl (hc _ _ _) | simp [setObj, Sem.run, h]
theorem foll_set (w : World) (r : Nat) (o : Obj) : Foll w { w with heap := w.heap.setIfInBounds r o } := ⟨rfl, rfl, rfl, by simp⟩
theorem SRel.updObj (hs : SRel w0 M st w) {id : Nat} (hid : id < st.size) {o : AO} (ho : (st.get id).own = true) {x : Obj}
    (hrel : ORel w0.heap.size M st.size o (M id) { w with heap := w.heap.setIfInBounds (M id).b x }) :
    SRel w0 M (st.set id o) { w with heap := w.heap.setIfInBounds (M id).b x } ∧ Ext M st w M (st.set id o) { w with heap := w.heap.setIfInBounds (M id).b x } :=
  hs.upd hid ho (foll_set w _ _) (fun b _ hne => by simp [Array.getElem?_setIfInBounds_ne (Ne.symm hne)]) hrel

theorem flatSame_sound {a b : AV} {va vb : Value} (h : flatSame a b = true) (ha : VR M n a va) (hb : VR M n b vb) (d : Nat) : Instr.sameBits d va vb = true := by
  unfold flatSame at h
  split at h
  · simp only [VR] at ha hb; subst ha hb; simpa [Instr.sameBits] using h
  · simp only [VR] at ha hb; subst ha hb; simpa [Instr.sameBits] using h
  · simp only [VR] at ha hb; subst ha hb; simpa [Instr.sameBits] using h
  · cases h
theorem sameA_sound {a b : AV} {va vb : Value} (h : sameA a b = true) (ha : VR M n a va) (hb : VR M n b vb) : Instr.sameBits 10000 va vb = true := by
  unfold sameA at h
  split at h
  · rename_i xs ys
    simp only [VR] at ha hb
    obtain ⟨xs', rfl, hx⟩ := ha
    obtain ⟨ys', rfl, hy⟩ := hb
    simp only [Bool.and_eq_true, beq_iff_eq, List.all_eq_true] at h
    obtain ⟨h1, h2⟩ := h
    show Instr.sameBits (9999 + 1) (.agg xs') (.agg ys') = true
    simp only [Instr.sameBits, Bool.and_eq_true, beq_iff_eq, List.all_eq_true]
    have lx := VRs.length hx
    have ly := VRs.length hy
    simp only [Array.length_toList] at lx ly
    refine ⟨by omega, fun p hp => ?_⟩
    obtain ⟨i, hi⟩ := List.getElem?_of_mem hp
    rw [List.getElem?_zip_eq_some] at hi
    obtain ⟨h3, h4⟩ := hi
    have hlx : i < xs.length := by have := (List.getElem?_eq_some_iff.1 h3).1; simp at this; omega
    have hly : i < ys.length := by omega
    obtain ⟨u, hu, hur⟩ := hx.get (List.getElem?_eq_getElem hlx)
    obtain ⟨v, hv, hvr⟩ := hy.get (List.getElem?_eq_getElem hly)
    rw [h3] at hu; rw [h4] at hv
    obtain rfl := Option.some.inj hu
    obtain rfl := Option.some.inj hv
    refine flatSame_sound (h2 (xs[i], ys[i]) ?_) hur hvr 9999
    rw [List.mem_iff_getElem?]
    exact ⟨i, by rw [List.getElem?_zip_eq_some]; exact ⟨List.getElem?_eq_getElem hlx, List.getElem?_eq_getElem hly⟩⟩
  · exact flatSame_sound h ha hb _

theorem VRes.append {a b : List (AV × AV × Nat)} {v u : List MapEntry} (h : VRes M n a v) (h' : VRes M n b u) : VRes M n (a ++ b) (v ++ u) := by
  induction a generalizing v with
  | nil => simp [VRes] at h; simpa [h] using h'
  | cons x a ih =>
    simp only [VRes] at h
    obtain ⟨y, vs', rfl, h1, h2⟩ := h
    exact VRes_cons.2 ⟨h1, ih h2⟩
theorem VRes.set {a : List (AV × AV × Nat)} {v : List MapEntry} (h : VRes M n a v) {i : Nat} {x : AV × AV × Nat} {y : MapEntry} (hx : VRe M n x y) : VRes M n (a.set i x) (v.set i y) := by
  rw [VRes_iff] at h ⊢
  refine ⟨by simp [h.1], fun j z hz => ?_⟩
  rw [List.getElem?_set] at hz ⊢
  by_cases e : i = j
  · subst e
    simp only [if_true] at hz ⊢
    by_cases hl : i < a.length
    · rw [if_pos hl] at hz; rw [if_pos (by omega)]; obtain rfl := Option.some.inj hz; exact ⟨y, rfl, hx⟩
    · rw [if_neg hl] at hz; cases hz
  · rw [if_neg e] at hz ⊢; exact h.2 j z hz
theorem VRes.erase {a : List (AV × AV × Nat)} {v : List MapEntry} (h : VRes M n a v) (i : Nat) : VRes M n (a.eraseIdx i) (v.eraseIdx i) := by
  induction a generalizing v i with
  | nil => simp [VRes] at h; simp [h, VRes]
  | cons x a ih =>
    simp only [VRes] at h
    obtain ⟨y, vs', rfl, h1, h2⟩ := h
    cases i with
    | zero => simpa using h2
    | succ i => simp only [List.eraseIdx_cons_succ]; exact VRes_cons.2 ⟨h1, ih h2 i⟩

theorem mapUpdate_sound {t : TypeId} {m key x : AV} {vm vk vx : Value} {st' : St} (h : mapUpdateA P t m key x st = some st') (hs : SRel w0 M st w) (hm : VR M st.size m vm) (hk : VR M st.size key vk) (hx : VR M st.size x vx) :
    StepsU w0 M st w P (Instr.mapUpdate t vm vk vx) st' := by
  unfold mapUpdateA at h
  split at h
  · rename_i kt e id hu
    simp only [VR] at hm
    obtain ⟨hid, rfl⟩ := hm
    split at h
    · rename_i es clock ho
      obtain ⟨hbase, es', hb, hr⟩ := hs.map hid ho
      have hown : (st.get id).own = true := by rw [ho]; rfl
      split at h
      · rename_i hko
        obtain ⟨kind, hkind⟩ := keyOk_under hko
        have hchk := keyOk_sound (M := M) (n := st.size) w false _ _ _ _ hko hk 10000 (by decide)
        have hso : ∀ o : Obj, (setObj (M id).b o).run P w = .ok () { w with heap := w.heap.setIfInBounds (M id).b o } := fun o => run_setObj hb (by simp)
        have hlt : (M id).b < w.heap.size := (Array.getElem?_eq_some_iff.1 hb).1
        split at h
        · rename_i i v hf
          split at h
          · rename_i old ov b hi
            split at h
            · rename_i hsame
              obtain rfl := Option.some.inj h
              obtain ⟨r', hr', hfr⟩ := find_sound hkind hk w hf hr
              cases r' with
              | none => exact hfr.elim
              | some p =>
                obtain ⟨j, v'⟩ := p
                obtain ⟨rfl, hv⟩ := hfr
                obtain ⟨e0, he0, hke, hve, hbe⟩ := (VRes_iff.1 hr).2 i _ hi
                have hsb := sameA_sound hsame hke hk
                rw [getElem?_toList] at he0
                have hkt : (Instr.keyThatStays (((es'[i]?).map (·.key)).getD vk) vk).run P w = .ok vk w := by
                  rw [he0]; simp [Instr.keyThatStays, hsb]
                obtain ⟨h1, h2⟩ := hs.updObj (o := .map (es.set i (key, x, b)) clock) (x := .map (es'.modify i fun e => { e with key := vk, val := vx }) clock) hid hown ⟨hbase, es'.modify i fun e => { e with key := vk, val := vx }, by simp [hlt], by
                  have hi' : i < es'.size := (Array.getElem?_eq_some_iff.1 he0).1
                  have : (es'.modify i fun e => { e with key := vk, val := vx }).toList = es'.toList.set i { e0 with key := vk, val := vx } := by
                    apply List.ext_getElem?
                    intro j
                    rw [getElem?_toList, Array.getElem?_modify, List.getElem?_set]
                    by_cases ej : i = j
                    · subst ej; simp [hi']; rw [(Array.getElem?_eq_some_iff.1 he0).2]
                    · simp [ej]
                  rw [this]
                  exact hr.set ⟨hk, hx, hbe⟩⟩
                exact ⟨_, M, by simp [Instr.mapUpdate, run_underlying hu, run_getObj_map hb, hchk, hr', hkt, hso], h1, h2⟩
            · cases h
          · cases h
        · rename_i hf
          obtain rfl := Option.some.inj h
          obtain ⟨r', hr', hfr⟩ := find_sound hkind hk w hf hr
          cases r' with
          | some p => exact hfr.elim
          | none =>
            obtain ⟨h1, h2⟩ := hs.updObj (o := .map (es ++ [(key, x, clock)]) (clock + 1)) (x := .map (es'.push { key := vk, val := vx, born := clock }) (clock + 1)) hid hown ⟨hbase, es'.push { key := vk, val := vx, born := clock }, by simp [hlt], by
              rw [Array.toList_push]
              exact hr.append (VRes_cons.2 ⟨⟨hk, hx, rfl⟩, by simp [VRes]⟩)⟩
            exact ⟨_, M, by simp [Instr.mapUpdate, run_underlying hu, run_getObj_map hb, hchk, hr', hso], h1, h2⟩
        · cases h
      · cases h
    · cases h
  · cases h

theorem delete_sound {t : TypeId} {m key : AV} {vm vk : Value} {st' : St} (ts : Array TypeId) (ht : ts[0]? = some t) (ty : TypeId) (h : deleteA P t m key st = some st') (hs : SRel w0 M st w) (hm : VR M st.size m vm) (hk : VR M st.size key vk) :
    ∃ w' M', (Builtin.delete_ ts ty #[vm, vk]).run P w = .ok (.tuple #[]) w' ∧ SRel w0 M' st' w' ∧ Ext M st w M' st' w' := by
  unfold deleteA at h
  split at h
  · rename_i kt e hu
    simp only [VR] at hm
    subst hm
    split at h
    · rename_i hko
      obtain rfl := Option.some.inj h
      have hchk := keyOk_sound (M := M) (n := st.size) w true _ _ _ _ hko hk 10000 (by decide)
      exact ⟨w, M, by simp [Builtin.delete_, ht, run_underlying hu, hchk], hs, Ext.refl _ _ _⟩
    · cases h
  · rename_i kt e id hu
    simp only [VR] at hm
    obtain ⟨hid, rfl⟩ := hm
    split at h
    · rename_i es clock ho
      obtain ⟨hbase, es', hb, hr⟩ := hs.map hid ho
      have hown : (st.get id).own = true := by rw [ho]; rfl
      split at h
      · rename_i hko
        obtain ⟨kind, hkind⟩ := keyOk_under hko
        have hchk := keyOk_sound (M := M) (n := st.size) w es'.isEmpty _ _ _ _ hko hk 10000 (by decide)
        have hso : ∀ o : Obj, (setObj (M id).b o).run P w = .ok () { w with heap := w.heap.setIfInBounds (M id).b o } := fun o => run_setObj hb (by simp)
        have hlt : (M id).b < w.heap.size := (Array.getElem?_eq_some_iff.1 hb).1
        split at h
        · rename_i i v hf
          obtain rfl := Option.some.inj h
          obtain ⟨r', hr', hfr⟩ := find_sound hkind hk w hf hr
          cases r' with
          | none => exact hfr.elim
          | some p =>
            obtain ⟨j, v'⟩ := p
            obtain ⟨rfl, hv⟩ := hfr
            obtain ⟨h1, h2⟩ := hs.updObj (o := .map (es.eraseIdx i) clock) (x := .map (es'.eraseIdxIfInBounds i) clock) hid hown ⟨hbase, es'.eraseIdxIfInBounds i, by simp [hlt], by
              rw [Array.toList_eraseIdxIfInBounds]; exact hr.erase i⟩
            exact ⟨_, M, by simp [Builtin.delete_, ht, run_underlying hu, run_getObj_map hb, hchk, hr', hso], h1, h2⟩
        · rename_i hf
          obtain rfl := Option.some.inj h
          obtain ⟨r', hr', hfr⟩ := find_sound hkind hk w hf hr
          cases r' with
          | some p => exact hfr.elim
          | none =>
            obtain ⟨h1, h2⟩ := hs.updObj (o := .map es clock) (x := .map es' clock) hid hown ⟨hbase, es', by simp [hlt], hr⟩
            have e : st.set id (.map es clock) = st := by
              obtain ⟨l⟩ := st
              simp only [St.set, St.mk.injEq, and_true]
              apply List.ext_getElem?
              intro j
              rw [List.getElem?_set]
              by_cases ej : id = j
              · subst ej
                have hl : id < l.length := hid
                have : (l[id]?).getD .dead = .map es clock := ho
                rw [List.getElem?_eq_getElem hl] at this ⊢
                simp [hl] at this ⊢
                exact this.symm
              · simp [ej]
            rw [e] at h1 h2
            exact ⟨_, M, by simp [Builtin.delete_, ht, run_underlying hu, run_getObj_map hb, hchk, hr', hso], h1, h2⟩
        · cases h
      · cases h
    · cases h
  · cases h

theorem clear_sound {t : TypeId} {m : AV} {vm : Value} {st' : St} (ts : Array TypeId) (ht : ts[0]? = some t) (ty : TypeId) (h : clearA P t m st = some st') (hs : SRel w0 M st w) (hm : VR M st.size m vm) :
    ∃ w' M', (Builtin.clear_ ts ty #[vm]).run P w = .ok (.tuple #[]) w' ∧ SRel w0 M' st' w' ∧ Ext M st w M' st' w' := by
  unfold clearA at h
  split at h
  · rename_i d hu
    simp only [VR] at hm
    subst hm
    obtain rfl := Option.some.inj h
    exact ⟨w, M, by simp [Builtin.clear_, ht, run_underlying hu], hs, Ext.refl _ _ _⟩
  · rename_i kt e id hu
    simp only [VR] at hm
    obtain ⟨hid, rfl⟩ := hm
    split at h
    · rename_i es clock ho
      obtain ⟨hbase, es', hb, hr⟩ := hs.map hid ho
      obtain rfl := Option.some.inj h
      have hso : ∀ o : Obj, (setObj (M id).b o).run P w = .ok () { w with heap := w.heap.setIfInBounds (M id).b o } := fun o => run_setObj hb (by simp)
      have hlt : (M id).b < w.heap.size := (Array.getElem?_eq_some_iff.1 hb).1
      obtain ⟨h1, h2⟩ := hs.updObj (o := .map [] clock) (x := .map #[] clock) hid (by rw [ho]; rfl) ⟨hbase, #[], by simp [hlt], by simp [VRes]⟩
      exact ⟨_, M, by simp [Builtin.clear_, ht, run_underlying hu, run_getObj_map hb, hso], h1, h2⟩
    · cases h
  · cases h

theorem range_sound {t : TypeId} {x y : AV} {v : Value} {st' : St} (h : rangeA P t x st = some (y, st')) (hs : SRel w0 M st w) (hv : VR M st.size x v) : Steps1 w0 M st w P (Instr.range t v) y st' := by
  unfold rangeA at h
  split at h
  · rename_i k e hu
    obtain ⟨rfl, rfl⟩ := Prod.mk.inj (Option.some.inj h)
    simp only [VR] at hv; subst hv
    obtain ⟨h1, h2⟩ := hs.fresh (o := .iter none 0 [] 0) (sz := 0) (x := .mapIter none 0 #[] 0) (w' := w.alloc (.mapIter none 0 #[] 0)) rfl (World.foll_alloc w _) ⟨hs.base, #[], heap_alloc_new w _, rfl, fun i hi => by cases hi⟩
    refine ⟨.pointer (some ⟨w.heap.size, 0, none⟩), _, _, by simp [Instr.range, run_underlying hu], ?_, h1, h2⟩
    simp only [VR, Mput_same, St.size_push]
    exact ⟨by omega, trivial⟩
  · rename_i k e id hu
    simp only [VR] at hv
    obtain ⟨hid, rfl⟩ := hv
    split at h
    · rename_i es clock ho
      obtain ⟨rfl, rfl⟩ := Prod.mk.inj (Option.some.inj h)
      obtain ⟨hbase, es', hb, hr⟩ := hs.map hid ho
      obtain ⟨h1, h2⟩ := hs.fresh (o := .iter (some id) clock [] clock) (sz := 0) (x := .mapIter (some (M id).b) clock #[] clock) (w' := w.alloc (.mapIter (some (M id).b) clock #[] clock)) rfl (World.foll_alloc w _)
        ⟨hs.base, #[], by refine (heap_alloc_new w _).trans ?_; simp [Mput_lt _ _ _ _ hid], rfl, fun i hi => by cases hi; omega⟩
      refine ⟨.pointer (some ⟨w.heap.size, 0, none⟩), _, _, by simp [Instr.range, run_underlying hu, run_getObj_map hb], ?_, h1, h2⟩
      simp only [VR, Mput_same, St.size_push]
      exact ⟨by omega, trivial⟩
    · cases h
  · cases h
theorem makeMap_sound (hs : SRel w0 M st w) {t : TypeId} {r : Option Value} (hr : r = none ∨ ∃ k i d e, r = some (.int k i) ∧ P.underlying t = some (.map d e)) : Steps1 w0 M st w P (Instr.makeMap t r) (.map st.size) (st.push (.map [] 0)) := by
  obtain ⟨h1, h2⟩ := hs.fresh (o := .map [] 0) (sz := 0) (x := .map #[] 0) (w' := w.alloc (.map #[] 0)) rfl (World.foll_alloc w _) ⟨hs.base, #[], heap_alloc_new w _, by simp [VRes]⟩
  refine ⟨.map (some w.heap.size), w.alloc (.map #[] 0), _, ?_, ?_, h1, h2⟩
  · rcases hr with rfl | ⟨k, i, d, e, rfl, hu⟩
    · simp [Instr.makeMap]
    · simp [Instr.makeMap, run_underlying hu, asInt, asIntOf]
  · simp only [VR, Mput_same, St.size_push]
    exact ⟨by omega, trivial⟩
end Go.Ab
