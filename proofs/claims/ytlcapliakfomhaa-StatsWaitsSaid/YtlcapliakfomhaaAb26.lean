/- THE ABSTRACT EVALUATOR, 26: what the typed form tells holds of a call. -/
import Derived.Test.YtlcapliakfomhaaAb25
namespace Go.Ab
def le (e e' : Env) : Prop := ∀ t, e.has t = true → e.get t = e'.get t
theorem le.refl (e : Env) : le e e := fun _ _ => rfl
theorem has_put (e : Env) (d t : Nat) (v : AV) : (e.put (some d) v).has t = (Nat.beq d t || e.has t) := by
  simp only [Env.put, Env.has]; cases Nat.beq d t <;> rfl
theorem le.put {e e' : Env} (h : le e e') (d : Option Nat) (v : AV) : le (e.put d v) (e'.put d v) := by
  cases d with
  | none => exact h
  | some d =>
    intro t ht
    simp only [Env.put, Env.get, Env.has] at ht ⊢
    cases hb : Nat.beq d t
    · rw [hb] at ht; exact h t ht
    · rfl
theorem get_has {e : Env} {t : Nat} (h : e.get t ≠ .unk) : e.has t = true := by
  induction e with
  | nil => exact absurd rfl h
  | cons x e ih =>
    obtain ⟨i, v⟩ := x
    simp only [Env.get, Env.has] at h ⊢
    cases hb : Nat.beq i t
    · rw [hb] at h; exact ih h
    · rfl
theorem le.know {e e' : Env} (h : le e e') {t : Nat} {v : AV} (hv : e.get t = v) (hn : v ≠ .unk) : le (e.put (some t) v) e' := by
  intro u hu
  have ht := get_has (e := e) (t := t) (by rw [hv]; exact hn)
  simp only [Env.put, Env.get, Env.has] at hu ⊢
  cases hb : Nat.beq t u
  · rw [hb] at hu; exact h u hu
  · obtain rfl := Nat.eq_of_beq_eq_true hb
    simp only; rw [← hv]; exact h t ht
theorem opd_le {e e' : Env} (h : le e e') {x : Operand} (hx : okO e x = true) : opd e x = opd e' x := by
  cases x <;> simp only [opd, okO] at *
  exact h _ hx
theorem map_opd_le {e e' : Env} (h : le e e') {l : List Operand} (hl : ∀ x ∈ l, okO e x = true) : l.map (opd e) = l.map (opd e') :=
  List.map_congr_left fun x hx => opd_le h (hl x hx)

section
variable {P : Program}
theorem prim_le {e e' : Env} (h : le e e') {op : Op} (ho : op.operands.toList.all (okO e) = true) (st : St) : primA P e op st = primA P e' op st := by
  have key : ∀ x ∈ op.operands.toList, opd e x = opd e' x := fun x hx => opd_le h (List.all_eq_true.1 ho x hx)
  have pm : ∀ (ps : Array (Nat × Operand)), (∀ x ∈ ps.toList.map (·.2), opd e x = opd e' x) → (ps.toList.map fun p => (p.1, opd e p.2)) = (ps.toList.map fun p => (p.1, opd e' p.2)) :=
    fun ps hps => List.map_congr_left fun p hp => by rw [hps p.2 (List.mem_map_of_mem hp)]
  have mm : ∀ (ps : Array Operand), (∀ x ∈ ps.toList, opd e x = opd e' x) → ps.toList.map (opd e) = ps.toList.map (opd e') :=
    fun ps hps => List.map_congr_left hps
  cases op with
  | build t ps => simp only [primA]; rw [pm ps (by simpa [Op.operands] using key)]
  | buildSlice t n ps => simp only [primA]; rw [pm ps (by simpa [Op.operands] using key)]
  | makeFunc f a b =>
    simp only [Op.operands, Array.toList_append, List.mem_append] at key
    cases f <;> simp only [primA]
    rw [mm a (fun x hx => key x (.inl hx)), mm b (fun x hx => key x (.inr hx))]
  | makeMap t r =>
    cases r with
    | none => rfl
    | some x => simp only [primA]; rw [key x (by simp [Op.operands])]
  | slice t x l hh m =>
    simp only [Op.operands] at key
    have k1 : opd e x = opd e' x := key x (by simp)
    have k2 : l.map (opd e) = l.map (opd e') := by cases l with | none => rfl | some y => simp [key y (by simp)]
    have k3 : hh.map (opd e) = hh.map (opd e') := by cases hh with | none => rfl | some y => simp [key y (by simp)]
    have k4 : m.map (opd e) = m.map (opd e') := by cases m with | none => rfl | some y => simp [key y (by simp)]
    simp only [primA]; rw [k1, k2, k3, k4]
  | call c =>
    obtain ⟨callee, args, ts⟩ := c
    cases callee <;> simp only [primA]
    rw [mm args (fun x hx => key x (by simpa [Op.operands, Call.operands] using hx))]
  | _ => simp [Op.operands] at key <;> simp only [primA] <;> simp_all

theorem exN_sound : ∀ {n : Nat} {F : List AV → Prop}, exN n F → ∃ v, F v
  | 0, _, h => ⟨_, h⟩
  | _ + 1, _, h => by obtain ⟨v, h⟩ := h; obtain ⟨vs, h⟩ := exN_sound h; exact ⟨_, h⟩
theorem exC_sound {c : CK} {F : AV → Prop} (h : exC c F) : ∃ v, F v := by
  cases c <;> first | (obtain ⟨x, h⟩ := h; exact ⟨_, h⟩) | (simp only [exC] at h; obtain ⟨x, h⟩ := exN_sound h; obtain ⟨y, h⟩ := exN_sound h; exact ⟨_, h⟩)
theorem exCs_sound : ∀ {cs : List CK} {F : List AV → Prop}, exCs cs F → ∃ v, F v
  | [], _, h => ⟨_, h⟩
  | _ :: _, _, h => by obtain ⟨v, h⟩ := exC_sound h; obtain ⟨vs, h⟩ := exCs_sound h; exact ⟨_, h⟩
theorem exV_sound {c : VK} {F : AV → Prop} (h : exV c F) : ∃ v, F v := by
  cases c
  · exact exC_sound h
  · obtain ⟨v, h⟩ := exCs_sound h; exact ⟨_, h⟩
theorem exVs_sound : ∀ {cs : List VK} {F : List AV → Prop}, exVs cs F → ∃ v, F v
  | [], _, h => ⟨_, h⟩
  | _ :: _, _, h => by obtain ⟨v, h⟩ := exV_sound h; obtain ⟨vs, h⟩ := exVs_sound h; exact ⟨_, h⟩
theorem ty_sound {k : VK} {r : Option AV} {K : AV → Prop} (h : ty k r K) : ∃ v, r = some v ∧ K v := exV_sound h

theorem one_cells' {v : AV} (h : v.one = true) : v.cells = [v] := by cases v <;> simp_all [AV.one, AV.cells]
theorem gCell_sound {c : CK} {v : AV} {A : Prop} (h : gCell c v A) : v.one = true ∧ A := by
  cases c <;> cases v <;> simp_all [gCell, AV.one]
theorem gCells_sound : ∀ {ks : List CK} {vs : List AV} {A : Prop}, gCells ks vs A → vs.all AV.one = true ∧ A
  | [], [], _, h => ⟨rfl, h⟩
  | c :: ks, v :: vs, _, h => by
    obtain ⟨h1, h⟩ := gCell_sound h
    obtain ⟨h2, h⟩ := gCells_sound h
    exact ⟨by simp [h1]; simpa using h2, h⟩
  | [], _ :: _, _, h => h.elim
  | _ :: _, [], _, h => h.elim
theorem gVal_sound {k : VK} {v : AV} {K : List AV → Prop} (h : gVal k v K) : v.cells.all AV.one = true ∧ K v.cells := by
  cases k with
  | one c =>
    obtain ⟨h1, h⟩ := gCell_sound h
    rw [one_cells' h1]
    exact ⟨by simp [h1], h⟩
  | agg ks =>
    cases v <;> simp only [gVal] at h
    exact gCells_sound h
theorem gFill_sound {place : Nat → Option (Nat × Nat)} {kind : Nat → VK} : ∀ {parts : List (Nat × AV)} {cells : List AV} {K : List AV → Prop}, gFill place kind cells parts K → ∃ cs, fillA place cells parts = some cs ∧ K cs
  | [], cells, K, h => ⟨cells, rfl, h⟩
  | (i, v) :: rest, cells, K, h => by
    unfold gFill at h
    unfold fillA
    cases hp : place i with
    | none => rw [hp] at h; exact h.elim
    | some p =>
      obtain ⟨off, size⟩ := p
      rw [hp] at h
      obtain ⟨h1, h⟩ := gVal_sound h
      cases hc : (v.cells.length == size && decide (off + v.cells.length ≤ cells.length)) with
      | false => rw [hc] at h; exact h.elim
      | true =>
        rw [hc] at h
        obtain ⟨cs, h2, h3⟩ := gFill_sound h
        refine ⟨cs, ?_, h3⟩
        simp only [hc, h1, Bool.and_self, if_true]
        exact h2
theorem gBuild_sound {t : TypeId} {parts : List (Nat × AV)} {K : AV → Prop} (h : gBuild P t parts K) : ∃ v, buildA P t parts = some v ∧ K v := by
  unfold gBuild at h
  unfold buildA
  split at h
  · split at h
    · rename_i hf
      simp only [*]
      obtain ⟨cs, h1, h2⟩ := gFill_sound h
      refine ⟨.agg cs, ?_, h2⟩
      simp [h1]
    · exact h.elim
  · split at h
    · simp only [*]
      obtain ⟨cs, h1, h2⟩ := gFill_sound h
      exact ⟨.agg cs, by rw [h1]; rfl, h2⟩
    · exact h.elim
  · exact h.elim

theorem bnd_eq {α : Type} (x : α) (K : α → Prop) : bnd x K = K x := rfl
theorem cnd_sound {b : Bool} {A B : Prop} (h : cnd b A B) : (b = true ∧ A) ∨ (b = false ∧ B) := by
  unfold cnd at h
  split at h
  · exact .inl ⟨by assumption, h⟩
  · exact .inr ⟨by simp_all, h⟩
theorem eqA_nilS {t e : TypeId} (ht : P.underlying t = some (.slice e)) {x y : AV} {b : Bool} (h : nilS2 x y = some b) : eqA P eqDeep t x y = some b ∧ isAggA x = false ∧ ∀ op, binA P op t x y = match op with
    | .eql => if isAggA x && P.eqGuardType P.depth t then none else (eqA P eqDeep t x y).map .bool
    | .neq => if isAggA x && P.eqGuardType P.depth t then none else (eqA P eqDeep t x y).map fun b => .bool !b
    | _ => none := by
  refine ⟨?_, ?_, ?_⟩
  · unfold eqDeep eqA; rw [ht]; cases x <;> cases y <;> simp_all [nilS2, nilS]
  · cases x <;> cases y <;> simp_all [nilS2, nilS, isAggA]
  · intro op; unfold binA; cases x <;> cases y <;> first | rfl | (simp [nilS2, nilS] at h)
theorem eqA_nilP {t e : TypeId} (ht : P.underlying t = some (.pointer e)) {x y : AV} {b : Bool} (h : nilP2 x y = some b) : eqA P eqDeep t x y = some b ∧ isAggA x = false ∧ ∀ op, binA P op t x y = match op with
    | .eql => if isAggA x && P.eqGuardType P.depth t then none else (eqA P eqDeep t x y).map .bool
    | .neq => if isAggA x && P.eqGuardType P.depth t then none else (eqA P eqDeep t x y).map fun b => .bool !b
    | _ => none := by
  refine ⟨?_, ?_, ?_⟩
  · unfold eqDeep eqA; rw [ht]; cases x <;> cases y <;> simp_all [nilP2, nilP]
  · cases x <;> cases y <;> simp_all [nilP2, nilP, isAggA]
  · intro op; unfold binA; cases x <;> cases y <;> first | rfl | (simp [nilP2, nilP] at h)
theorem eqA_nilM {t k e : TypeId} (ht : P.underlying t = some (.map k e)) {x y : AV} {b : Bool} (h : nilM2 x y = some b) : eqA P eqDeep t x y = some b ∧ isAggA x = false ∧ ∀ op, binA P op t x y = match op with
    | .eql => if isAggA x && P.eqGuardType P.depth t then none else (eqA P eqDeep t x y).map .bool
    | .neq => if isAggA x && P.eqGuardType P.depth t then none else (eqA P eqDeep t x y).map fun b => .bool !b
    | _ => none := by
  refine ⟨?_, ?_, ?_⟩
  · unfold eqDeep eqA; rw [ht]; cases x <;> cases y <;> simp_all [nilM2, nilM]
  · cases x <;> cases y <;> simp_all [nilM2, nilM, isAggA]
  · intro op; unfold binA; cases x <;> cases y <;> first | rfl | (simp [nilM2, nilM] at h)
theorem eqA_nilF {t : TypeId} {a b' c} (ht : P.underlying t = some (.func a b' c)) {x y : AV} {b : Bool} (h : nilF2 x y = some b) : eqA P eqDeep t x y = some b ∧ isAggA x = false ∧ ∀ op, binA P op t x y = match op with
    | .eql => if isAggA x && P.eqGuardType P.depth t then none else (eqA P eqDeep t x y).map .bool
    | .neq => if isAggA x && P.eqGuardType P.depth t then none else (eqA P eqDeep t x y).map fun b => .bool !b
    | _ => none := by
  refine ⟨?_, ?_, ?_⟩
  · unfold eqDeep eqA; rw [ht]; cases x <;> cases y <;> simp_all [nilF2, nilF]
  · cases x <;> cases y <;> simp_all [nilF2, nilF, isAggA]
  · intro op; unfold binA; cases x <;> cases y <;> first | rfl | (simp [nilF2, nilF] at h)
theorem gNil_sound {op : BinOp} {t : TypeId} {x y : AV} {K : AV → Prop} {r : Option Bool}
    (he : ∀ b, r = some b → eqA P eqDeep t x y = some b ∧ isAggA x = false ∧ ∀ op, binA P op t x y = match op with
      | .eql => if isAggA x && P.eqGuardType P.depth t then none else (eqA P eqDeep t x y).map .bool
      | .neq => if isAggA x && P.eqGuardType P.depth t then none else (eqA P eqDeep t x y).map fun b => .bool !b
      | _ => none) (h : gNil op r K) : ∃ v, binA P op t x y = some v ∧ K v := by
  obtain ⟨b, hb, h⟩ := h
  obtain ⟨h1, h2, h3⟩ := he b hb
  rw [h3]
  cases op <;> simp only [h1, h2, Bool.false_and, Option.map_some] at h ⊢ <;> first | exact ⟨_, rfl, h⟩ | exact h.elim

theorem gInt_sound {op : BinOp} {t : TypeId} {k k' : IntKind} {a b : Int} {K : AV → Prop} (h : gInt op k k' a b K) : ∃ v, binA P op t (.int k a) (.int k' b) = some v ∧ K v := by
  unfold gInt at h
  split at h
  · obtain ⟨h1, h⟩ := h
    exact ⟨_, by simp [binA, shiftA, Int.not_lt.2 h1], h⟩
  · obtain ⟨h1, h⟩ := h
    exact ⟨_, by simp [binA, shiftA, Int.not_lt.2 h1], h⟩
  · split at h
    · obtain ⟨h1, h⟩ := h
      subst_vars
      exact ⟨_, by simp [binA, intBin, h1], h⟩
    · exact h.elim
  · split at h
    · obtain ⟨h1, h⟩ := h
      subst_vars
      exact ⟨_, by simp [binA, intBin, h1], h⟩
    · exact h.elim
  · rename_i h1 h2 h3 h4
    split at h
    · subst_vars
      have hb : ∀ k, binA P op t (.int k a) (.int k b) = intBin op k a b := by
        intro k
        cases op <;> first | (exact absurd rfl (fun h => h1 h)) | (exact absurd rfl (fun h => h2 h)) | simp [binA]
      rw [hb]
      split at h
      · rename_i hi; rw [hi]; exact ⟨_, rfl, h⟩
      · rename_i hi; rw [hi]; exact ⟨_, rfl, h⟩
      · exact h.elim
    · exact h.elim
theorem gBin_sound {op : BinOp} {t : TypeId} {x y : AV} {K : AV → Prop} (h : gBin P op t x y K) : ∃ v, binA P op t x y = some v ∧ K v := by
  unfold gBin at h
  split at h
  · split at h
    · split at h
      · exact gInt_sound h
      · exact h.elim
    · exact h.elim
  · split at h
    · split at h
      · split at h
        · obtain ⟨h1, h⟩ := h
          exact ⟨_, by simp [binA, strBin, h1], h⟩
        · unfold binA
          simp only
          split at h
          · rename_i hi; rw [hi]; exact ⟨_, rfl, h⟩
          · exact h.elim
      · exact h.elim
    · exact h.elim
  · rename_i hu
    split at h
    · split at h
      · rename_i a _ b
        have he : eqA P eqDeep t (.bool a) (.bool b) = some (a == b) := by unfold eqDeep eqA; rw [hu]
        split at h
        · exact ⟨_, by simp [binA, isAggA, he], h⟩
        · exact ⟨_, by simp [binA, isAggA, he], h⟩
        · exact h.elim
      · exact h.elim
    · exact h.elim
  · rename_i hu; exact gNil_sound (fun b hb => eqA_nilS hu hb) h
  · rename_i hu; exact gNil_sound (fun b hb => eqA_nilP hu hb) h
  · rename_i hu; exact gNil_sound (fun b hb => eqA_nilM hu hb) h
  · rename_i hu; exact gNil_sound (fun b hb => eqA_nilF hu hb) h
  · exact ty_sound h

theorem gConv_sound {s d : TypeId} {x : AV} {st : OS} {K : AV → OS → Prop} (h : gConv P s d x st K) : ∃ v st', convA P s d x (mk st) = some (v, st') ∧ K v st'.objs := by
  unfold gConv at h
  split at h
  · rename_i k hd
    split at h
    · split at h
      · rename_i hs
        exact ⟨_, mk st, by unfold convA; rw [hd, hs], h⟩
      · exact h.elim
    · exact h.elim
  · rename_i hd
    split at h
    · rename_i e hs
      split at h
      · rename_i he
        obtain ⟨l, h1, h⟩ := h
        unfold bytesO at h1
        obtain ⟨cs, h2, h3⟩ := Option.bind_eq_some_iff.1 h1
        refine ⟨.str ⟨l.toArray⟩, mk st, ?_, h⟩
        unfold convA; rw [hs, hd]
        cases x <;> simp_all [slCells]
      · exact h.elim
    · split at h
      · rename_i u hne hs _ s
        refine ⟨.str s, mk st, ?_, h⟩
        unfold convA
        rw [hs, hd]
      · exact h.elim
    · exact h.elim
  · rename_i e hd
    split at h
    · rename_i hs
      split at h
      · split at h
        · rename_i he
          obtain ⟨h1, h⟩ := h
          refine ⟨_, (mk st).push _, ?_, h⟩
          unfold convA; rw [hs, hd]; simp only [he, h1, if_true]; rfl
        · exact h.elim
      · exact h.elim
    · obtain ⟨v, st', h1, h⟩ := h
      exact ⟨v, st', h1, h⟩
  · exact h.elim
theorem gMM_sound {r : Option AV} {K : AV → Prop} (h : gMM r K) : ∃ v, r = some v ∧ K v := by
  unfold gMM at h
  split at h
  · exact ⟨_, rfl, h⟩
  · exact h.elim

theorem gBuiltin_sound {b : Builtin} {ts : Array TypeId} {args : List AV} {st : OS} {K : AV → OS → Prop} (h : gBuiltin P b ts args st K) : ∃ v st', builtinA P b ts args (mk st) = some (v, st') ∧ K v st'.objs := by
  unfold gBuiltin at h
  split at h
  · split at h
    · split at h
      · rename_i x _ t ht
        have red : builtinA P .len ts [x] (mk st) = (lenA P t x (mk st)).map (·, mk st) := by simp only [builtinA, ht]
        rw [red]
        unfold lenA
        split at h
        · rename_i hu
          split at h
          · rw [hu]; exact ⟨_, _, rfl, h⟩
          · exact h.elim
        · rename_i hu
          rw [hu]; exact ⟨_, _, rfl, h⟩
        · rename_i hu
          rw [hu]
          obtain ⟨h1, h⟩ := h
          cases x <;> simp [AV.isS] at h1 <;> exact ⟨_, _, rfl, h⟩
        · rename_i hu
          rw [hu]
          obtain ⟨es, h1, h⟩ := h
          refine ⟨_, mk st, ?_, h⟩
          cases x <;> simp_all [mapEs]
        · exact h.elim
      · exact h.elim
    · exact h.elim
  · split at h
    · rename_i x y
      split at h
      · rename_i t u ht hu
        split at h
        · rename_i e hte
          split at h
          · exact h.elim
          · rename_i uu hne huu
            split at h
            · rename_i s b z hs hb hz
              obtain ⟨v, o', h1, h⟩ := h
              unfold appO at h1
              split at h1
              · rename_i m new hn
                split at h1
                · rename_i hc
                  obtain ⟨r, h2, h3⟩ := Option.map_eq_some_iff.1 h1
                  obtain ⟨rfl, rfl⟩ := Prod.mk.inj h3
                  refine ⟨r.1, r.2, ?_, h⟩
                  simp only [builtinA, ht, hu]
                  unfold appendA
                  rw [hte, huu]
                  split
                  · rename_i h5; exact (hne _ (Option.some.inj h5)).elim
                  · rename_i h5 h6
                    cases h5
                    rw [hs, hb, hz]
                    simp only [hn]
                    rw [if_pos hc, h2]
                  · rename_i h5; exact (h5 _ _ rfl rfl).elim
                · cases h1
              · cases h1
            · exact h.elim
          · exact h.elim
        · exact h.elim
      · exact h.elim
    · exact h.elim
  · split at h
    · rename_i x y
      split at h
      · rename_i t ht
        split at h
        · rename_i e hte
          split at h
          · rename_i s hs
            obtain ⟨n, o', h1, h⟩ := h
            have red : builtinA P .copy ts [x, y] (mk st) = copyA P t x y (mk st) := by simp only [builtinA, ht]
            refine ⟨.int .i64 n, mk o', ?_, h⟩
            rw [red]
            unfold copyA
            rw [hte]
            simp only [hs]
            unfold cpO at h1
            cases hn : newOf s y (mk st) with
            | none => rw [hn] at h1; simp at h1
            | some r =>
              rw [hn] at h1
              obtain ⟨m, new⟩ := r
              cases x <;> simp only [Option.some.injEq, Prod.mk.injEq, reduceCtorEq] at h1 ⊢
              · obtain ⟨rfl, rfl⟩ := h1; simp
              · rename_i id off len cap k
                split at h1
                · rename_i h0
                  simp only [Option.some.injEq, Prod.mk.injEq] at h1
                  obtain ⟨rfl, rfl⟩ := h1
                  rw [if_pos h0]
                · rename_i h0
                  rw [if_neg h0]
                  have hget : (mk st).get id = (st[id]?).getD .dead := rfl
                  rw [hget]
                  split at h1
                  · rename_i vs hv
                    rw [hv]
                    simp only [Option.getD_some]
                    split at h1
                    · rename_i hc
                      simp only [Option.some.injEq, Prod.mk.injEq] at h1
                      obtain ⟨rfl, rfl⟩ := h1
                      rw [if_pos hc]
                      rfl
                    · cases h1
                  · cases h1
              · obtain ⟨rfl, rfl⟩ := h1; simp
              · obtain ⟨rfl, rfl⟩ := h1; simp
          · exact h.elim
        · exact h.elim
      · exact h.elim
    · exact h.elim
  · split at h
    · split at h
      · rename_i ht
        obtain ⟨s, h1, h⟩ := h
        exact ⟨_, s, by simp only [builtinA, ht, h1, Option.map_some], h⟩
      · exact h.elim
    · exact h.elim
  · split at h
    · split at h
      · rename_i ht
        obtain ⟨s, h1, h⟩ := h
        exact ⟨_, s, by simp only [builtinA, ht, h1, Option.map_some], h⟩
      · exact h.elim
    · exact h.elim
  · split at h
    · obtain ⟨v, h1, h⟩ := gMM_sound h
      exact ⟨v, mk st, by simp only [builtinA, h1, Option.map_some], h⟩
    · exact h.elim
  · split at h
    · obtain ⟨v, h1, h⟩ := gMM_sound h
      exact ⟨v, mk st, by simp only [builtinA, h1, Option.map_some], h⟩
    · exact h.elim
  · exact h.elim
end
end Go.Ab
