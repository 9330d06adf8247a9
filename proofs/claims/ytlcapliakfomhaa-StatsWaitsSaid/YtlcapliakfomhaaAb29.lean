/- THE ABSTRACT EVALUATOR, 29: maps in a store, for proofs over the typed form. -/
import Derived.Test.YtlcapliakfomhaaAb28
set_option linter.all false
namespace Go.Ab

/-! Pairs of keys and values, as a map keeps them. -/
section
variable {κ ν : Type} [DecidableEq κ]
def findK (a : κ) : List (κ × ν) → Nat → Option (Nat × ν)
  | [], _ => none
  | (k, v) :: r, i => if a = k then some (i, v) else findK a r (i + 1)
def getK (a : κ) (l : List (κ × ν)) : Option ν := (findK a l 0).map (·.2)
def putK (a : κ) (v : ν) (l : List (κ × ν)) : List (κ × ν) := match findK a l 0 with
  | some (i, _) => l.set i (a, v)
  | none => l ++ [(a, v)]
def delK (a : κ) (l : List (κ × ν)) : List (κ × ν) := match findK a l 0 with
  | some (i, _) => l.eraseIdx i
  | none => l
theorem findK_some {a : κ} {v : ν} : ∀ {l : List (κ × ν)} {i j : Nat}, findK a l i = some (j, v) → i ≤ j ∧ l[j - i]? = some (a, v) ∧ ∀ m, m < j - i → ∀ p, l[m]? = some p → p.1 ≠ a
  | [], i, j, h => by simp [findK] at h
  | (k, w) :: r, i, j, h => by
    unfold findK at h
    split at h
    · rename_i hk
      simp only [Option.some.injEq, Prod.mk.injEq] at h
      obtain ⟨rfl, rfl⟩ := h
      subst hk
      simp
    · rename_i hk
      obtain ⟨h1, h2, h3⟩ := findK_some h
      have e : j - i = (j - (i + 1)) + 1 := by omega
      refine ⟨by omega, by rw [e]; simpa using h2, fun m hm p hp => ?_⟩
      cases m with
      | zero => simp at hp; subst hp; exact fun h => hk h.symm
      | succ m => exact h3 m (by omega) p (by simpa using hp)
theorem findK_none {a : κ} : ∀ {l : List (κ × ν)} {i : Nat}, findK a l i = none ↔ ∀ p ∈ l, p.1 ≠ a
  | [], i => by simp [findK]
  | (k, w) :: r, i => by
    unfold findK
    split
    · rename_i hk; simp [hk]
    · rename_i hk
      rw [findK_none]
      simp only [List.mem_cons, forall_eq_or_imp]
      exact ⟨fun h => ⟨fun h' => hk h'.symm, h⟩, fun h => h.2⟩
theorem getK_none {a : κ} {l : List (κ × ν)} : getK a l = none ↔ ∀ p ∈ l, p.1 ≠ a := by
  unfold getK; rw [Option.map_eq_none_iff, findK_none]
theorem getK_mem {a : κ} {v : ν} {l : List (κ × ν)} (h : getK a l = some v) : (a, v) ∈ l := by
  unfold getK at h
  obtain ⟨⟨j, w⟩, h1, rfl⟩ := Option.map_eq_some_iff.1 h
  exact List.mem_of_getElem? (findK_some h1).2.1
def KeysND (l : List (κ × ν)) : Prop := (l.map (·.1)).Nodup
theorem getK_of_mem {a : κ} {v : ν} : ∀ {l : List (κ × ν)}, KeysND l → (a, v) ∈ l → getK a l = some v
  | [], _, h => by simp at h
  | (k, w) :: r, hn, h => by
    unfold KeysND at hn
    simp only [List.map_cons, List.nodup_cons] at hn
    have hr : ∀ i, (findK a r i).map (·.2) = getK a r := by
      intro i
      have key : ∀ (r : List (κ × ν)) (i j : Nat), (findK a r i).map (·.2) = (findK a r j).map (·.2) := by
        intro r
        induction r with
        | nil => intro i j; rfl
        | cons p r ih =>
          intro i j
          obtain ⟨k, w⟩ := p
          unfold findK
          split
          · rfl
          · exact ih _ _
      exact key r i 0
    unfold getK findK
    rcases List.mem_cons.1 h with h | h
    · cases h; simp
    · have hm : (a, v) ∈ r := h
      have : a ≠ k := by rintro rfl; exact hn.1 (List.mem_map_of_mem (f := (·.1)) hm)
      rw [if_neg this, hr]
      exact getK_of_mem hn.2 h
theorem KeysND.nil : KeysND ([] : List (κ × ν)) := by simp [KeysND]
theorem putK_new {a : κ} {v : ν} {l : List (κ × ν)} (h : getK a l = none) : putK a v l = l ++ [(a, v)] := by
  unfold getK at h
  rw [Option.map_eq_none_iff] at h
  unfold putK
  rw [h]
theorem KeysND.snoc {a : κ} {v : ν} {l : List (κ × ν)} (hn : KeysND l) (h : getK a l = none) : KeysND (l ++ [(a, v)]) := by
  unfold KeysND at *
  rw [List.map_append, List.nodup_append]
  refine ⟨hn, by simp, ?_⟩
  intro x hx y hy
  simp at hy
  subst hy
  obtain ⟨p, hp, rfl⟩ := List.mem_map.1 hx
  exact getK_none.1 h p hp
theorem getK_snoc {a b : κ} {v : ν} {l : List (κ × ν)} (hn : KeysND l) (h : getK a l = none) : getK b (l ++ [(a, v)]) = if b = a then some v else getK b l := by
  split
  · rename_i e; subst e
    exact getK_of_mem (hn.snoc h) (by simp)
  · rename_i e
    cases hb : getK b l with
    | none =>
      rw [getK_none] at hb ⊢
      intro p hp
      rcases List.mem_append.1 hp with hp | hp
      · exact hb p hp
      · simp at hp; subst hp; exact fun h => e h.symm
    | some w => exact getK_of_mem (hn.snoc h) (List.mem_append_left _ (getK_mem hb))
theorem delK_none {a : κ} {l : List (κ × ν)} (h : getK a l = none) : delK a l = l := by
  unfold getK at h
  rw [Option.map_eq_none_iff] at h
  unfold delK
  rw [h]
theorem delK_eq {a : κ} : ∀ {l : List (κ × ν)}, KeysND l → delK a l = l.filter fun p => decide (p.1 ≠ a) := by
  intro l hn
  have key : ∀ (l : List (κ × ν)), KeysND l → ∀ i, (match findK a l i with | some (j, _) => l.eraseIdx (j - i) | none => l) = l.filter fun p => decide (p.1 ≠ a) := by
    intro l
    induction l with
    | nil => intro _ i; rfl
    | cons p r ih =>
      intro hn i
      obtain ⟨k, w⟩ := p
      unfold KeysND at hn
      simp only [List.map_cons, List.nodup_cons] at hn
      unfold findK
      by_cases hk : a = k
      · subst hk
        rw [if_pos rfl]
        simp only [Nat.sub_self, List.eraseIdx_cons_zero, ne_eq, List.filter_cons, not_true, decide_false]
        rw [if_neg (by simp)]
        symm
        rw [List.filter_eq_self]
        intro p hp
        simp only [decide_not, Bool.not_eq_true', decide_eq_false_iff_not]
        intro e
        exact hn.1 (e ▸ List.mem_map_of_mem (f := (·.1)) hp)
      · rw [if_neg hk]
        have := ih hn.2 (i + 1)
        rw [List.filter_cons, if_pos (by simp; exact fun h => hk h.symm), ← this]
        cases hf : findK a r (i + 1) with
        | none => rfl
        | some q =>
          obtain ⟨j, v⟩ := q
          have h1 := (findK_some hf).1
          simp only
          rw [show j - i = (j - (i + 1)) + 1 by omega, List.eraseIdx_cons_succ]
  have := key l hn 0
  unfold delK
  rw [← this]
  cases findK a l 0 with
  | none => rfl
  | some q => rfl
theorem KeysND.del {a : κ} {l : List (κ × ν)} (hn : KeysND l) : KeysND (delK a l) := by
  rw [delK_eq hn]
  unfold KeysND at *
  exact hn.sublist (List.filter_sublist.map _)
theorem getK_del {a b : κ} {l : List (κ × ν)} (hn : KeysND l) : getK b (delK a l) = if b = a then none else getK b l := by
  have hn' := hn.del (a := a)
  split
  · rename_i e; subst e
    rw [getK_none, delK_eq hn]
    intro p hp
    simpa using (List.mem_filter.1 hp).2
  · rename_i e
    cases hb : getK b l with
    | none =>
      rw [getK_none] at hb ⊢
      rw [delK_eq hn]
      exact fun p hp => hb p (List.mem_filter.1 hp).1
    | some w =>
      refine getK_of_mem hn' ?_
      rw [delK_eq hn]
      exact List.mem_filter.2 ⟨getK_mem hb, by simpa using e⟩
theorem delK_len {a : κ} {v : ν} {l : List (κ × ν)} (h : getK a l = some v) : (delK a l).length + 1 = l.length := by
  unfold getK at h
  obtain ⟨⟨j, w⟩, h1, rfl⟩ := Option.map_eq_some_iff.1 h
  have := getElem?_lt (findK_some h1).2.1
  unfold delK
  rw [h1]
  simp only
  rw [List.length_eraseIdx]
  split <;> omega
end

/-! A map in a store. -/
structure KeyEnc (P : Program) (kt : TypeId) (κ : Type) [DecidableEq κ] (ek : κ → AV) : Prop where
  eq : ∀ a b, eqA P eqDeep kt (ek a) (ek b) = some (decide (a = b))
  ok : ∀ a, keyOk P eqDeep kt (ek a) = true
  same : ∀ a, sameA (ek a) (ek a) = true
def eKI (k : Int) : AV := .int .i64 k
theorem KeyEnc.int {P : Program} {kt : TypeId} (h : P.underlying kt = some (.int .i64)) : KeyEnc P kt Int eKI where
  eq a b := by
    unfold eqDeep eqA; rw [h]; simp only [eKI, if_true]
    by_cases e : a = b <;> simp [e]
  ok a := by unfold eqDeep keyOk; rw [h]; rfl
  same a := by simp [eKI, sameA, flatSame]

section
variable {P : Program} {κ ν : Type} [DecidableEq κ] {ek : κ → AV} {ev : ν → AV} {kt : TypeId}
/-- A map's object. -/
def Mp (ek : κ → AV) (ev : ν → AV) (o : OS) (id : Nat) (l : List (κ × ν)) : Prop :=
  ∃ es clock, o[id]? = some (.map es clock) ∧ es.map (fun e => (e.1, e.2.1)) = l.map fun p => (ek p.1, ev p.2)
theorem Mp.gr {o o' : OS} {id : Nat} {l : List (κ × ν)} (h : Mp ek ev o id l) (hg : Gr o o') : Mp ek ev o' id l := by
  obtain ⟨es, c, h1, h2⟩ := h; exact ⟨es, c, hg _ _ h1, h2⟩
theorem Mp.new (o : OS) : Mp ek ev (o ++ [AO.map [] 0]) o.length ([] : List (κ × ν)) := ⟨[], 0, by simp, rfl⟩
theorem mapEs_of {o : OS} {id : Nat} {es : List (AV × AV × Nat)} {c : Nat} (h : o[id]? = some (.map es c)) : mapEs (.map id) (mk o) = some es := by
  have hget : (mk o).get id = .map es c := congrArg (fun x => x.getD AO.dead) h
  simp only [mapEs, hget]
theorem Mp.len {o : OS} {id : Nat} {l : List (κ × ν)} (h : Mp ek ev o id l) : ∃ es, mapEs (.map id) (mk o) = some es ∧ es.length = l.length := by
  obtain ⟨es, c, h1, h2⟩ := h
  refine ⟨es, mapEs_of h1, ?_⟩
  have := congrArg List.length h2
  simpa using this
theorem findA_eq (hk : KeyEnc P kt κ ek) (a : κ) : ∀ (es : List (AV × AV × Nat)) (l : List (κ × ν)) (i : Nat), es.map (fun e => (e.1, e.2.1)) = l.map (fun p => (ek p.1, ev p.2)) → findA P kt (ek a) es i = some ((findK a l i).map fun p => (p.1, ev p.2))
  | [], [], i, _ => rfl
  | e :: es, (k, v) :: l, i, h => by
    simp only [List.map_cons, List.cons.injEq, Prod.mk.injEq] at h
    obtain ⟨⟨h1, h2⟩, h3⟩ := h
    unfold findA findK
    rw [h1, hk.eq]
    by_cases e : a = k
    · simp [e, h2]
    · simp only [e, decide_false, if_false]
      exact findA_eq hk a es l (i + 1) h3
  | [], _ :: _, i, h => by simp at h
  | _ :: _, [], i, h => by simp at h
theorem Mp.lookup (hk : KeyEnc P kt κ ek) {t e : TypeId} (ht : P.underlying t = some (.map kt e)) {z : Value} (hz : (P.info? e).bind (·.zero) = some z) {o : OS} {id : Nat} {l : List (κ × ν)} (h : Mp ek ev o id l) (a : κ) :
    lookupA P t (.map id) (ek a) true (mk o) = some (match getK a l with | some v => .tuple [ev v, .bool true] | none => .tuple [ofVal z, .bool false]) := by
  obtain ⟨es, c, h1, h2⟩ := h
  unfold lookupA
  rw [ht]
  simp only [mapEs_of h1, hk.ok, if_true, findA_eq hk a es l 0 h2, getK]
  cases findK a l 0 with
  | none => simp [hz]
  | some p => simp
theorem Mp.lookup1 (hk : KeyEnc P kt κ ek) {t e : TypeId} (ht : P.underlying t = some (.map kt e)) {z : Value} (hz : (P.info? e).bind (·.zero) = some z) {o : OS} {id : Nat} {l : List (κ × ν)} (h : Mp ek ev o id l) (a : κ) :
    lookupA P t (.map id) (ek a) false (mk o) = some (match getK a l with | some v => ev v | none => ofVal z) := by
  obtain ⟨es, c, h1, h2⟩ := h
  unfold lookupA
  rw [ht]
  simp only [mapEs_of h1, hk.ok, if_true, findA_eq hk a es l 0 h2, getK]
  cases findK a l 0 with
  | none => simp [hz]
  | some p => simp
theorem Mp.update (hk : KeyEnc P kt κ ek) {t e : TypeId} (ht : P.underlying t = some (.map kt e)) {o : OS} {id : Nat} {l : List (κ × ν)} (h : Mp ek ev o id l) (a : κ) (v : ν) :
    ∃ x, mapUpdateA P t (.map id) (ek a) (ev v) (mk o) = some (mk (o.set id x)) ∧ Mp ek ev (o.set id x) id (putK a v l) := by
  obtain ⟨es, c, h1, h2⟩ := h
  have hget : (mk o).get id = .map es c := congrArg (fun x => x.getD AO.dead) h1
  have hlt := getElem?_lt h1
  unfold mapUpdateA
  rw [ht]
  simp only [hget, hk.ok, if_true, findA_eq hk a es l 0 h2]
  unfold putK
  cases hf : findK a l 0 with
  | none =>
    refine ⟨_, rfl, _, _, by rw [List.getElem?_set_self hlt], ?_⟩
    simp [h2]
  | some p =>
    obtain ⟨i, w⟩ := p
    obtain ⟨_, h4, _⟩ := findK_some hf
    simp only [Nat.sub_zero] at h4
    have hes : (es.map fun e => (e.1, e.2.1))[i]? = some (ek a, ev w) := by rw [h2]; simp [h4]
    rw [List.getElem?_map] at hes
    obtain ⟨ent, he, he2⟩ := Option.map_eq_some_iff.1 hes
    obtain ⟨k0, v0, b0⟩ := ent
    simp only [Prod.mk.injEq] at he2
    obtain ⟨rfl, rfl⟩ := he2
    simp only [Option.map_some, he, hk.same, if_true]
    refine ⟨_, rfl, _, _, by rw [List.getElem?_set_self hlt], ?_⟩
    simp only [List.map_set, h2]
theorem Mp.delete (hk : KeyEnc P kt κ ek) {t e : TypeId} (ht : P.underlying t = some (.map kt e)) {o : OS} {id : Nat} {l : List (κ × ν)} (h : Mp ek ev o id l) (a : κ) :
    ∃ o', deleteA P t (.map id) (ek a) (mk o) = some (mk o') ∧ (∃ x, o' = o.set id x) ∧ Mp ek ev o' id (delK a l) := by
  obtain ⟨es, c, h1, h2⟩ := h
  have hget : (mk o).get id = .map es c := congrArg (fun x => x.getD AO.dead) h1
  have hlt := getElem?_lt h1
  unfold deleteA
  rw [ht]
  simp only [hget, hk.ok, if_true, findA_eq hk a es l 0 h2]
  unfold delK
  cases hf : findK a l 0 with
  | none =>
    refine ⟨o, rfl, ⟨.map es c, ?_⟩, es, c, h1, h2⟩
    apply List.ext_getElem?
    intro j
    rw [List.getElem?_set]
    split
    · rename_i e; subst e; first | exact h1 | rw [if_pos hlt, h1]
    · rfl
  | some p =>
    obtain ⟨i, w⟩ := p
    refine ⟨_, rfl, ⟨_, rfl⟩, _, _, by rw [List.getElem?_set_self hlt], ?_⟩
    have em : ∀ {α β : Type} (f : α → β) (l : List α) (i : Nat), (l.eraseIdx i).map f = (l.map f).eraseIdx i := by
      intro α β f l
      induction l with
      | nil => intro i; simp
      | cons a l ih => intro i; cases i <;> simp [ih]
    rw [em, h2, em]
theorem Mp.clear {t e : TypeId} (ht : P.underlying t = some (.map kt e)) {o : OS} {id : Nat} {l : List (κ × ν)} (h : Mp ek ev o id l) :
    ∃ x, clearA P t (.map id) (mk o) = some (mk (o.set id x)) ∧ Mp ek ev (o.set id x) id ([] : List (κ × ν)) := by
  obtain ⟨es, c, h1, h2⟩ := h
  have hget : (mk o).get id = .map es c := congrArg (fun x => x.getD AO.dead) h1
  have hlt := getElem?_lt h1
  refine ⟨.map [] c, ?_, [], c, by rw [List.getElem?_set_self hlt], rfl⟩
  unfold clearA
  rw [ht]
  simp only [hget]
  rfl
end
end Go.Ab
