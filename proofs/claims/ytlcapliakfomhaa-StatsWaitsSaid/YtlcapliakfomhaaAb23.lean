/- THE ABSTRACT EVALUATOR, 23: what a reading may be, by its type. -/
import Derived.Test.YtlcapliakfomhaaAb22
namespace Go.Ab
mutual
def hasT {H : Type} (P : Program) : Nat → TypeId → DataW H → Prop
  | 0, _, _ => False
  | k + 1, t, d => match P.underlying t with
    | some .bool => ∃ b, d = .lit (.bool b)
    | some (.int kd) => ∃ n, d = .lit (.int kd n) ∧ (Lit.int kd n).wf = true
    | some .string => ∃ s : ByteArray, d = .lit (.string s.data.toList) ∧ s.size ≤ maxLen
    | some (.slice e) => d = .nil ∨ ∃ es sp, d = .slice es sp ∧ es.length + sp.length ≤ maxLen ∧ ∀ x ∈ es, hasT P k e x
    | some (.struct fs) => ∃ ps, d = .agg ps ∧ hasTs P k (fs.toList.map (·.type)) ps
    | some (.array n e) => ∃ ps, d = .agg ps ∧ ps.length = n ∧ ∀ x ∈ ps, hasT P k e x
    | _ => False
def hasTs {H : Type} (P : Program) : Nat → List TypeId → List (DataW H) → Prop
  | _, [], ds => ds = []
  | k, t :: ts, ds => ∃ d r, ds = d :: r ∧ hasT P k t d ∧ hasTs P k ts r
end
section
variable {P : Program} {w : World} {H : Type} {enc : TypeId × Value → H}
theorem hasTs_of {k : Nat} : ∀ {ts : List TypeId} {ds : List (DataW H)}, ds.length = ts.length → (∀ (i : Nat) t, ts[i]? = some t → ∃ d, ds[i]? = some d ∧ hasT P k t d) → hasTs P k ts ds
  | [], ds, hl, _ => by simp only [hasTs]; exact List.eq_nil_of_length_eq_zero hl
  | t :: ts, [], hl, _ => by simp at hl
  | t :: ts, d :: ds, hl, h => by
    simp only [hasTs]
    obtain ⟨d', hd, ht⟩ := h 0 t rfl
    simp at hd
    subst hd
    exact ⟨d, ds, rfl, ht, hasTs_of (by simpa using hl) fun i u hu => by simpa using h (i + 1) u (by simpa using hu)⟩
theorem trod_has : ∀ (fuel k : Nat) (t : TypeId) (cs : List Value) (d : DataW H) (ps : List MemPlace), DataW.trod enc P w 0 (fun _ => true) true fuel t cs = some (d, ps) → okT P k t = true → hasT P k t d
  | 0, _, _, _, _, _, h, _ => by simp [DataW.trod] at h
  | fuel + 1, 0, _, _, _, _, _, hk => by simp [okT] at hk
  | fuel + 1, k + 1, t, cs, d, ps, h, hk => by
    have ih := trod_has fuel k
    unfold okT at hk
    unfold DataW.trod at h
    unfold hasT
    split at hk
    · rename_i hu
      rw [hu] at h
      rw [hu]
      rcases cs with _ | ⟨v, _ | ⟨v2, r⟩⟩
      · simp at h
      · cases v <;> simp at h
        rename_i b
        obtain ⟨rfl, rfl⟩ := h
        exact ⟨b, rfl⟩
      · simp at h
    · rename_i kk hu
      rw [hu] at h
      rw [hu]
      rcases cs with _ | ⟨v, _ | ⟨v2, r⟩⟩
      · simp at h
      · cases v <;> simp at h
        rename_i k2 b
        obtain ⟨⟨rfl, hw⟩, rfl, rfl⟩ := h
        exact ⟨b, rfl, hw⟩
      · simp at h
    · rename_i hu
      rw [hu] at h
      rw [hu]
      rcases cs with _ | ⟨v, _ | ⟨v2, r⟩⟩
      · simp at h
      · cases v <;> simp at h
        rename_i b
        obtain ⟨hl, rfl, rfl⟩ := h
        exact ⟨b, rfl, hl⟩
      · simp at h
    · rename_i e hu
      rw [hu] at h
      rw [hu]
      simp only [Bool.and_eq_true, decide_eq_true_eq] at hk
      rcases cs with _ | ⟨v, _ | ⟨v2, r⟩⟩
      · simp at h
      · cases v
        case slice p len cap =>
          cases p with
          | none =>
            cases len <;> cases cap <;> simp at h
            exact .inl h.1.symm
          | some ad =>
            simp only [Nat.zero_le, true_and, if_true] at h
            split at h
            · rename_i hc
              obtain ⟨elems, hel, h⟩ := Option.bind_eq_some_iff.1 h
              obtain ⟨rst, hrest, h⟩ := Option.map_eq_some_iff.1 h
              obtain ⟨rfl, rfl⟩ := Prod.mk.inj h
              have h1 := (mapM_some hel).1
              have h2 := (mapM_some hrest).1
              refine .inr ⟨_, _, rfl, by simp at h1 h2 ⊢; omega, fun x hx => ?_⟩
              obtain ⟨zs, z1, z2, z3⟩ := mapM_pairs hel
              rw [← z1] at hx
              obtain ⟨z, hz, rfl⟩ := List.mem_map.1 hx
              obtain ⟨q, hq⟩ := z2 z hz
              exact ih e z.2 z.1 q hq hk.1
            · cases h
        all_goals simp at h
      · simp at h
    · rename_i fs hu
      rw [hu] at h
      rw [hu]
      simp only [Bool.and_eq_true] at hk
      have h' : (if cs.length = P.cellsOf t then (fs.toList.mapM fun f => DataW.trod enc P w 0 (fun _ => true) true fuel f.type ((cs.drop f.offset).take (P.cellsOf f.type))).map fun xs => ((.agg (xs.map (·.1)) : DataW H), xs.flatMap (·.2)) else none) = some (d, ps) := h
      split at h'
      · obtain ⟨xs, hxs, h2⟩ := Option.map_eq_some_iff.1 h'
        obtain ⟨rfl, rfl⟩ := Prod.mk.inj h2
        obtain ⟨hl, hx⟩ := mapM_some hxs
        refine ⟨_, rfl, hasTs_of (by simpa using hl) fun i t ht => ?_⟩
        obtain ⟨f, hf, rfl⟩ := by simpa using ht
        obtain ⟨y, hy, hty⟩ := hx i f (by simpa using hf)
        exact ⟨y.1, by simp [hy], ih f.type _ y.1 y.2 hty (List.all_eq_true.1 hk.2 f (by simpa using Array.mem_of_getElem? hf))⟩
      · cases h'
    · rename_i m e hu
      rw [hu] at h
      rw [hu]
      simp only [Bool.and_eq_true] at hk
      have h' : (if cs.length = P.cellsOf t then ((List.range m).mapM fun i => DataW.trod enc P w 0 (fun _ => true) true fuel e ((cs.drop (i * P.cellsOf e)).take (P.cellsOf e))).map fun xs => ((.agg (xs.map (·.1)) : DataW H), xs.flatMap (·.2)) else none) = some (d, ps) := h
      split at h'
      · obtain ⟨xs, hxs, h2⟩ := Option.map_eq_some_iff.1 h'
        obtain ⟨rfl, rfl⟩ := Prod.mk.inj h2
        obtain ⟨hl, hx⟩ := mapM_some hxs
        refine ⟨_, rfl, by simpa using hl, fun x hxm => ?_⟩
        obtain ⟨y, hy, rfl⟩ := List.mem_map.1 hxm
        obtain ⟨i, hi⟩ := List.getElem?_of_mem hy
        have hlt : i < m := by have := (List.getElem?_eq_some_iff.1 hi).1; simp at hl; omega
        obtain ⟨y', hy', hty⟩ := hx i i (by rw [List.getElem?_range hlt])
        rw [hi] at hy'
        obtain rfl := Option.some.inj hy'
        exact ih e _ y.1 y.2 hty hk.1
      · cases h'
    · cases hk

theorem trodAll_has (k : Nat) : ∀ (ts : List TypeId) (vs : List Value) (ds : List (DataW H)) (ps : List MemPlace), DataW.TrodAll enc P w 0 (fun _ => true) true ts vs ds ps → ts.all (okT P k) = true → hasTs P k ts ds
  | [], [], [], _, _, _ => by simp [hasTs]
  | t :: ts, v :: vs, d :: ds, ps, h, hk => by
    obtain ⟨p, q, ⟨fuel, hd⟩, hr, _⟩ := h
    simp only [List.all_cons, Bool.and_eq_true] at hk
    simp only [hasTs]
    exact ⟨d, ds, rfl, trod_has fuel k t _ d p hd hk.1, trodAll_has k ts vs ds q hr hk.2⟩
  | [], _ :: _, _, _, h, _ => by simp [DataW.TrodAll] at h
  | [], [], _ :: _, _, h, _ => by simp [DataW.TrodAll] at h
  | _ :: _, [], _, _, h, _ => by simp [DataW.TrodAll] at h
  | _ :: _, _ :: _, [], _, h, _ => by simp [DataW.TrodAll] at h

theorem hasT_int {k : Nat} {t : TypeId} {kd : IntKind} {d : DataW H} (hu : P.underlying t = some (.int kd)) (h : hasT P (k + 1) t d) : ∃ n, d = .lit (.int kd n) ∧ (Lit.int kd n).wf = true := by
  unfold hasT at h; rw [hu] at h; exact h
theorem hasT_bool {k : Nat} {t : TypeId} {d : DataW H} (hu : P.underlying t = some .bool) (h : hasT P (k + 1) t d) : ∃ b, d = .lit (.bool b) := by
  unfold hasT at h; rw [hu] at h; exact h
theorem hasT_str {k : Nat} {t : TypeId} {d : DataW H} (hu : P.underlying t = some .string) (h : hasT P (k + 1) t d) : ∃ s : ByteArray, d = .lit (.string s.data.toList) ∧ s.size ≤ maxLen := by
  unfold hasT at h; rw [hu] at h; exact h
theorem hasT_slice {k : Nat} {t e : TypeId} {d : DataW H} (hu : P.underlying t = some (.slice e)) (h : hasT P (k + 1) t d) : d = .nil ∨ ∃ es sp, d = .slice es sp ∧ es.length + sp.length ≤ maxLen ∧ ∀ x ∈ es, hasT P k e x := by
  unfold hasT at h; rw [hu] at h; exact h
theorem hasT_struct {k : Nat} {t : TypeId} {fs : Array Field} {d : DataW H} (hu : P.underlying t = some (.struct fs)) (ts : List TypeId) (hts : fs.toList.map (·.type) = ts) (h : hasT P (k + 1) t d) : ∃ ps, d = .agg ps ∧ hasTs P k ts ps := by
  unfold hasT at h; rw [hu] at h; subst hts; exact h
theorem hasTs_cons {k : Nat} {t : TypeId} {ts : List TypeId} {ds : List (DataW H)} (h : hasTs P k (t :: ts) ds) : ∃ d r, ds = d :: r ∧ hasT P k t d ∧ hasTs P k ts r := by
  simpa only [hasTs] using h
theorem hasTs_nil {k : Nat} {ds : List (DataW H)} (h : hasTs P k [] ds) : ds = [] := by simpa only [hasTs] using h

/-- By the kernel. -/
theorem Run.of_eq {m n : Nat} {f : Fn} {args : List AV} {st : St} {Q : AV → St → Prop} {b : Prop} (hb : b) (h : callF P m n f args st Q = b) : Run P f args st Q :=
  Run.of_callF n f args st Q Q (fun _ _ h => h) (h.symm ▸ hb)

/-! Rows of whole numbers. -/
theorem ints_of {k : Nat} {e : TypeId} {kd : IntKind} (hu : P.underlying e = some (.int kd)) : ∀ (es : List (DataW H)), (∀ x ∈ es, hasT P k e x) → ∃ zs : List Int, es = zs.map (fun n => .lit (.int kd n)) ∧ ∀ z ∈ zs, (Lit.int kd z).wf = true
  | [], _ => ⟨[], rfl, by simp⟩
  | x :: r, h => by
    obtain ⟨zs, rfl, hz⟩ := ints_of hu r fun y hy => h y (by simp [hy])
    have hx := h x (by simp)
    cases k with
    | zero => simp [hasT] at hx
    | succ k =>
      unfold hasT at hx
      rw [hu] at hx
      obtain ⟨n, rfl, hn⟩ := hx
      refine ⟨n :: zs, rfl, fun z hz' => ?_⟩
      rcases List.mem_cons.1 hz' with rfl | hz'
      · exact hn
      · exact hz z hz'
theorem layAll_ints (kd : IntKind) (st : St) : ∀ (zs : List Int), layAll (zs.map fun n => (.lit (.int kd n) : DataW H)) st = (zs.map (.int kd), st)
  | [] => by simp [layAll]
  | z :: zs => by simp [layAll, lay, layAll_ints kd st zs]
theorem hasT_ints {k : Nat} {t e : TypeId} {kd : IntKind} (ht : P.underlying t = some (.slice e)) (hu : P.underlying e = some (.int kd)) {d : DataW H} (h : hasT P (k + 1) t d) :
    d = .nil ∨ ∃ (zs : List Int) (sp : List (DataW H)), d = .slice (zs.map fun n => .lit (.int kd n)) sp ∧ zs.length + sp.length ≤ maxLen ∧ ∀ z ∈ zs, (Lit.int kd z).wf = true := by
  unfold hasT at h
  rw [ht] at h
  rcases h with h | ⟨es, sp, rfl, hl, h⟩
  · exact .inl h
  · obtain ⟨zs, rfl, hz⟩ := ints_of hu es h
    exact .inr ⟨zs, sp, rfl, by simpa using hl, hz⟩
theorem lay_int (kd : IntKind) (n : Int) (st : St) : lay (.lit (.int kd n) : DataW H) st = ([.int kd n], st) := by simp [lay]
theorem lay_bool (b : Bool) (st : St) : lay (.lit (.bool b) : DataW H) st = ([.bool b], st) := by simp [lay]
theorem lay_str (s : ByteArray) (st : St) : lay (.lit (.string s.data.toList) : DataW H) st = ([.str s], st) := by simp [lay]
theorem lay_nil (st : St) : lay (.nil : DataW H) st = ([.nilslice], st) := by simp [lay]
theorem lay_agg (ps : List (DataW H)) (st : St) : lay (.agg ps) st = layAll ps st := by simp [lay]
theorem layAll_nil (st : St) : layAll ([] : List (DataW H)) st = ([], st) := by simp [layAll]
theorem layAll_cons (d : DataW H) (r : List (DataW H)) (st : St) : layAll (d :: r) st = ((lay d st).1 ++ (layAll r (lay d st).2).1, (layAll r (lay d st).2).2) := by simp [layAll]
/-- How a row of whole numbers lies. -/
theorem lay_ints (kd : IntKind) (zs : List Int) (sp : List (DataW H)) (st : St) : lay (.slice (zs.map fun n => (.lit (.int kd n) : DataW H)) sp) st =
    match zs, sp with
    | [], [] => ([.zslice], st)
    | zs, sp => ([.slice st.size 0 zs.length (zs.length + sp.length) 0], st.push (.cells false (zs.map (.int kd)))) := by
  have h := layAll_ints (H := H) kd st zs
  cases zs <;> cases sp <;> simp_all [lay]
end
end Go.Ab
