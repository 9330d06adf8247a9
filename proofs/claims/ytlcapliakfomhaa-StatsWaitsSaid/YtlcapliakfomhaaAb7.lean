/- THE ABSTRACT EVALUATOR, 7: maps that are read; all operations that change nothing. -/
import Derived.Test.YtlcapliakfomhaaAb6
namespace Go.Ab
open Go.RowKit (Below)
variable {P : Program} {M : Map} {n : Nat} {st : St} {w0 w : World}

theorem keyOk_sound (w : World) (em : Bool) : ∀ (D : Nat) (t : TypeId) (x : AV) (v : Value), keyOk P D t x = true → VR M n x v → ∀ D', D ≤ D' → (Instr.checkKey em D' t v).run P w = .ok () w
  | 0, _, _, _, h, _, _, _ => by simp [keyOk] at h
  | D + 1, t, x, v, h, hv, D', hD => by
    obtain ⟨D', rfl⟩ : ∃ d, D' = d + 1 := ⟨D' - 1, by omega⟩
    unfold keyOk at h
    split at h
    · rename_i hu
      simp only [VR] at hv; subst hv
      simp [Instr.checkKey, run_underlying hu]
    · rename_i hu
      simp only [VR] at hv; subst hv
      simp [Instr.checkKey, run_underlying hu]
    · rename_i hu
      simp only [VR] at hv; subst hv
      simp [Instr.checkKey, run_underlying hu]
    · rename_i len e cs hu
      simp only [VR] at hv
      obtain ⟨cs', rfl, hcs⟩ := hv
      split at h
      · rename_i s hs
        simp only [Instr.checkKey, Sem.run_bind, run_underlying hu, Result.andThen_ok, Std.Legacy.Range.forIn_eq_forIn_range']
        have key : ∀ (l : List Nat), (∀ i ∈ l, (partA P e cs (i * s)).any (keyOk P D e) = true) →
            (forIn l PUnit.unit fun i (_ : PUnit) => (do
              let a ← sizeOf e
              let b ← part e cs' (i * a)
              Instr.checkKey em D' e b
              pure (ForInStep.yield PUnit.unit) : Sem (ForInStep PUnit))).run P w = .ok PUnit.unit w := by
          intro l
          induction l with
          | nil => intro _; simp
          | cons i l ih =>
            intro hl
            have hi := hl i (by simp)
            cases hy : partA P e cs (i * s) with
            | some y =>
              rw [hy] at hi
              obtain ⟨v', hv', hr⟩ := part_sound hy hcs w
              simp only [List.forIn_cons, Sem.run_bind, run_sizeOf hs, Result.andThen_ok, hv', keyOk_sound w em D e y v' hi hr D' (by omega), Sem.run_pure]
              simpa only [Sem.run_bind] using ih (fun j hj => hl j (by simp [hj]))
            | none => rw [hy] at hi; cases hi
        have := key (List.range len) (fun i hi => by simpa using List.all_eq_true.1 h i hi)
        simp only [List.range_eq_range'] at this
        simp [Std.Legacy.Range.size] at this ⊢
        rw [this]
        rfl
      · cases h
    · rename_i fs cs hu
      simp only [VR] at hv
      obtain ⟨cs', rfl, hcs⟩ := hv
      simp only [Instr.checkKey, Sem.run_bind, run_underlying hu, Result.andThen_ok]
      rw [← Array.forIn_toList]
      have key : ∀ (l : List Field), (∀ f ∈ l, (f.name == "_" || (partA P f.type cs f.offset).any (keyOk P D f.type)) = true) →
          (forIn l PUnit.unit fun (f : Field) (_ : PUnit) => (do
            if f.name ≠ "_" then
              let a ← part f.type cs' f.offset
              Instr.checkKey em D' f.type a
              pure (ForInStep.yield PUnit.unit)
            else pure (ForInStep.yield PUnit.unit) : Sem (ForInStep PUnit))).run P w = .ok PUnit.unit w := by
        intro l
        induction l with
        | nil => intro _; simp
        | cons f l ih =>
          intro hl
          have hi := hl f (by simp)
          have ih' := ih (fun j hj => hl j (by simp [hj]))
          simp only [List.forIn_cons, Sem.run_bind, Sem.run_ite]
          by_cases hn : f.name = "_"
          · rw [if_neg (by simp [hn])]
            simp only [Sem.run_pure, Result.andThen_ok]
            exact ih'
          · rw [if_pos hn]
            simp only [beq_iff_eq, hn, Bool.or_eq_true, false_or] at hi
            cases hy : partA P f.type cs f.offset with
            | some y =>
              rw [hy] at hi
              obtain ⟨v', hv', hr⟩ := part_sound hy hcs w
              simp only [hv', Result.andThen_ok, keyOk_sound w em D f.type y v' hi hr D' (by omega), Sem.run_pure]
              exact ih'
            | none => rw [hy] at hi; cases hi
      have := key fs.toList (fun f hf => List.all_eq_true.1 h f hf)
      simp at this ⊢
      rw [this]
      rfl
    · cases h

theorem VRes_cons {a : AV × AV × Nat} {as : List (AV × AV × Nat)} {v : MapEntry} {vs : List MapEntry} : VRes M n (a :: as) (v :: vs) ↔ VRe M n a v ∧ VRes M n as vs := by
  simp only [VRes]
  constructor
  · rintro ⟨v', vs', e, h⟩; obtain ⟨rfl, rfl⟩ := List.cons.inj e; exact h
  · intro h; exact ⟨v, vs, rfl, h⟩
theorem VRes_iff : ∀ {a : List (AV × AV × Nat)} {v : List MapEntry}, VRes M n a v ↔ a.length = v.length ∧ ∀ (i : Nat) (x : AV × AV × Nat), a[i]? = some x → ∃ y, v[i]? = some y ∧ VRe M n x y
  | [], v => by
    constructor
    · intro h; simp [VRes] at h; simp [h]
    · rintro ⟨h, _⟩; simp [VRes]; exact List.eq_nil_of_length_eq_zero h.symm
  | a :: as, [] => by simp [VRes]
  | a :: as, v :: vs => by
    rw [VRes_cons, VRes_iff (a := as)]
    constructor
    · rintro ⟨h1, h2, h3⟩
      refine ⟨by simp [h2], fun i x hx => ?_⟩
      cases i with
      | zero => simp at hx; exact ⟨v, rfl, hx ▸ h1⟩
      | succ i => simpa using h3 i x (by simpa using hx)
    · rintro ⟨h2, h3⟩
      refine ⟨?_, by simpa using h2, fun i x hx => by simpa using h3 (i + 1) x (by simpa using hx)⟩
      obtain ⟨y, hy, hr⟩ := h3 0 a rfl
      simp at hy
      exact hy ▸ hr
theorem VRes.mono {M' : Map} {n' : Nat} (hn : n ≤ n') (hM : ∀ i, i < n → M' i = M i) {a : List (AV × AV × Nat)} {v : List MapEntry} (h : VRes M n a v) : VRes M' n' a v := by
  rw [VRes_iff] at h ⊢
  refine ⟨h.1, fun i x hx => ?_⟩
  obtain ⟨y, hy, h1, h2, h3⟩ := h.2 i x hx
  exact ⟨y, hy, h1.mono hn hM, h2.mono hn hM, h3⟩

/-- What was found. -/
def FR (M : Map) (n : Nat) : Option (Nat × AV) → Option (Nat × Value) → Prop
  | none, none => True
  | some (i, x), some (j, v) => i = j ∧ VR M n x v
  | _, _ => False
theorem findAsking_sound {kt : TypeId} {key : AV} {k : Value} (hk : VR M n key k) (w : World) : ∀ (es : List (AV × AV × Nat)) (es' : List MapEntry) (i : Nat) (r : Option (Nat × AV)),
    findA P kt key es i = some r → VRes M n es es' → ∃ r', (Instr.findAsking kt k es' i).run P w = .ok r' w ∧ FR M n r r'
  | [], es', i, r, h, he => by
    simp [findA] at h; subst h
    simp [VRes] at he; subst he
    exact ⟨none, by simp [Instr.findAsking], trivial⟩
  | e :: es, es', i, r, h, he => by
    simp only [VRes] at he
    obtain ⟨v, vs', rfl, ⟨h1, h2, h3⟩, he⟩ := he
    unfold findA at h
    split at h
    · rename_i hq
      obtain rfl := Option.some.inj h
      refine ⟨some (i, v.val), ?_, rfl, h2⟩
      simp [Instr.findAsking, Op.equal, eqA_sound w _ _ _ _ _ _ _ hq hk h1 Op.maxDepth (by decide)]
    · rename_i hq
      obtain ⟨r', hr', hf⟩ := findAsking_sound hk w es vs' (i + 1) r h he
      refine ⟨r', ?_, hf⟩
      simp [Instr.findAsking, Op.equal, eqA_sound w _ _ _ _ _ _ _ hq hk h1 Op.maxDepth (by decide), hr']
    · cases h
theorem findNow_asking {kt : TypeId} {kind : TypeDesc} (hu : P.underlying kt = some kind) (k : Value) (w : World) : ∀ (es : List MapEntry) (i : Nat) (r : Option (Nat × Value)),
    Instr.findNow kind k es i = some r → (Instr.findAsking kt k es i).run P w = .ok r w
  | [], i, r, h => by simp [Instr.findNow] at h; simp [Instr.findAsking, h]
  | e :: es, i, r, h => by
    have same : ∀ b, Instr.sameNow kind k e.key = some b → (Op.equal kt k e.key).run P w = .ok b w := by
      generalize e.key = y
      intro b hb
      show (Op.equalIn (9999 + 1) kt k y).run P w = _
      generalize 9999 = d
      unfold Instr.sameNow at hb
      split at hb
      · split at hb
        · rename_i hk; obtain rfl := Option.some.inj hb; simp [Op.equalIn, run_underlying hu, hk]
        · cases hb
      · obtain rfl := Option.some.inj hb; simp [Op.equalIn, run_underlying hu]
      · obtain rfl := Option.some.inj hb; simp [Op.equalIn, run_underlying hu]
      · cases hb
    unfold Instr.findNow at h
    split at h
    · rename_i hs
      obtain rfl := Option.some.inj h
      simp [Instr.findAsking, same _ hs]
    · rename_i hs
      simp [Instr.findAsking, same _ hs, findNow_asking hu k w es (i + 1) r h]
    · cases h
theorem find_sound {kt : TypeId} {kind : TypeDesc} (hu : P.underlying kt = some kind) {key : AV} {k : Value} (hk : VR M n key k) (w : World) {es : List (AV × AV × Nat)} {es' : List MapEntry} {r : Option (Nat × AV)}
    (h : findA P kt key es 0 = some r) (he : VRes M n es es') : ∃ r', (Instr.findKey kt k es').run P w = .ok r' w ∧ FR M n r r' := by
  obtain ⟨r', hr', hf⟩ := findAsking_sound hk w es es' 0 r h he
  refine ⟨r', ?_, hf⟩
  simp only [Instr.findKey, Sem.run_bind, run_underlying hu, Result.andThen_ok]
  split
  · rename_i r2 h2
    have := findNow_asking hu k w es' 0 r2 h2
    rw [hr'] at this
    simp at this
    simp [this]
  · exact hr'
theorem keyOk_under {D : Nat} {kt : TypeId} {key : AV} (h : keyOk P D kt key = true) : ∃ kind, P.underlying kt = some kind := by
  cases D with
  | zero => simp [keyOk] at h
  | succ D => unfold keyOk at h; split at h <;> first | exact ⟨_, ‹_›⟩ | cases h

theorem SRel.map (hs : SRel w0 M st w) {id : Nat} {es : List (AV × AV × Nat)} {clock : Nat} (hid : id < st.size) (ho : st.get id = .map es clock) :
    w0.heap.size ≤ (M id).b ∧ ∃ es', w.heap[(M id).b]? = some (.map es' clock) ∧ VRes M st.size es es'.toList := by
  have := hs.objs id hid
  rw [ho] at this
  exact this
theorem run_getObj_map {b : Nat} {es : Array MapEntry} {clock : Nat} (h : w.heap[b]? = some (.map es clock)) : (getObj b).run P w = .ok (.map es clock) w := by
  simp [getObj, Sem.run, h]
theorem run_getObj_iter {b : Nat} {m : Option Nat} {since last : Nat} {sn : Array Nat} (h : w.heap[b]? = some (.mapIter m since sn last)) : (getObj b).run P w = .ok (.mapIter m since sn last) w := by
  simp [getObj, Sem.run, h]

theorem lookup_sound {t : TypeId} {m key x : AV} {ok : Bool} {vm vk : Value} (h : lookupA P t m key ok st = some x) (hs : SRel w0 M st w) (hm : VR M st.size m vm) (hk : VR M st.size key vk) :
    ∃ v, (Instr.lookup t vm vk ok).run P w = .ok v w ∧ VR M st.size x v := by
  unfold lookupA at h
  split at h
  · rename_i kt e hu
    split at h
    · rename_i es hes
      split at h
      · rename_i hko
        obtain ⟨kind, hkind⟩ := keyOk_under hko
        have hmap : ∃ es' : Array MapEntry, VRes M st.size es es'.toList ∧ ((vm = .map none ∧ es' = #[]) ∨ ∃ b clock, vm = .map (some b) ∧ w.heap[b]? = some (.map es' clock)) := by
          unfold mapEs at hes
          split at hes
          · simp only [VR] at hm
            obtain rfl := Option.some.inj hes
            exact ⟨#[], by simp [VRes], .inl ⟨hm, rfl⟩⟩
          · rename_i id
            simp only [VR] at hm
            obtain ⟨hid, rfl⟩ := hm
            split at hes
            · rename_i es2 clock ho
              obtain rfl := Option.some.inj hes
              obtain ⟨_, es', hb, hr⟩ := hs.map hid ho
              exact ⟨es', hr, .inr ⟨_, _, rfl, hb⟩⟩
            · cases hes
          · cases hes
        obtain ⟨es', hr, hvm⟩ := hmap
        have hchk := fun em => keyOk_sound (M := M) (n := st.size) w em _ _ _ _ hko hk 10000 (by decide)
        have run : ∀ r', (Instr.findKey kt vk es'.toList).run P w = .ok r' w → (Instr.lookup t vm vk ok).run P w =
            ((do
              let (v, ok) ← match r' with
                | some (_, v) => pure (v, true)
                | none => pure (← zeroValue e, false)
              pure (v, ok) : Sem (Value × Bool)).run P w).andThen fun p w' => .ok (if ok then .tuple #[p.1, .bool p.2] else p.1) w' := by
          intro r' hr'
          rcases hvm with ⟨rfl, rfl⟩ | ⟨b, clock, rfl, hb⟩
          · have hc := hchk true
            cases r' with
            | none =>
              simp [Instr.lookup, run_underlying hu, hc, hr']
              cases (zeroValue e).run P w <;> simp
            | some p => simp [Instr.lookup, run_underlying hu, hc, hr']
          · have hc := hchk es'.isEmpty
            cases r' with
            | none =>
              simp [Instr.lookup, run_underlying hu, run_getObj_map hb, hc, hr']
              cases (zeroValue e).run P w <;> simp
            | some p => simp [Instr.lookup, run_underlying hu, run_getObj_map hb, hc, hr']
        split at h
        · rename_i i v hf
          obtain rfl := Option.some.inj h
          obtain ⟨r', hr', hfr⟩ := find_sound hkind hk w hf hr
          cases r' with
          | none => exact hfr.elim
          | some p =>
            obtain ⟨j, v'⟩ := p
            obtain ⟨rfl, hv⟩ := hfr
            refine ⟨if ok then .tuple #[v', .bool true] else v', by rw [run _ hr']; simp, ?_⟩
            cases ok
            · simpa using hv
            · simp only [if_true, VR]
              exact ⟨_, rfl, VRs_cons.2 ⟨hv, VRs_cons.2 ⟨VR_bool, VRs_nil⟩⟩⟩
        · rename_i hf
          obtain ⟨z, hz, rfl⟩ := Option.map_eq_some_iff.1 h
          obtain ⟨i, hi, hzz⟩ := Option.bind_eq_some_iff.1 hz
          have hzr : (zeroValue e).run P w = .ok z w := by simp [zeroValue, typeInfo, hi, hzz]
          obtain ⟨r', hr', hfr⟩ := find_sound hkind hk w hf hr
          cases r' with
          | some p => exact hfr.elim
          | none =>
            refine ⟨if ok then .tuple #[z, .bool false] else z, by rw [run _ hr']; simp [hzr], ?_⟩
            cases ok
            · simpa using VR_ofVal _ _ _
            · simp only [if_true, VR]
              exact ⟨_, rfl, VRs_cons.2 ⟨VR_ofVal _ _ _, VRs_cons.2 ⟨VR_bool, VRs_nil⟩⟩⟩
        · cases h
      · cases h
    · cases h
  · cases h
end Go.Ab
