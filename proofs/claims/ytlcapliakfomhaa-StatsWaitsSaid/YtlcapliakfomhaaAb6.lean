/- THE ABSTRACT EVALUATOR, 6: builds, cuts, maps that are read; all operations that change nothing. -/
import Derived.Test.YtlcapliakfomhaaAb5
namespace Go.Ab
open Go.RowKit (Below)
variable {P : Program} {M : Map} {n : Nat} {st : St} {w0 w : World}

theorem run_mapM_places (fs : Array Field) (w : World) (h : fs.all (fun f : Field => (tySize P f.type).isSome) = true) :
    ∃ pl : Array (Nat × Nat), (fs.mapM fun f : Field => (do pure (f.offset, ← sizeOf f.type) : Sem (Nat × Nat))).run P w = .ok pl w ∧ ∀ i : Nat, pl[i]? = fieldPlaces P fs i := by
  have key : ∀ (l : List Field), (∀ f ∈ l, (tySize P f.type).isSome = true) → ∃ pl : List (Nat × Nat), (l.mapM fun f : Field => (do pure (f.offset, ← sizeOf f.type) : Sem (Nat × Nat))).run P w = .ok pl w ∧
      ∀ i : Nat, pl[i]? = (l[i]?).bind fun f : Field => (tySize P f.type).map fun s => (f.offset, s) := by
    intro l
    induction l with
    | nil => intro _; exact ⟨[], by simp, by simp⟩
    | cons f l ih =>
      intro hl
      obtain ⟨pl, h1, h2⟩ := ih fun f hf => hl f (by simp [hf])
      obtain ⟨s, hs⟩ := Option.isSome_iff_exists.1 (hl f (by simp))
      refine ⟨(f.offset, s) :: pl, ?_, fun i => ?_⟩
      · simp only [List.mapM_cons, Sem.run_bind, run_sizeOf hs, Result.andThen_ok, Sem.run_pure, h1]
      · cases i with
        | zero => simp [hs]
        | succ i => simpa using h2 i
  obtain ⟨pl, h1, h2⟩ := key fs.toList (fun f hf => by
    have := Array.all_eq_true_iff_forall_mem.1 h f (by simpa using hf)
    exact this)
  refine ⟨pl.toArray, ?_, fun i => ?_⟩
  · rw [Array.mapM_eq_mapM_toList]
    simp only [Sem.run_map, h1, Result.andThen_ok]
  · simp only [List.getElem?_toArray, h2, fieldPlaces, Array.getElem?_toList]
    cases fs[i]? <;> rfl

theorem build_sound {t : TypeId} {parts : List (Nat × AV)} {parts' : Array (Nat × Value)} {x : AV} (h : buildA P t parts = some x) (hl : parts.length = parts'.size)
    (hp : ∀ (j : Nat) (p : Nat × AV) (p' : Nat × Value), parts[j]? = some p → parts'[j]? = some p' → p.1 = p'.1 ∧ VR M n p.2 p'.2) (w : World) :
    ∃ v, (Instr.build t parts').run P w = .ok v w ∧ VR M n x v := by
  unfold buildA at h
  have hz : ∀ z, tyZero P t = some z → ∃ v, (zeroValue t).run P w = .ok v w ∧ VRs M n z v.cells.toList := by
    intro z hz
    obtain ⟨v, hv, rfl⟩ := run_zero hz w
    refine ⟨v, hv, ?_⟩
    unfold ofVal
    split
    · exact VRs_ofVal1 M n _
    · rename_i hna
      have : v.cells = #[v] := by cases v <;> simp_all [Value.cells]
      rw [this]
      have hv1 := VR_ofVal1 M n v
      have : (ofVal1 v).cells = [ofVal1 v] := by unfold ofVal1; split <;> rfl
      rw [this]
      exact VRs_cons.2 ⟨hv1, VRs_nil⟩
  split at h
  · rename_i z fs hzz hu
    split at h
    · rename_i hall
      obtain ⟨cs, hf, rfl⟩ := Option.map_eq_some_iff.1 h
      obtain ⟨v, hv, hvr⟩ := hz z hzz
      obtain ⟨pl, hpl, hplace⟩ := run_mapM_places fs w hall
      obtain ⟨r', hr', hrr⟩ := fill_sound (place' := (pl[·]?)) hplace parts parts'.toList z cs v.cells hf hvr (by simpa using hl) (fun j p p' hj hj' => hp j p p' hj (by simpa using hj'))
      refine ⟨.agg r', ?_, by simp only [VR]; exact ⟨_, rfl, hrr⟩⟩
      simp only [Instr.build, Sem.run_bind, hv, Result.andThen_ok, run_underlying hu, hpl, hr', Sem.run_pure]
    · cases h
  · rename_i z len e hzz hu
    split at h
    · rename_i s hs
      obtain ⟨cs, hf, rfl⟩ := Option.map_eq_some_iff.1 h
      obtain ⟨v, hv, hvr⟩ := hz z hzz
      obtain ⟨r', hr', hrr⟩ := fill_sound (place' := fun i => some (i * s, s)) (fun i => rfl) parts parts'.toList z cs v.cells hf hvr (by simpa using hl) (fun j p p' hj hj' => hp j p p' hj (by simpa using hj'))
      refine ⟨.agg r', ?_, by simp only [VR]; exact ⟨_, rfl, hrr⟩⟩
      simp [Instr.build, hv, run_underlying hu, run_sizeOf hs, hr']
    · cases h
  · cases h

/-- A bound of a cut, as the model asks for it. -/
theorem bound_sound {x : Option AV} {x' : Option Value} {d b : Nat} (h : bound x d = some b) (hx : ∀ v, x' = some v → ∃ a, x = some a ∧ VR M n a v) (hx2 : x.isSome = x'.isSome) :
    (x' = none ∧ b = d) ∨ ∃ k i, x' = some (.int k i) ∧ 0 ≤ i ∧ b = i.toNat := by
  cases x' with
  | none =>
    cases x with
    | none => simp [bound] at h; exact .inl ⟨rfl, h.symm⟩
    | some a => simp at hx2
  | some v =>
    obtain ⟨a, rfl, ha⟩ := hx v rfl
    cases a <;> simp [bound] at h
    simp only [VR] at ha
    subst ha
    exact .inr ⟨_, _, rfl, h.1, h.2.symm⟩
theorem run_bound {k : IntKind} {i : Int} {y : Nat} (code : BoundsCode) (h0 : 0 ≤ i) (h : i.toNat ≤ y) (w : World) : (Instr.sliceBound (.int k i) y code).run P w = .ok i.toNat w := by
  simp [Instr.sliceBound, asIntOf, h0, show i ≤ (y : Int) by omega]
theorem run_bounds {lo hi mx : Option Value} {isS : Bool} {len cap l h m : Nat} (w : World)
    (hm : (mx = none ∧ m = cap) ∨ ∃ k i, mx = some (.int k i) ∧ 0 ≤ i ∧ m = i.toNat) (hh : (hi = none ∧ h = len) ∨ ∃ k i, hi = some (.int k i) ∧ 0 ≤ i ∧ h = i.toNat)
    (hl : (lo = none ∧ l = 0) ∨ ∃ k i, lo = some (.int k i) ∧ 0 ≤ i ∧ l = i.toNat) (h1 : m ≤ cap) (h2 : h ≤ m) (h3 : l ≤ h) (h4 : mx.isSome = true → hi.isSome = true) :
    (Instr.sliceBounds isS len cap lo hi mx).run P w = .ok (l, h, m) w := by
  rcases hm with ⟨rfl, rfl⟩ | ⟨k, i, rfl, hi0, rfl⟩
  · rcases hh with ⟨rfl, rfl⟩ | ⟨k2, i2, rfl, hi20, rfl⟩
    · rcases hl with ⟨rfl, rfl⟩ | ⟨k3, i3, rfl, hi30, rfl⟩
      · simp [Instr.sliceBounds]
      · simp [Instr.sliceBounds, run_bound _ hi30 h3]
    · rcases hl with ⟨rfl, rfl⟩ | ⟨k3, i3, rfl, hi30, rfl⟩
      · simp [Instr.sliceBounds, run_bound _ hi20 h2]
      · simp [Instr.sliceBounds, run_bound _ hi20 h2, run_bound _ hi30 h3]
  · rcases hh with ⟨rfl, rfl⟩ | ⟨k2, i2, rfl, hi20, rfl⟩
    · simp at h4
    · rcases hl with ⟨rfl, rfl⟩ | ⟨k3, i3, rfl, hi30, rfl⟩
      · simp [Instr.sliceBounds, run_bound _ hi0 h1, run_bound _ hi20 h2]
      · simp [Instr.sliceBounds, run_bound _ hi0 h1, run_bound _ hi20 h2, run_bound _ hi30 h3]

theorem cut_sound {id off s k l h m c : Nat} {e : Value} (hid : id < n) (hk : 0 < k → k = s ∧ (M id).sh + off + c * k ≤ (M id).sz) (hm : m ≤ c) (hl : l ≤ h) (hh : h ≤ m) (hx : k = 0 → m = c)
    (he : e = .slice (if c = l then some ⟨(M id).b, (M id).sh + off, none⟩ else some ((⟨(M id).b, (M id).sh + off, none⟩ : Addr).add (l * s))) (h - l) (c - l)) : VR M n (sliceCut id off s k l h m) e := by
  subst he
  unfold sliceCut
  by_cases h1 : m = l
  · rw [if_pos h1]
    have e1 : h - l = 0 := by omega
    by_cases h2 : k = 0
    · rw [if_pos h2]
      have := hx h2
      rw [if_pos (by omega)]
      simp only [VR]
      exact ⟨hid, 0, by rw [show c - l = 0 by omega], by omega, by omega, fun _ => rfl, fun h => by omega⟩
    · rw [if_neg h2]
      obtain ⟨rfl, hb⟩ := hk (by omega)
      by_cases h3 : l = 0
      · subst h3
        rw [if_pos rfl]
        simp only [VR]
        refine ⟨hid, c, ?_, by omega, by omega, fun h => absurd h h2, fun _ => hb⟩
        simp [e1, Addr.add]
      · rw [if_neg h3]
        simp only [VR]
        by_cases h4 : c = l
        · exact ⟨hid, by omega, (M id).sh + off, 0, by rw [if_pos h4, e1, show c - l = 0 by omega], by simp; have := Nat.le_of_lt_succ (Nat.lt_succ_of_le hb); have : 0 ≤ c * k := Nat.zero_le _; omega⟩
        · refine ⟨hid, by omega, (M id).sh + off + l * k, c - l, by rw [if_neg h4, Addr.add_lit, e1], ?_⟩
          have : (c - l) * k + l * k = c * k := by rw [← Nat.add_mul]; congr 1; omega
          omega
  · rw [if_neg h1]
    have h4 : ¬ c = l := by omega
    rw [if_neg h4, Addr.add_lit]
    simp only [VR]
    refine ⟨hid, c - l, by rw [Nat.add_assoc], by omega, by omega, fun h => by rw [hx h], fun h0 => ?_⟩
    obtain ⟨rfl, hb⟩ := hk h0
    have : (c - l) * k + l * k = c * k := by rw [← Nat.add_mul]; congr 1; omega
    omega

theorem slice_sound {t : TypeId} {a x : AV} {v : Value} {lo hi mx : Option AV} {lo' hi' mx' : Option Value} (h : sliceA P t a lo hi mx = some x) (hv : VR M n a v)
    (hlo : ∀ v, lo' = some v → ∃ a, lo = some a ∧ VR M n a v) (hlo2 : lo.isSome = lo'.isSome) (hhi : ∀ v, hi' = some v → ∃ a, hi = some a ∧ VR M n a v) (hhi2 : hi.isSome = hi'.isSome)
    (hmx : ∀ v, mx' = some v → ∃ a, mx = some a ∧ VR M n a v) (hmx2 : mx.isSome = mx'.isSome) (w : World) :
    ∃ y, (Instr.sliceAt t v lo' hi' mx').run P w = .ok y w ∧ VR M n x y := by
  unfold sliceA at h
  split at h
  · rename_i s hu
    simp only [VR] at hv
    subst hv
    split at h
    · cases h
    · rename_i hm
      have hm' : mx' = none := by cases mx' <;> simp_all
      subst hm'
      unfold sliceStr at h
      split at h
      · rename_i l hh hbl hbh
        split at h
        · rename_i hc
          obtain rfl := Option.some.inj h
          have := run_bounds (P := P) (isS := false) (len := s.size) (cap := s.size) w (.inl ⟨rfl, rfl⟩) (bound_sound hbh hhi hhi2) (bound_sound hbl hlo hlo2) (Nat.le_refl _) hc.2 hc.1 (by simp)
          exact ⟨_, by simp [Instr.sliceAt, Instr.slice, run_underlying hu, this], VR_str⟩
        · cases h
      · cases h
  · rename_i e id off len cap k hu
    simp only [VR] at hv
    obtain ⟨hid, c, rfl, hc1, hc2, hc3, hc4⟩ := hv
    split at h
    · rename_i s m hs hbm
      split at h
      · rename_i hh l hbh hbl
        split at h
        · rename_i hc
          obtain rfl := Option.some.inj h
          obtain ⟨h1, h2, h3, h4, h5⟩ := hc
          cases hmm : mx' with
          | none =>
            subst hmm
            have hmn : mx = none := by cases mx <;> simp_all
            subst hmn
            simp [bound] at hbm
            subst hbm
            have := run_bounds (P := P) (isS := true) (len := len) (cap := c) (m := c) w (.inl ⟨rfl, rfl⟩) (bound_sound hbh hhi hhi2) (bound_sound hbl hlo hlo2) (Nat.le_refl _) (by omega) h3 (by simp)
            refine ⟨_, by simp only [Instr.sliceAt, Instr.slice, Sem.run_bind, run_underlying hu, Result.andThen_ok, this, run_sizeOf hs, Sem.run_pure]; rfl, ?_⟩
            simp only [Option.isSome_none, Bool.false_eq_true, if_false]
            exact cut_sound hid (fun h0 => ⟨by omega, hc4 h0⟩) (by omega) h3 h2 (fun h0 => by rw [hc3 h0]) (by split <;> simp_all)
          | some vm =>
            subst hmm
            have hms : mx.isSome = true := by rw [hmx2]; rfl
            have := run_bounds (P := P) (isS := true) (len := len) (cap := c) w (bound_sound hbm hmx hmx2 |>.imp (fun ⟨h, _⟩ => by cases h) (fun h => h)) (bound_sound hbh hhi hhi2) (bound_sound hbl hlo hlo2) (by omega) h2 h3 (fun _ => by rw [← hhi2]; exact h4 hms)
            refine ⟨_, by simp only [Instr.sliceAt, Instr.slice, Sem.run_bind, run_underlying hu, Result.andThen_ok, this, run_sizeOf hs, Sem.run_pure]; rfl, ?_⟩
            rw [if_pos hms]
            exact cut_sound hid (fun h0 => by omega) (Nat.le_refl _) h3 h2 (fun _ => rfl) (by split <;> simp_all)
        · cases h
      · cases h
    · cases h
  · rename_i e hu
    simp only [VR] at hv
    subst hv
    split at h
    · rename_i hbl hbh hbm
      split at h
      · cases h
      · rename_i hmh
        obtain rfl := Option.some.inj h
        have := run_bounds (P := P) (isS := true) (len := 0) (cap := 0) w (bound_sound hbm hmx hmx2) (bound_sound hbh hhi hhi2) (bound_sound hbl hlo hlo2) (Nat.le_refl _) (Nat.le_refl _) (Nat.le_refl _) (fun h => by
          rw [← hhi2]; rw [← hmx2] at h; cases hi <;> simp_all)
        obtain ⟨s, hs⟩ : ∃ s, tySize P e = some s := by cases he : tySize P e <;> simp_all
        refine ⟨.slice none 0 0, ?_, by simp [VR]⟩
        simp [Instr.sliceAt, Instr.slice, run_underlying hu, this, run_sizeOf hs]
    · cases h
  · rename_i e id k hu
    simp only [VR] at hv
    obtain ⟨hid, hk, o, c, rfl, hb⟩ := hv
    split at h
    · rename_i hbl hbh
      split at h
      · cases h
      · rename_i hm
        obtain rfl := Option.some.inj h
        have hm' : mx' = none := by cases mx' <;> simp_all
        subst hm'
        have := run_bounds (P := P) (isS := true) (len := 0) (cap := c) (m := c) w (.inl ⟨rfl, rfl⟩) (bound_sound hbh hhi hhi2) (bound_sound hbl hlo hlo2) (Nat.le_refl _) (Nat.zero_le _) (Nat.le_refl _) (by simp)
        obtain ⟨s, hs⟩ : ∃ s, tySize P e = some s := by cases he : tySize P e <;> simp_all
        refine ⟨.slice (some ⟨(M id).b, o, none⟩) 0 c, ?_, by simp only [VR]; exact ⟨hid, hk, o, c, rfl, hb⟩⟩
        simp [Instr.sliceAt, Instr.slice, run_underlying hu, this, run_sizeOf hs, Addr.add]
    · cases h
  · rename_i e hu
    simp only [VR] at hv
    obtain ⟨ad, rfl⟩ := hv
    split at h
    · rename_i hbl hbh
      split at h
      · cases h
      · rename_i hm
        obtain rfl := Option.some.inj h
        have hm' : mx' = none := by cases mx' <;> simp_all
        subst hm'
        have := run_bounds (P := P) (isS := true) (len := 0) (cap := 0) (m := 0) w (.inl ⟨rfl, rfl⟩) (bound_sound hbh hhi hhi2) (bound_sound hbl hlo hlo2) (Nat.le_refl _) (Nat.zero_le _) (Nat.le_refl _) (by simp)
        obtain ⟨s, hs⟩ : ∃ s, tySize P e = some s := by cases he : tySize P e <;> simp_all
        refine ⟨.slice (some ad) 0 0, ?_, by simp only [VR]; exact ⟨ad, rfl⟩⟩
        simp [Instr.sliceAt, Instr.slice, run_underlying hu, this, run_sizeOf hs, Addr.add]
    · cases h
  · rename_i len e id off hu
    simp only [VR] at hv
    obtain ⟨hid, rfl⟩ := hv
    split at h
    · rename_i s m hs hbm
      split at h
      · rename_i hh l hbh hbl
        split at h
        · rename_i hc
          obtain rfl := Option.some.inj h
          obtain ⟨h1, h2, h3, h4⟩ := hc
          have := run_bounds (P := P) (isS := false) (len := len) (cap := len) w (bound_sound hbm hmx hmx2) (bound_sound hbh hhi hhi2) (bound_sound hbl hlo hlo2) h1 h2 h3 (fun h => by rw [← hhi2]; exact h4 (by rw [hmx2]; exact h))
          refine ⟨_, by simp only [Instr.sliceAt, Sem.run_bind, run_underlying hu, Result.andThen_ok, Instr.sureAddr, Sem.run_pure, this, run_sizeOf hs]; rfl, ?_⟩
          exact cut_sound hid (fun h0 => by omega) (Nat.le_refl _) h3 h2 (fun _ => rfl) (by split <;> simp_all)
        · cases h
      · cases h
    · cases h
  · cases h
end Go.Ab
