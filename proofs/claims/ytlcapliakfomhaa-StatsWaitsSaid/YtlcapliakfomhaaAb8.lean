/- THE ABSTRACT EVALUATOR, 8: all operations that change nothing, in one theorem. -/
import Derived.Test.YtlcapliakfomhaaAb7
namespace Go.Ab
open Go.RowKit (Below)
variable {P : Program} {M : Map} {n : Nat} {st : St} {w0 w : World}

theorem SRel.iter (hs : SRel w0 M st w) {id : Nat} {m : Option Nat} {since last : Nat} {seen : List Nat} (hid : id < st.size) (ho : st.get id = .iter m since seen last) :
    w0.heap.size ≤ (M id).b ∧ ∃ sn, w.heap[(M id).b]? = some (.mapIter (m.map fun i => (M i).b) since sn last) ∧ sn.toList = seen ∧ ∀ i, m = some i → i < st.size := by
  have := hs.objs id hid
  rw [ho] at this
  exact this
theorem St.get_dead {i : Nat} (h : ¬ i < st.size) : st.get i = .dead := by
  unfold St.get St.size at *
  rw [List.getElem?_eq_none (by omega)]; rfl
theorem St.lt_of_get {i : Nat} {o : AO} (h : st.get i = o) (ho : o ≠ .dead) : i < st.size := by
  rcases Nat.lt_or_ge i st.size with h1 | h1
  · exact h1
  · exact absurd (h ▸ St.get_dead (by omega)) ho

theorem find_born {es : List (AV × AV × Nat)} {es' : List MapEntry} (h : VRes M n es es') (b : Nat) {e : AV × AV × Nat} (hf : es.find? (fun e => e.2.2 == b) = some e) :
    ∃ e', es'.find? (·.born == b) = some e' ∧ VRe M n e e' := by
  induction es generalizing es' with
  | nil => simp at hf
  | cons a as ih =>
    simp only [VRes] at h
    obtain ⟨v, vs', rfl, ⟨h1, h2, h3⟩, h⟩ := h
    simp only [List.find?_cons] at hf ⊢
    rw [h3]
    split at hf
    · rename_i hb
      obtain rfl := Option.some.inj hf
      exact ⟨v, by simp, h1, h2, h3⟩
    · rename_i hb
      exact ih h hf

theorem entry_sound {it x : AV} {v : Value} (h : entryA it st = some x) (hs : SRel w0 M st w) (hv : VR M st.size it v) : ∃ y, (Instr.entry v).run P w = .ok y w ∧ VR M st.size x y := by
  unfold entryA at h
  split at h
  · rename_i id
    simp only [VR] at hv
    obtain ⟨hid, rfl⟩ := hv
    split at h
    · rename_i m since seen last ho
      obtain ⟨_, sn, hb, hsn, hm⟩ := hs.iter hid ho
      split at h
      · rename_i stamp es clock hst hmo
        split at h
        · rename_i hcl
          split at h
          · rename_i e hf
            obtain rfl := Option.some.inj h
            obtain ⟨_, es', hb', hr⟩ := hs.map (hm _ rfl) hmo
            obtain ⟨e', hf', h1, h2, _⟩ := find_born hr stamp hf
            refine ⟨.tuple #[e'.key, e'.val], ?_, by simp only [VR]; exact ⟨_, rfl, VRs_cons.2 ⟨h1, VRs_cons.2 ⟨h2, VRs_nil⟩⟩⟩⟩
            have hback : sn.back? = some stamp := by rw [← hst, ← hsn]; simp
            simp [Instr.entry, run_getObj_iter hb, hback, run_getObj_map hb', hcl]
            have : es'.find? (fun x => x.born == stamp) = some e' := by rw [← Array.find?_toList]; exact hf'
            simp [this]
          · cases h
        · cases h
      · cases h
    · cases h
  · cases h

theorem len_sound {t : TypeId} {a x : AV} {v : Value} (ts : Array TypeId) (ht : ts[0]? = some t) (ty : TypeId) (h : lenA P t a st = some x) (hs : SRel w0 M st w) (hv : VR M st.size a v) :
    ∃ y, (Builtin.len_ ts ty #[v]).run P w = .ok y w ∧ VR M st.size x y := by
  unfold lenA at h
  split at h
  · rename_i hu; obtain rfl := Option.some.inj h; simp only [VR] at hv; subst hv
    exact ⟨_, by simp [Builtin.len_, ht, run_underlying hu]; rfl, VR_int⟩
  · rename_i hu; obtain rfl := Option.some.inj h
    refine ⟨_, ?_, VR_int⟩
    simp [Builtin.len_, ht, run_underlying hu, goInt]
  · rename_i hu; obtain rfl := Option.some.inj h; simp only [VR] at hv; obtain ⟨_, _, rfl, _⟩ := hv
    exact ⟨_, by simp [Builtin.len_, ht, run_underlying hu]; rfl, VR_int⟩
  · rename_i hu; obtain rfl := Option.some.inj h; simp only [VR] at hv; subst hv
    exact ⟨_, by simp [Builtin.len_, ht, run_underlying hu]; rfl, VR_int⟩
  · rename_i hu; obtain rfl := Option.some.inj h; simp only [VR] at hv; obtain ⟨_, _, _, _, rfl, _⟩ := hv
    exact ⟨_, by simp [Builtin.len_, ht, run_underlying hu]; rfl, VR_int⟩
  · rename_i hu; obtain rfl := Option.some.inj h; simp only [VR] at hv; obtain ⟨_, rfl⟩ := hv
    exact ⟨_, by simp [Builtin.len_, ht, run_underlying hu]; rfl, VR_int⟩
  · rename_i m hu
    obtain ⟨es, hes, rfl⟩ := Option.map_eq_some_iff.1 h
    unfold mapEs at hes
    split at hes
    · obtain rfl := Option.some.inj hes; simp only [VR] at hv; subst hv
      exact ⟨_, by simp [Builtin.len_, ht, run_underlying hu]; rfl, VR_int⟩
    · rename_i id
      simp only [VR] at hv
      obtain ⟨hid, rfl⟩ := hv
      split at hes
      · rename_i es2 clock ho
        obtain rfl := Option.some.inj hes
        obtain ⟨_, es', hb, hr⟩ := hs.map hid ho
        refine ⟨_, ?_, VR_int⟩
        have : es'.size = es2.length := by have := (VRes_iff.1 hr).1; simp at this; omega
        simp [Builtin.len_, ht, run_underlying hu, run_getObj_map hb, goInt, this]
      · cases hes
    · cases hes
  · cases h

theorem foldMM_sound (w : World) : ∀ (l : List AV) (x r : AV) (v : Value) (l' : List Value), VR M n x v → VRs M n l l' →
    (foldMM true x l = some r → ∃ y, (l'.foldlM Builtin.max2 v).run P w = .ok y w ∧ VR M n r y) ∧ (foldMM false x l = some r → ∃ y, (l'.foldlM Builtin.min2 v).run P w = .ok y w ∧ VR M n r y)
  | [], x, r, v, l', hx, hl => by
    simp [VRs] at hl; subst hl
    constructor <;> intro h <;> simp [foldMM] at h <;> subst h <;> exact ⟨v, by simp, hx⟩
  | b :: l, x, r, v, l', hx, hl => by
    simp only [VRs] at hl
    obtain ⟨v2, l2, rfl, h1, h2⟩ := hl
    constructor
    · intro h
      unfold foldMM at h
      split at h
      · rename_i heq; cases heq
      · rename_i k a k' b r' heq
        obtain ⟨rfl, rfl⟩ := List.cons.inj heq
        split at h
        · rename_i hk; subst hk
          simp only [VR] at hx h1
          subst hx h1
          obtain ⟨y, hy, hr⟩ := (foldMM_sound w _ _ r _ l2 VR_int h2).1 h
          refine ⟨y, ?_, hr⟩
          simp only [List.foldlM_cons, Sem.run_bind, Builtin.max2, Sem.run_pure, Result.andThen_ok]
          simpa using hy
        · cases h
      · cases h
    · intro h
      unfold foldMM at h
      split at h
      · rename_i heq; cases heq
      · rename_i k a k' b r' heq
        obtain ⟨rfl, rfl⟩ := List.cons.inj heq
        split at h
        · rename_i hk; subst hk
          simp only [VR] at hx h1
          subst hx h1
          obtain ⟨y, hy, hr⟩ := (foldMM_sound w _ _ r _ l2 VR_int h2).2 h
          refine ⟨y, ?_, hr⟩
          simp only [List.foldlM_cons, Sem.run_bind, Builtin.min2, Sem.run_pure, Result.andThen_ok]
          simpa using hy
        · cases h
      · cases h

theorem slCells_sound {s : Nat} {x : AV} {v : Value} {cs : List AV} (h : slCells s x st = some cs) (hs : SRel w0 M st w) (hv : VR M st.size x v) :
    ∃ ao len c, v = .slice ao len c ∧ ((ao = none ∧ len = 0 ∧ cs = []) ∨ ∃ ad l, ao = some ad ∧ l.length = len * s ∧ VRs M st.size cs l ∧ ∀ (j : Nat) (u : Value), l[j]? = some u → w.cell? (ad.add j) = some u) := by
  unfold slCells at h
  split at h
  · obtain rfl := Option.some.inj h; simp only [VR] at hv; exact ⟨_, _, _, hv, .inl ⟨rfl, rfl, rfl⟩⟩
  · obtain rfl := Option.some.inj h; simp only [VR] at hv; obtain ⟨_, _, o, c, rfl, _⟩ := hv
    exact ⟨_, _, _, rfl, .inr ⟨_, [], rfl, by simp, VRs_nil, by simp⟩⟩
  · obtain rfl := Option.some.inj h; simp only [VR] at hv; obtain ⟨_, rfl⟩ := hv
    exact ⟨_, _, _, rfl, .inr ⟨_, [], rfl, by simp, VRs_nil, by simp⟩⟩
  · rename_i id off len cap k
    simp only [VR] at hv
    obtain ⟨hid, c, rfl, _⟩ := hv
    split at h
    · rename_i rw vs ho
      split at h
      · rename_i hle
        obtain rfl := Option.some.inj h
        obtain ⟨c', e, fz, hb, hc, _, _⟩ := hs.cells hid ho
        obtain ⟨l, hl, hvr, hcell⟩ := row_vals hc off (len * s) hle
        exact ⟨_, _, _, rfl, .inr ⟨_, l, rfl, hl, hvr, fun j u hj => by rw [Addr.add_lit, cell_of hb]; exact hcell j u hj⟩⟩
      · cases h
    · cases h
  · cases h

theorem bytesOf_sound : ∀ {cs : List AV} {l : List UInt8} {vs : List Value}, bytesOf cs = some l → VRs M n cs vs → ∃ ns : List Int, vs = ns.map (Value.int .u8) ∧ ns.map (fun n => UInt8.ofNat n.toNat) = l
  | [], l, vs, h, hv => by simp [bytesOf] at h; simp [VRs] at hv; exact ⟨[], by simp [hv], by simp [h]⟩
  | a :: cs, l, vs, h, hv => by
    simp only [VRs] at hv
    obtain ⟨v, vs', rfl, h1, h2⟩ := hv
    unfold bytesOf at h
    split at h
    · rename_i heq; cases heq
    · rename_i i r heq
      obtain ⟨rfl, rfl⟩ := List.cons.inj heq
      obtain ⟨l', hl', rfl⟩ := Option.map_eq_some_iff.1 h
      obtain ⟨ns, rfl, rfl⟩ := bytesOf_sound hl' h2
      simp only [VR] at h1
      subst h1
      exact ⟨i :: ns, by simp, by simp⟩
    · cases h
theorem foldl_push_bytes : ∀ (ns : List Int) (s : ByteArray), ns.foldl (fun r n => r.push (UInt8.ofNat n.toNat)) s = ⟨s.data ++ (ns.map fun n => UInt8.ofNat n.toNat).toArray⟩
  | [], s => by simp
  | i :: ns, s => by
    simp only [List.foldl_cons]
    rw [foldl_push_bytes ns]
    simp [ByteArray.push]

theorem conv01_sound {s d : TypeId} {a x : AV} {v : Value} {st' : St} (h : convA P s d a st = some (x, st')) (hr : ∀ e, P.underlying d ≠ some (.slice e)) (hs : SRel w0 M st w) (hv : VR M st.size a v) :
    st' = st ∧ ∃ y, (convert s d v).run P w = .ok y w ∧ VR M st.size x y := by
  unfold convA at h
  split at h
  · rename_i hu1 hu2
    obtain ⟨rfl, rfl⟩ := Prod.mk.inj (Option.some.inj h)
    simp only [VR] at hv; subst hv
    exact ⟨rfl, _, by simp [convert, run_underlying hu1, run_underlying hu2, Conv.intToInt], VR_int⟩
  · rename_i hu1 hu2
    obtain ⟨rfl, rfl⟩ := Prod.mk.inj (Option.some.inj h)
    simp only [VR] at hv; subst hv
    refine ⟨rfl, _, ?_, VR_str⟩
    simp only [convert, Sem.run_bind, run_underlying hu1, run_underlying hu2, Result.andThen_ok]
    rename_i d1 _ _
    cases d1 <;> simp
  · rename_i e a' hu1 hu2 hno
    split at h
    · rename_i cs hue hcs
      obtain ⟨l, hl, he⟩ := Option.map_eq_some_iff.1 h
      obtain ⟨rfl, rfl⟩ := Prod.mk.inj he
      obtain ⟨ao, len, c, rfl, hcase⟩ := slCells_sound hcs hs hv
      refine ⟨rfl, .string ⟨l.toArray⟩, ?_, VR_str⟩
      rw [run_convert_bytes_string w s d _ ao len c hu1 hue hu2]
      rcases hcase with ⟨rfl, rfl, rfl⟩ | ⟨ad, vs, rfl, hlen, hvr, hcell⟩
      · simp [bytesOf] at hl; subst hl; rfl
      · obtain ⟨ns, rfl, rfl⟩ := bytesOf_sound hl hvr
        have hld := run_loadCells_list (P := P) w ad _ hcell
        rw [hlen, Nat.mul_one] at hld
        rw [run_bytesToString w ad len c ns hld, foldl_push_bytes]
        simp
    · cases h
  · rename_i hu1 hu2; exact absurd hu2 (hr _)
  · rename_i hu1 hu2; exact absurd hu2 (hr _)
  · cases h
end Go.Ab
