/- THE ABSTRACT EVALUATOR, 22: what comes in, as a reading tells it, laid into an abstract store; what is told of a law's run holds of its calls. -/
import Derived.Test.YtlcapliakfomhaaAb21
import Derived.DataElems
namespace Go.Ab
open Go.RowKit (Below)

mutual
/-- What was read, in an abstract store: its cells. -/
def lay {H : Type} : DataW H → St → List AV × St
  | .lit (.bool b), st => ([.bool b], st)
  | .lit (.int k n), st => ([.int k n], st)
  | .lit (.string bs), st => ([.str ⟨bs.toArray⟩], st)
  | .nil, st => ([.nilslice], st)
  | .slice es sp, st => match es, sp with
    | [], [] => ([.zslice], st)
    | es, sp => ([.slice (layAll es st).2.size 0 es.length (es.length + sp.length) 0], (layAll es st).2.push (.cells false (layAll es st).1))
  | .agg ps, st => layAll ps st
  | _, st => ([.unk], st)
def layAll {H : Type} : List (DataW H) → St → List AV × St
  | [], st => ([], st)
  | d :: r, st => ((lay d st).1 ++ (layAll r (lay d st).2).1, (layAll r (lay d st).2).2)
end

section
variable (P : Program)
def tiles : List Field → Nat → Nat → Bool
  | [], off, n => Nat.beq off n
  | f :: r, off, n => Nat.beq f.offset off && tiles r (off + P.cellsOf f.type) n
/-- Types that are laid: whole numbers, bools, texts, slices, structs and arrays of these. -/
def okT : Nat → TypeId → Bool
  | 0, _ => false
  | d + 1, t => match P.underlying t with
    | some .bool | some (.int _) | some .string => true
    | some (.slice e) => okT d e && decide (0 < P.cellsOf e)
    | some (.struct fs) => tiles P fs.toList 0 (P.cellsOf t) && fs.toList.all fun f => okT d f.type
    | some (.array n e) => okT d e && Nat.beq (n * P.cellsOf e) (P.cellsOf t)
    | _ => false

def layArg {H : Type} (t : TypeId) (d : DataW H) (st : St) : AV × St :=
  (match tyAgg P t with
    | some true => .agg (lay d st).1
    | _ => ((lay d st).1.head?).getD .unk, (lay d st).2)
def layArgs {H : Type} : List TypeId → List (DataW H) → St → List AV × St
  | t :: ts, d :: ds, st => ((layArg P t d st).1 :: (layArgs ts ds (layArg P t d st).2).1, (layArgs ts ds (layArg P t d st).2).2)
  | _, _, st => ([], st)
end

section
variable {P : Program} {w : World} {H : Type} {enc : TypeId × Value → H}

def Grow (M : Map) (st : St) (M' : Map) (st' : St) : Prop := st.size ≤ st'.size ∧ ∀ i, i < st.size → M' i = M i
theorem Grow.trans {M M' M'' : Map} {st st' st'' : St} (h : Grow M st M' st') (k : Grow M' st' M'' st'') : Grow M st M'' st'' :=
  ⟨Nat.le_trans h.1 k.1, fun i hi => by rw [k.2 i (Nat.lt_of_lt_of_le hi h.1), h.2 i hi]⟩

def Good (w : World) (d : DataW H) (cs : List Value) : Prop :=
  ∀ (M : Map) (st : St), SRel w M st w → ∃ M', SRel w M' (lay d st).2 w ∧ Grow M st M' (lay d st).2 ∧ VRs M' (lay d st).2.size (lay d st).1 cs

theorem goodAll : ∀ (l : List (DataW H × List Value)), (∀ x ∈ l, Good w x.1 x.2) → ∀ (M : Map) (st : St), SRel w M st w →
    ∃ M', SRel w M' (layAll (l.map (·.1)) st).2 w ∧ Grow M st M' (layAll (l.map (·.1)) st).2 ∧ VRs M' (layAll (l.map (·.1)) st).2.size (layAll (l.map (·.1)) st).1 (l.map (·.2)).flatten
  | [], _, M, st, hs => ⟨M, hs, ⟨Nat.le_refl _, fun _ _ => rfl⟩, VRs_nil⟩
  | x :: l, hg, M, st, hs => by
    obtain ⟨M1, h1, g1, v1⟩ := hg x (by simp) M st hs
    obtain ⟨M2, h2, g2, v2⟩ := goodAll l (fun y hy => hg y (by simp [hy])) M1 _ h1
    refine ⟨M2, h2, g1.trans g2, ?_⟩
    simp only [List.map_cons, List.flatten_cons, layAll]
    exact (v1.mono g2.1 g2.2).append v2

theorem mapM_pairs {α : Type} {f : α → Option (List Value)} {g : List Value → Option (DataW H × List MemPlace)} : ∀ {l : List α} {ys : List (DataW H × List MemPlace)}, (l.mapM fun i => (f i).bind g) = some ys →
    ∃ zs : List (DataW H × List Value), zs.map (·.1) = ys.map (·.1) ∧ (∀ z ∈ zs, ∃ q, g z.2 = some (z.1, q)) ∧ l.mapM f = some (zs.map (·.2))
  | [], ys, h => by
    simp only [List.mapM_nil, Option.pure_def, Option.some.injEq] at h
    subst h
    exact ⟨[], rfl, by simp, by simp⟩
  | x :: l, ys, h => by
    simp only [List.mapM_cons, Option.bind_eq_bind, Option.pure_def, Option.bind_eq_some_iff, Option.some.injEq] at h
    obtain ⟨y, ⟨c, hc, hy⟩, ys', hys, rfl⟩ := h
    obtain ⟨zs, h1, h2, h3⟩ := mapM_pairs hys
    refine ⟨(y.1, c) :: zs, by simp [h1], fun z hz => ?_, by simp [List.mapM_cons, hc, h3]⟩
    rcases List.mem_cons.1 hz with rfl | hz
    · exact ⟨y.2, hy⟩
    · exact h2 z hz

theorem mapM_some {α β : Type} {f : α → Option β} : ∀ {l : List α} {ys : List β}, l.mapM f = some ys → ys.length = l.length ∧ ∀ (i : Nat) (x : α), l[i]? = some x → ∃ y, ys[i]? = some y ∧ f x = some y
  | [], ys, h => by
    simp only [List.mapM_nil, Option.pure_def, Option.some.injEq] at h
    subst h
    simp
  | x :: l, ys, h => by
    simp only [List.mapM_cons, Option.bind_eq_bind, Option.pure_def, Option.bind_eq_some_iff, Option.some.injEq] at h
    obtain ⟨y, hy, ys', hys, rfl⟩ := h
    obtain ⟨h1, h2⟩ := mapM_some hys
    refine ⟨by simp [h1], fun i z hz => ?_⟩
    cases i with
    | zero => simp at hz; subst hz; exact ⟨y, rfl, hy⟩
    | succ i => simpa using h2 i z (by simpa using hz)

/-- A row of cells that was read: each at its place. -/
theorem cells_row (a : Addr) (s : Nat) : ∀ (len k : Nat) (css : List (List Value)), ((List.range' k len).mapM fun i => w.cells? 0 (a.add (i * s)) s) = some css →
    css.flatten.length = len * s ∧ ∀ (j : Nat) (y : Value), css.flatten[j]? = some y → w.cell? (a.add (k * s + j)) = some y
  | 0, k, css, h => by
    simp only [List.range'_zero, List.mapM_nil, Option.pure_def, Option.some.injEq] at h
    subst h
    simp
  | len + 1, k, css, h => by
    simp only [List.range'_succ, List.mapM_cons, Option.bind_eq_bind, Option.pure_def, Option.bind_eq_some_iff, Option.some.injEq] at h
    obtain ⟨c, hc, css', hcss, rfl⟩ := h
    obtain ⟨hl, hcell⟩ := cells_row a s len (k + 1) css' hcss
    simp only [World.cells?, Nat.zero_le, if_true] at hc
    obtain ⟨h1, h2⟩ := mapM_some hc
    have hcl : c.length = s := by simpa using h1
    refine ⟨by rw [List.flatten_cons, List.length_append, hcl, hl, Nat.add_mul]; omega, fun j y hj => ?_⟩
    rw [List.flatten_cons, List.getElem?_append] at hj
    split at hj
    · rename_i hlt
      obtain ⟨z, hz, hzc⟩ := h2 j j (by rw [List.getElem?_range (by omega)])
      rw [hz] at hj
      obtain rfl := Option.some.inj hj
      rwa [Addr.add_add] at hzc
    · rename_i hge
      have := hcell (j - c.length) y hj
      rw [show (k + 1) * s + (j - c.length) = k * s + j from by rw [Nat.add_mul, hcl]; omega] at this
      exact this

theorem cell_some {a : Addr} {y : Value} (h : w.cell? a = some y) : a.spot = none ∧ ∃ c e fz, w.heap[a.block]? = some (.cells c e fz) ∧ c[a.off]? = some y := by
  unfold World.cell? at h
  split at h
  · rename_i c e fz hb
    split at h
    · cases h
    · rename_i hsp
      exact ⟨by simpa using hsp, c, e, fz, hb, h⟩
  · cases h

theorem tiles_flat : ∀ (fs : List Field) (off n : Nat) (cs : List Value), tiles P fs off n = true → cs.length = n → (fs.map fun f => (cs.drop f.offset).take (P.cellsOf f.type)).flatten = cs.drop off
  | [], off, n, cs, h, hl => by
    simp only [tiles] at h
    have := Nat.eq_of_beq_eq_true h
    simp [this, ← hl]
  | f :: r, off, n, cs, h, hl => by
    simp only [tiles, Bool.and_eq_true] at h
    have h1 := Nat.eq_of_beq_eq_true h.1
    rw [List.map_cons, List.flatten_cons, tiles_flat r _ n cs h.2 hl, h1, ← List.drop_drop, List.take_append_drop]
theorem parts_flat (s : Nat) : ∀ (n k : Nat) (cs : List Value), cs.length = (k + n) * s → ((List.range' k n).map fun i => (cs.drop (i * s)).take s).flatten = cs.drop (k * s)
  | 0, k, cs, h => by simp at h; simp [← h]
  | n + 1, k, cs, h => by
    rw [List.range'_succ, List.map_cons, List.flatten_cons, parts_flat s n (k + 1) cs (by rw [h]; congr 1; omega), Nat.add_mul, Nat.one_mul, ← List.drop_drop, List.take_append_drop]

theorem mapM_pairs' {α : Type} {f : α → List Value} {t : α → TypeId} {g : TypeId → List Value → Option (DataW H × List MemPlace)} : ∀ {l : List α} {ys : List (DataW H × List MemPlace)}, (l.mapM fun i => g (t i) (f i)) = some ys →
    ∃ zs : List (DataW H × List Value), zs.map (·.1) = ys.map (·.1) ∧ (∀ z ∈ zs, ∃ i ∈ l, ∃ q, g (t i) z.2 = some (z.1, q)) ∧ l.map f = zs.map (·.2)
  | [], ys, h => by
    simp only [List.mapM_nil, Option.pure_def, Option.some.injEq] at h
    subst h
    exact ⟨[], rfl, by simp, by simp⟩
  | x :: l, ys, h => by
    simp only [List.mapM_cons, Option.bind_eq_bind, Option.pure_def, Option.bind_eq_some_iff, Option.some.injEq] at h
    obtain ⟨y, hy, ys', hys, rfl⟩ := h
    obtain ⟨zs, h1, h2, h3⟩ := mapM_pairs' hys
    refine ⟨(y.1, f x) :: zs, by simp [h1], fun z hz => ?_, by simp [h3]⟩
    rcases List.mem_cons.1 hz with rfl | hz
    · exact ⟨x, by simp, y.2, hy⟩
    · obtain ⟨i, hi, q⟩ := h2 z hz
      exact ⟨i, by simp [hi], q⟩

theorem trod_good : ∀ (fuel k : Nat) (t : TypeId) (cs : List Value) (d : DataW H) (ps : List MemPlace), DataW.trod enc P w 0 (fun _ => true) true fuel t cs = some (d, ps) → okT P k t = true → Good w d cs
  | 0, _, _, _, _, _, h, _ => by simp [DataW.trod] at h
  | fuel + 1, 0, _, _, _, _, _, hk => by simp [okT] at hk
  | fuel + 1, k + 1, t, cs, d, ps, h, hk => by
    have ih := trod_good fuel k
    unfold okT at hk
    unfold DataW.trod at h
    have leaf : ∀ (x : AV) (v : Value), cs = [v] → (∀ st : St, lay d st = ([x], st)) → (∀ (M : Map) (n : Nat), VR M n x v) → Good w d cs := by
      intro x v hcs hlay hv M st hs
      rw [hlay]
      exact ⟨M, hs, ⟨Nat.le_refl _, fun _ _ => rfl⟩, by rw [hcs]; exact VRs_cons.2 ⟨hv _ _, VRs_nil⟩⟩
    split at hk
    · rename_i hu
      rw [hu] at h
      rcases cs with _ | ⟨v, _ | ⟨v2, r⟩⟩
      · simp at h
      · cases v <;> simp at h
        rename_i b
        obtain ⟨rfl, rfl⟩ := h
        exact leaf (.bool b) (.bool b) rfl (fun st => by simp [lay]) (fun M n => by simp [VR])
      · simp at h
    · rename_i kk hu
      rw [hu] at h
      rcases cs with _ | ⟨v, _ | ⟨v2, r⟩⟩
      · simp at h
      · cases v <;> simp at h
        rename_i k2 b
        obtain ⟨⟨rfl, _⟩, rfl, rfl⟩ := h
        exact leaf (.int k2 b) (.int k2 b) rfl (fun st => by simp [lay]) (fun M n => by simp [VR])
      · simp at h
    · rename_i hu
      rw [hu] at h
      rcases cs with _ | ⟨v, _ | ⟨v2, r⟩⟩
      · simp at h
      · cases v <;> simp at h
        rename_i b
        obtain ⟨_, rfl, rfl⟩ := h
        exact leaf (.str b) (.string b) rfl (fun st => by simp [lay]) (fun M n => by simp [VR])
      · simp at h
    · rename_i e hu
      rw [hu] at h
      simp only [Bool.and_eq_true, decide_eq_true_eq] at hk
      rcases cs with _ | ⟨v, _ | ⟨v2, r⟩⟩
      · simp at h
      · cases v
        case slice p len cap =>
          cases p with
          | none =>
            cases len <;> cases cap <;> simp at h
            obtain ⟨rfl, rfl⟩ := h
            exact leaf .nilslice (.slice none 0 0) rfl (fun st => by simp [lay]) (fun M n => by simp [VR])
          | some ad =>
            simp only [Nat.zero_le, true_and, if_true] at h
            split at h
            · rename_i hc
              obtain ⟨hlc, hcm⟩ := hc
              obtain ⟨elems, hel, h⟩ := Option.bind_eq_some_iff.1 h
              obtain ⟨rst, hrest, h⟩ := Option.map_eq_some_iff.1 h
              obtain ⟨rfl, rfl⟩ := Prod.mk.inj h
              obtain ⟨zs, z1, z2, z3⟩ := mapM_pairs hel
              have hlz : zs.length = len := by
                have := congrArg List.length z1
                have h2 := (mapM_some hel).1
                simp at this h2
                omega
              have hle : elems.length = len := by have := (mapM_some hel).1; simpa using this
              have hlr : rst.length = cap - len := by have := (mapM_some hrest).1; simpa using this
              rw [List.range_eq_range'] at z3
              obtain ⟨c1, c2⟩ := cells_row ad (P.cellsOf e) len 0 _ z3
              by_cases hz : cap = 0
              · have hl0 : len = 0 := by omega
                subst hz
                subst hl0
                have he0 : elems = [] := List.eq_nil_of_length_eq_zero hle
                have hr0 : rst = [] := List.eq_nil_of_length_eq_zero (by omega)
                subst he0
                subst hr0
                exact leaf .zslice (.slice (some ad) 0 0) rfl (fun st => by simp [lay]) (fun M n => by simp [VR])
              · intro M st hs
                obtain ⟨M1, h1, g1, v1⟩ := goodAll zs (fun z hz => by
                  obtain ⟨q, hq⟩ := z2 z hz
                  exact ih e z.2 z.1 q hq hk.1) M st hs
                rw [z1] at h1 g1 v1
                -- one cell at the least
                have hcell : ∃ y, w.cell? (ad.add 0) = some y := by
                  by_cases hl0 : len = 0
                  · obtain ⟨y, _, hy⟩ := (mapM_some hrest).2 0 0 (by rw [List.getElem?_range (by omega)])
                    obtain ⟨cs', hcs', _⟩ := Option.bind_eq_some_iff.1 hy
                    simp only [World.cells?, Nat.zero_le, if_true, hl0, Nat.add_zero, Nat.zero_mul] at hcs'
                    obtain ⟨y', _, hy'⟩ := (mapM_some hcs').2 0 0 (by rw [List.getElem?_range hk.2])
                    rw [Addr.add_add] at hy'
                    exact ⟨y', hy'⟩
                  · have hpos : 0 < (zs.map (·.2)).flatten.length := by rw [c1]; exact Nat.mul_pos (by omega) hk.2
                    have := c2 0 _ (List.getElem?_eq_getElem hpos)
                    simp only [Nat.zero_mul, Nat.zero_add] at this
                    exact ⟨_, this⟩
                obtain ⟨y0, hy0⟩ := hcell
                obtain ⟨hsp, c, ee, fz, hb, _⟩ := cell_some hy0
                simp only [Addr.add, if_true] at hsp hb
                have hlt : ad.block < w.heap.size := (Array.getElem?_eq_some_iff.1 hb).1
                have hlay : lay (H := H) (.slice (elems.map (·.1)) (rst.map (·.1))) st = ([.slice (layAll (elems.map (·.1)) st).2.size 0 (elems.map (·.1)).length ((elems.map (·.1)).length + (rst.map (·.1)).length) 0], (layAll (elems.map (·.1)) st).2.push (.cells false (layAll (elems.map (·.1)) st).1)) := by
                  have hne : elems.length + rst.length ≠ 0 := by omega
                  cases elems <;> cases rst <;> first | (simp at hne; done) | simp [lay]
                rw [hlay]
                simp only
                refine ⟨Mput M1 (layAll (elems.map (·.1)) st).2.size ⟨ad.block, ad.off, 0⟩, h1.push _ _ (Foll.refl w) (fun _ _ => rfl) ?_ (fun h => by simp [AO.own] at h) hlt, g1.trans ⟨by simp, Mput_lt _ _ _⟩, ?_⟩
                · refine ⟨c, ee, fz, hb, fun i x hx => ?_, fun h => (by cases h), fun _ => hlt⟩
                  obtain ⟨y, hy, hv⟩ := v1.get hx
                  refine ⟨y, ?_, hv.mono (by omega) (Mput_lt _ _ _)⟩
                  have := c2 i y hy
                  obtain ⟨_, c', e', fz', hb', hc'⟩ := cell_some this
                  rw [Nat.zero_mul, Nat.zero_add] at hb' hc'
                  have hbl : (ad.add i).block = ad.block := by unfold Addr.add; split <;> rfl
                  have hof : (ad.add i).off = ad.off + i := by unfold Addr.add; split <;> simp_all
                  rw [hbl, hb] at hb'
                  rw [hof] at hc'
                  obtain ⟨rfl, _, _⟩ := Obj.cells.inj (Option.some.inj hb')
                  exact hc'
                · refine VRs_cons.2 ⟨?_, VRs_nil⟩
                  simp only [VR, Mput_same, St.size_push]
                  refine ⟨by omega, cap, ?_, by simp; omega, by simp, fun _ => by simp; omega, fun h => by omega⟩
                  rw [List.length_map, hle]
                  obtain ⟨b, o, sp⟩ := ad
                  simp only at hsp
                  subst hsp
                  rfl
            · cases h
        all_goals simp at h
      · simp at h
    · rename_i fs hu
      rw [hu] at h
      simp only [Bool.and_eq_true] at hk
      have h' : (if cs.length = P.cellsOf t then (fs.toList.mapM fun f => DataW.trod enc P w 0 (fun _ => true) true fuel f.type ((cs.drop f.offset).take (P.cellsOf f.type))).map fun xs => ((.agg (xs.map (·.1)) : DataW H), xs.flatMap (·.2)) else none) = some (d, ps) := h
      split at h'
      · rename_i hl
        obtain ⟨xs, hxs, h2⟩ := Option.map_eq_some_iff.1 h'
        obtain ⟨rfl, rfl⟩ := Prod.mk.inj h2
        obtain ⟨zs, z1, z2, z3⟩ := mapM_pairs' (t := fun f : Field => f.type) (f := fun f : Field => (cs.drop f.offset).take (P.cellsOf f.type)) hxs
        intro M st hs
        obtain ⟨M1, h1, g1, v1⟩ := goodAll zs (fun z hz => by
          obtain ⟨f, hf, q, hq⟩ := z2 z hz
          exact ih f.type z.2 z.1 q hq (List.all_eq_true.1 hk.2 f hf)) M st hs
        rw [z1] at h1 g1 v1
        have := tiles_flat fs.toList 0 _ cs hk.1 hl
        rw [z3, List.drop_zero] at this
        rw [this] at v1
        exact ⟨M1, by simpa [lay] using h1, by simpa [lay] using g1, by simpa [lay] using v1⟩
      · cases h'
    · rename_i m e hu
      rw [hu] at h
      simp only [Bool.and_eq_true] at hk
      have h' : (if cs.length = P.cellsOf t then ((List.range m).mapM fun i => DataW.trod enc P w 0 (fun _ => true) true fuel e ((cs.drop (i * P.cellsOf e)).take (P.cellsOf e))).map fun xs => ((.agg (xs.map (·.1)) : DataW H), xs.flatMap (·.2)) else none) = some (d, ps) := h
      split at h'
      · rename_i hl
        obtain ⟨xs, hxs, h2⟩ := Option.map_eq_some_iff.1 h'
        obtain ⟨rfl, rfl⟩ := Prod.mk.inj h2
        obtain ⟨zs, z1, z2, z3⟩ := mapM_pairs' (t := fun _ : Nat => e) (f := fun i : Nat => (cs.drop (i * P.cellsOf e)).take (P.cellsOf e)) hxs
        intro M st hs
        obtain ⟨M1, h1, g1, v1⟩ := goodAll zs (fun z hz => by
          obtain ⟨_, _, q, hq⟩ := z2 z hz
          exact ih e z.2 z.1 q hq hk.1) M st hs
        rw [z1] at h1 g1 v1
        have := parts_flat (P.cellsOf e) m 0 cs (by rw [hl, ← Nat.eq_of_beq_eq_true hk.2, Nat.zero_add])
        rw [List.range_eq_range'] at z3
        rw [z3, Nat.zero_mul, List.drop_zero] at this
        rw [this] at v1
        exact ⟨M1, by simpa [lay] using h1, by simpa [lay] using g1, by simpa [lay] using v1⟩
      · cases h'
    · cases hk

theorem one_of_ok {r : Reach} {base : Nat} {t : TypeId} {v : Value} (h : Value.okWide P w r base t v) (ht : tyAgg P t ≠ some true) : v.cells = #[v] := by
  have key : Cell.okWide P w r base t v := by
    unfold Value.okWide at h
    unfold tyAgg at ht
    split at h
    · rename_i hu; rw [hu] at ht; simp at ht
    · rename_i hu; rw [hu] at ht; simp at ht
    · exact h
  refine Value.cells_one ?_
  unfold Cell.okWide Cell.ok at key
  cases v <;> first | rfl | (exfalso; revert key; split <;> first | (intro h; exact h) | (split <;> intro h <;> exact h) | simp_all)

/-- All that came in. -/
theorem args_sound (k : Nat) : ∀ (ts : List TypeId) (vs : List Value) (ds : List (DataW H)) (ps : List MemPlace), DataW.TrodAll enc P w 0 (fun _ => true) true ts vs ds ps → (∀ t ∈ ts, okT P k t = true) →
    (∀ (j : Nat) t v, ts[j]? = some t → vs[j]? = some v → ∃ r base, Value.okWide P w r base t v) → ∀ (M : Map) (st : St), SRel w M st w →
    ∃ M', SRel w M' (layArgs P ts ds st).2 w ∧ Grow M st M' (layArgs P ts ds st).2 ∧ VRs M' (layArgs P ts ds st).2.size (layArgs P ts ds st).1 vs
  | [], [], [], _, _, _, _, M, st, hs => ⟨M, hs, ⟨Nat.le_refl _, fun _ _ => rfl⟩, VRs_nil⟩
  | t :: ts, v :: vs, d :: ds, ps, h, hk, hok, M, st, hs => by
    obtain ⟨p, q, ⟨fuel, hd⟩, hr, _⟩ := h
    obtain ⟨M1, h1, g1, v1⟩ := trod_good fuel k t _ d p hd (hk t (by simp)) M st hs
    obtain ⟨M2, h2, g2, v2⟩ := args_sound k ts vs ds q hr (fun u hu => hk u (by simp [hu])) (fun j u x hu hx => hok (j + 1) u x (by simpa using hu) (by simpa using hx)) M1 _ h1
    refine ⟨M2, h2, g1.trans g2, ?_⟩
    have hcell : VR M1 (lay d st).2.size (layArg P t d st).1 v := by
      obtain ⟨r, base, hv⟩ := hok 0 t v rfl rfl
      simp only [layArg]
      split
      · rename_i ht
        have : ∃ cs, v = .agg cs := by
          unfold Value.okWide at hv
          unfold tyAgg at ht
          split at hv
          · obtain ⟨cs, e, _⟩ := hv; exact ⟨cs, e⟩
          · obtain ⟨cs, e, _⟩ := hv; exact ⟨cs, e⟩
          · rename_i h1 h2
            cases hu : P.underlying t with
            | none => rw [hu] at ht; simp at ht
            | some u => rw [hu] at ht; cases u <;> simp_all
        obtain ⟨cs, rfl⟩ := this
        simp only [VR]
        exact ⟨cs, rfl, v1⟩
      · rename_i ht
        have hv1 := one_of_ok hv (fun h => ht h)
        rw [hv1] at v1
        have hl := VRs.length v1
        match hx : (lay d st).1, v1, hl with
        | [x], v1, _ => simpa using (VRs_cons.1 v1).1
    exact VRs_cons.2 ⟨hcell.mono g2.1 g2.2, v2⟩
  | [], _ :: _, _, _, h, _, _, _, _, _ => by simp [DataW.TrodAll] at h
  | [], [], _ :: _, _, h, _, _, _, _, _ => by simp [DataW.TrodAll] at h
  | _ :: _, [], _, _, h, _, _, _, _, _ => by simp [DataW.TrodAll] at h
  | _ :: _, _ :: _, [], _, h, _, _, _, _, _ => by simp [DataW.TrodAll] at h

/-- WHAT A LAW's RUN TELLS HOLDS OF ITS CALL. -/
theorem law_calls (hS : Sane P) {f : FuncId} (k : Nat) {ts : List TypeId} {args : Array Value} {ds : List (DataW H)} {ps : List MemPlace} (h : DataW.TrodAll enc P w 0 (fun _ => true) true ts args.toList ds ps) (hk : ts.all (okT P k) = true)
    (hok : ∀ (j : Nat) t v, ts[j]? = some t → args[j]? = some v → ∃ r base, Value.okWide P w r base t v)
    (hrun : Run P (.func f) (layArgs P ts ds { objs := [] }).1 (layArgs P ts ds { objs := [] }).2 fun v _ => v = .bool true) : Calls P f args w fun e W' => e = .returned (.bool true) ∧ Below w.heap.size w W' := by
  have h0 : SRel w (fun _ => ⟨0, 0, 0⟩) { objs := [] } w := ⟨Below.refl _ _, fun id hid => by simp [St.size] at hid, fun i j hi => by simp [St.size] at hi, fun i hi => by simp [St.size] at hi⟩
  obtain ⟨M, hs, _, hv⟩ := args_sound k ts args.toList ds ps h (fun t ht => List.all_eq_true.1 hk t ht) (fun j t v ht hv => hok j t v ht (by simpa using hv)) _ _ h0
  have := ((Run.sound hS hrun).2 w M w args hs hv).1
  refine this.mono ?_
  rintro e W' ⟨v, x, st', M', rfl, rfl, hvr, hs', _⟩
  simp only [VR] at hvr
  subst hvr
  exact ⟨rfl, hs'.below⟩
end
end Go.Ab
