/- THE ABSTRACT EVALUATOR, 16: every operation that calls nothing, as the machine executes it; a map's next. -/
import Derived.Test.YtlcapliakfomhaaAb15
namespace Go.Ab
open Go.RowKit (Below)
variable {P : Program} {M : Map} {n : Nat} {st : St} {w0 w : World}

/-- What the machine makes of an operation: a value, or nothing (then its slot is undefined). -/
def Gives (nx : Next) (v : Value) : Prop := nx = .value v ∨ (nx = .skip ∧ v = undef)
def StepsN (w0 : World) (M : Map) (st : St) (w : World) (P : Program) (s : Sem Next) (x : AV) (st' : St) : Prop :=
  ∃ nx v w' M', s.run P w = .ok nx w' ∧ Gives nx v ∧ VR M' st'.size x v ∧ SRel w0 M' st' w' ∧ Ext M st w M' st' w'
theorem Steps1.next {s : Sem Value} {x : AV} {st' : St} (h : Steps1 w0 M st w P s x st') : StepsN w0 M st w P (do pure (.value (← s))) x st' := by
  obtain ⟨v, w', M', h1, h2, h3, h4⟩ := h
  exact ⟨.value v, v, w', M', run_v h1, .inl rfl, h2, h3, h4⟩
theorem StepsU.next {s : Sem Unit} {st' : St} (h : StepsU w0 M st w P s st') : StepsN w0 M st w P (do s; pure .skip) undefA st' := by
  obtain ⟨w', M', h1, h3, h4⟩ := h
  exact ⟨.skip, undef, w', M', by simp only [Sem.run_bind, h1, Result.andThen_ok, Sem.run_pure], .inr ⟨rfl, rfl⟩, by simp [VR, undefA, undef, VRs], h3, h4⟩

theorem builtin_args {env : Env} {a : Act} {args : Array Operand} (he : ∀ x ∈ args, VR M n (opd env x) (a.eval x)) : VRs M n (args.toList.map (opd env)) (args.map a.eval).toList := by
  rw [Array.toList_map]; exact VRs.map_of fun x hx => he x (by simpa using hx)
theorem VRs_one {x : AV} {B : Array Value} (h : VRs M n [x] B.toList) : ∃ v, B = #[v] ∧ VR M n x v := by
  simp only [VRs] at h
  obtain ⟨v, vs', e, h1, rfl⟩ := h
  exact ⟨v, by cases B; simp_all, h1⟩
theorem VRs_two {x y : AV} {B : Array Value} (h : VRs M n [x, y] B.toList) : ∃ v u, B = #[v, u] ∧ VR M n x v ∧ VR M n y u := by
  simp only [VRs] at h
  obtain ⟨v, vs', e, h1, u, vs2, rfl, h2, rfl⟩ := h
  exact ⟨v, u, by cases B; simp_all, h1, h2⟩

theorem prim_sound {env : Env} {o : Oper} {a : Act} {x : AV} {st' : St} (h : primA P env o.op st = some (x, st')) (hs : SRel w0 M st w) (he : OpR M st.size env a o.op) : StepsN w0 M st w P (execOp a.eval o) x st' := by
  by_cases hr : rank P o.op < 2
  · obtain ⟨rfl, v, hv, hvr⟩ := prim01_sound hr h hs he
    exact ⟨.value v, v, w, M, hv, .inl rfl, hvr, hs, Ext.refl _ _ _⟩
  obtain ⟨dst, op, type, pos, after, guard⟩ := o
  simp only at hr h he ⊢
  unfold OpR at he
  cases op
  case alloc t =>
    simp only [primA] at h
    split at h
    · rename_i z hz
      obtain ⟨rfl, rfl⟩ := Prod.mk.inj (Option.some.inj h)
      simp only [execOp]
      exact (alloc_sound hz hs).next
    · cases h
  case box t y =>
    simp only [primA] at h
    split at h
    · rename_i hone
      obtain ⟨rfl, rfl⟩ := Prod.mk.inj (Option.some.inj h)
      simp only [execOp]
      exact (box_sound hone hs (he y (by simp [Op.operands]))).next
    · cases h
  case buildSlice t k ps =>
    simp only [primA] at h
    have hparts : ∀ (j : Nat) (p : Nat × AV) (p' : Nat × Value), (ps.toList.map fun p => (p.1, opd env p.2))[j]? = some p → (ps.map fun p => (p.1, a.eval p.2))[j]? = some p' → p.1 = p'.1 ∧ VR M st.size p.2 p'.2 := by
      intro j p p' hj hj'
      simp only [List.getElem?_map, Array.getElem?_map, Array.getElem?_toList] at hj hj'
      cases hq : ps[j]? with
      | none => rw [hq] at hj; simp at hj
      | some q =>
        rw [hq] at hj hj'
        simp only [Option.map_some, Option.some.injEq] at hj hj'
        subst hj hj'
        refine ⟨rfl, he q.2 ?_⟩
        simp only [Op.operands, List.mem_toArray, List.mem_map]
        exact ⟨q, by simpa using Array.mem_of_getElem? hq, rfl⟩
    have key := (buildSlice_sound h hs (by simp) hparts).next
    simp only [execOp]
    exact key
  case store t y z =>
    simp only [primA] at h
    obtain ⟨r, hy, hp⟩ := Option.map_eq_some_iff.1 h
    obtain ⟨rfl, rfl⟩ := Prod.mk.inj hp
    simp only [execOp]
    exact (store_sound hy hs (he y (by simp [Op.operands])) (he z (by simp [Op.operands]))).next
  case mapUpdate t m k z =>
    simp only [primA] at h
    obtain ⟨r, hy, hp⟩ := Option.map_eq_some_iff.1 h
    obtain ⟨rfl, rfl⟩ := Prod.mk.inj hp
    simp only [execOp]
    exact (mapUpdate_sound hy hs (he m (by simp [Op.operands])) (he k (by simp [Op.operands])) (he z (by simp [Op.operands]))).next
  case insert t m k z =>
    simp only [primA] at h
    obtain ⟨r, hy, hp⟩ := Option.map_eq_some_iff.1 h
    obtain ⟨rfl, rfl⟩ := Prod.mk.inj hp
    simp only [execOp]
    exact (mapUpdate_sound hy hs (he m (by simp [Op.operands])) (he k (by simp [Op.operands])) (he z (by simp [Op.operands]))).next
  case makeMap t r =>
    simp only [primA] at h
    split at h
    · obtain ⟨rfl, rfl⟩ := Prod.mk.inj (Option.some.inj h)
      simp only [execOp]
      exact (makeMap_sound hs (.inl rfl)).next
    · rename_i y
      split at h
      · rename_i d e k i hu hb
        obtain ⟨rfl, rfl⟩ := Prod.mk.inj (Option.some.inj h)
        have hc := he y (by simp [Op.operands])
        rw [hb] at hc
        simp only [VR] at hc
        simp only [execOp]
        exact (makeMap_sound hs (.inr ⟨k, i, _, _, by rw [Option.map_some, hc], hu⟩)).next
      · cases h
  case makeSlice t l c =>
    simp only [primA] at h
    simp only [execOp]
    exact (makeSlice_sound h hs (he l (by simp [Op.operands])) (he c (by simp [Op.operands]))).next
  case convert s d y =>
    simp only [primA] at h
    simp only [execOp]
    exact (conv_sound h hs (he y (by simp [Op.operands]))).next
  case range t y =>
    simp only [primA] at h
    simp only [execOp]
    exact (range_sound h hs (he y (by simp [Op.operands]))).next
  case call c =>
    obtain ⟨callee, args, argTypes⟩ := c
    cases callee
    case value f => simp [primA] at h
    case invoke f m => simp [primA] at h
    case builtin b =>
      simp only [primA] at h
      have hargs : VRs M st.size (args.toList.map (opd env)) (args.map a.eval).toList := builtin_args fun x hx => he x (by simp [Op.operands, Call.operands]; simpa using hx)
      generalize hA : args.toList.map (opd env) = A at h hargs
      generalize hB : args.map a.eval = B at hargs
      have run : ∀ (s : Sem Value) (v : Value) (w' : World), s.run P w = .ok v w' → (builtin b argTypes type (args.map fun | .const _ => true | _ => false) B) = (do pure (.value (← s))) →
          (execOp a.eval { dst, op := .call { callee := .builtin b, args, argTypes }, type, pos, after, guard }).run P w = .ok (.value v) w' := by
        intro s v w' hsr hb
        have : (execOp a.eval { dst, op := .call { callee := .builtin b, args, argTypes }, type, pos, after, guard }) = (do pure (.value (← s))) := by
          simp only [execOp, resolve, hB, pure_bind, invoke]
          exact hb
        rw [this]
        exact run_v hsr
      unfold builtinA at h
      split at h
      · simp [rank] at hr
      · rename_i y z
        split at h
        · rename_i t u ht hu
          obtain ⟨v1, v2, rfl, h1, h2⟩ := VRs_two hargs
          obtain ⟨l, rfl⟩ : ∃ l : List TypeId, argTypes = (t :: u :: l).toArray := by
            obtain ⟨ts⟩ := argTypes
            match ts, ht, hu with
            | t' :: u' :: l, ht, hu => exact ⟨l, by simp_all⟩
            | [t'], ht, hu => simp at hu
            | [], ht, hu => simp at ht
          obtain ⟨v, w', M', g1, g2, g3, g4⟩ := append_sound l type h hs h1 h2
          exact ⟨_, v, w', M', run _ _ _ g1 rfl, .inl rfl, g2, g3, g4⟩
        · cases h
      · rename_i y z
        split at h
        · rename_i t ht
          obtain ⟨v1, v2, rfl, h1, h2⟩ := VRs_two hargs
          obtain ⟨v, w', M', g1, g2, g3, g4⟩ := copy_sound argTypes ht type h hs h1 h2
          exact ⟨_, v, w', M', run _ _ _ g1 rfl, .inl rfl, g2, g3, g4⟩
        · cases h
      · rename_i y z
        split at h
        · rename_i t ht
          obtain ⟨r, hy, hp⟩ := Option.map_eq_some_iff.1 h
          obtain ⟨rfl, rfl⟩ := Prod.mk.inj hp
          obtain ⟨v1, v2, rfl, h1, h2⟩ := VRs_two hargs
          obtain ⟨w', M', g1, g3, g4⟩ := delete_sound argTypes ht type hy hs h1 h2
          exact ⟨_, _, w', M', run _ _ _ g1 rfl, .inl rfl, by simp [VR, VRs], g3, g4⟩
        · cases h
      · rename_i y
        split at h
        · rename_i t ht
          obtain ⟨r, hy, hp⟩ := Option.map_eq_some_iff.1 h
          obtain ⟨rfl, rfl⟩ := Prod.mk.inj hp
          obtain ⟨v1, rfl, h1⟩ := VRs_one hargs
          obtain ⟨w', M', g1, g3, g4⟩ := clear_sound argTypes ht type hy hs h1
          exact ⟨_, _, w', M', run _ _ _ g1 rfl, .inl rfl, by simp [VR, VRs], g3, g4⟩
        · cases h
      · simp [rank] at hr
      · simp [rank] at hr
      · cases h
  all_goals first
    | (simp [primA] at h; done)
    | (simp [rank] at hr; done)

theorem VRes.filter (p : Nat → Bool) : ∀ {a : List (AV × AV × Nat)} {v : List MapEntry}, VRes M n a v → VRes M n (a.filter fun e => p e.2.2) (v.filter fun e => p e.born)
  | [], v, h => by simp [VRes] at h; simp [h, VRes]
  | x :: a, v, h => by
    simp only [VRes] at h
    obtain ⟨y, vs', rfl, h1, h2⟩ := h
    simp only [List.filter_cons, h1.2.2]
    split
    · exact VRes_cons.2 ⟨h1, VRes.filter p h2⟩
    · exact VRes.filter p h2
theorem VRes.all (p : Nat → Bool) : ∀ {a : List (AV × AV × Nat)} {v : List MapEntry}, VRes M n a v → (a.all fun e => p e.2.2) = (v.all fun e => p e.born)
  | [], v, h => by simp [VRes] at h; simp [h]
  | x :: a, v, h => by
    simp only [VRes] at h
    obtain ⟨y, vs', rfl, h1, h2⟩ := h
    simp only [List.all_cons, h1.2.2, VRes.all p h2]
theorem VRes.isEmpty {a : List (AV × AV × Nat)} {v : List MapEntry} (h : VRes M n a v) : a.isEmpty = v.isEmpty := by
  have := (VRes_iff.1 h).1
  cases a <;> cases v <;> simp_all

/-- A map's next: one of the ways that the evaluator tells. -/
theorem next_sound {it : AV} {v : Value} {l : List (AV × St)} (h : nextA it st = some l) (hs : SRel w0 M st w) (hv : VR M st.size it v) (ty : TypeId) :
    ∃ p ∈ l, ∃ u w', (Instr.next v false ty).run P w = .ok u w' ∧ VR M p.2.size p.1 u ∧ SRel w0 M p.2 w' ∧ Ext M st w M p.2 w' := by
  unfold nextA at h
  split at h
  · rename_i id
    simp only [VR] at hv
    obtain ⟨hid, rfl⟩ := hv
    split at h
    · rename_i since seen last ho
      obtain rfl := Option.some.inj h
      obtain ⟨_, sn, hb, _, _⟩ := hs.iter hid ho
      refine ⟨_, List.mem_singleton.2 rfl, .tuple #[.bool false], w, by simp [Instr.next, run_getObj_iter hb], ?_, hs, Ext.refl _ _ _⟩
      simp only [VR]; exact ⟨_, rfl, VRs_cons.2 ⟨VR_bool, VRs_nil⟩⟩
    · rename_i m since seen last ho
      obtain ⟨hbase, sn, hb, hsn, hm⟩ := hs.iter hid ho
      have hm := hm m rfl
      split at h
      · rename_i es clock hmo
        obtain ⟨_, es', hb', hr⟩ := hs.map hm hmo
        split at h
        · cases h
        · rename_i hcnd
          obtain rfl := Option.some.inj h
          have hleft := hr.filter (fun b => !seen.contains b)
          have hold := hleft.filter (fun b => decide (b < since))
          have hnew := hleft.filter (fun b => decide (b ≥ since))
          have hall := hr.all (fun b => decide (b ≥ last))
          have hemp := hr.isEmpty
          subst hsn
          let left' := es'.filter fun e => !sn.contains e.born
          let old' := left'.filter fun e => decide (e.born < since)
          let new' := left'.filter fun e => decide (e.born ≥ since)
          have eold : old'.toList = (es'.toList.filter fun e => !sn.toList.contains e.born).filter fun e => decide (e.born < since) := by simp [old', left']
          have enew : new'.toList = (es'.toList.filter fun e => !sn.toList.contains e.born).filter fun e => decide (e.born ≥ since) := by simp [new', left']
          rw [← eold] at hold
          rw [← enew] at hnew
          have hboth := hold.append hnew
          let cand : Array (Option MapEntry) := (if old'.isEmpty then #[none] else #[]) ++ (old' ++ new').map some
          have hcs : 0 < cand.size := by
            simp only [cand]
            by_cases ho : old'.isEmpty = true
            · rw [if_pos ho]; simp; omega
            · rw [if_neg ho]
              have : 0 < old'.size := by
                rcases Nat.eq_zero_or_pos old'.size with h | h
                · exact absurd (by simpa [Array.isEmpty] using h) ho
                · exact h
              simp; omega
          -- what is chosen
          obtain ⟨k, w1, hch, hk, hw1⟩ : ∃ k w1, (choose (.mapNext cand.size)).run P w = .ok k w1 ∧ k < cand.size ∧ (w1 = w ∨ w1 = w.drew) := by
            rw [run_choose]
            by_cases hfz : (Question.mapNext cand.size).forced = true
            · exact ⟨0, w, by rw [if_pos hfz], hcs, .inl rfl⟩
            · exact ⟨_, w.drew, by rw [if_neg hfz]; rfl, Nat.mod_lt _ hcs, .inr rfl⟩
          have hheap : w1.heap = w.heap := by rcases hw1 with rfl | rfl <;> rfl
          have hf1 : Foll w w1 := by rcases hw1 with rfl | rfl <;> exact ⟨rfl, rfl, rfl, Nat.le_refl _⟩
          have hs1 : SRel w0 M st w1 := ⟨hs.below.trans (hf1.below fun b _ => by rw [hheap]), fun i hi => (hs.objs i hi).world fun _ => by rw [hheap], hs.inj, fun i hi => by rw [hheap]; exact hs.bnd i hi⟩
          have hx1 : Ext M st w M st w1 := ⟨Nat.le_refl _, fun _ _ => rfl, by rw [hheap]; exact Nat.le_refl _, fun b _ _ => by rw [hheap], fun i h h' => by omega⟩
          have hno : (!sn.isEmpty && !es'.isEmpty && es'.all fun e => decide (e.born ≥ last)) = false := by
            rw [← Bool.not_eq_true]
            intro hh
            apply hcnd
            have e1 : es'.all (fun e => decide (e.born ≥ last)) = es'.toList.all (fun e => decide (e.born ≥ last)) := by simp
            have e2 : es'.isEmpty = es'.toList.isEmpty := by simp
            have e3 : sn.isEmpty = sn.toList.isEmpty := by simp
            rw [e1, ← hall, e2, ← hemp, e3] at hh
            simpa using hh
          have hrunTo : ∀ (c : Option MapEntry) (u : Value) (w2 : World), cand[k]? = some c → (match c with
              | some e => (setObj (M id).b (.mapIter (some (M m).b) since (sn.push e.born) clock)).run P w1 = .ok () w2 ∧ u = .tuple #[.bool true, e.key, e.val]
              | none => w2 = w1 ∧ u = .tuple #[.bool false]) → (Instr.next (.pointer (some ⟨(M id).b, 0, none⟩)) false ty).run P w = .ok u w2 := by
            intro c u w2 hc hcase
            have hcand : cand = (if ((es'.filter fun e => !sn.contains e.born).filter fun e => decide (e.born < since)).isEmpty = true then #[none] else #[]) ++ (((es'.filter fun e => !sn.contains e.born).filter fun e => decide (e.born < since)) ++ ((es'.filter fun e => !sn.contains e.born).filter fun e => decide (e.born ≥ since))).map some := rfl
            unfold Instr.next
            simp only [Sem.run_bind, run_getObj_iter hb, Result.andThen_ok, Option.map_some, run_getObj_map hb']
            rw [if_neg (by rw [hno]; simp)]
            simp only [Sem.run_bind]
            rw [← hcand, hch]
            simp only [Result.andThen_ok, hc]
            cases c with
            | none => obtain ⟨rfl, rfl⟩ := hcase; simp
            | some e => obtain ⟨g1, rfl⟩ := hcase; simp [g1]
          have hget : ∃ c, cand[k]? = some c := ⟨_, Array.getElem?_eq_getElem hk⟩
          obtain ⟨c, hc⟩ := hget
          have hempO : old'.isEmpty = ((es.filter fun e => !sn.toList.contains e.2.2).filter fun e => decide (e.2.2 < since)).isEmpty := by
            rw [hold.isEmpty]; simp
          -- none: it is over
          have isNone : c = none → old'.isEmpty = true := by
            intro hcn
            subst hcn
            by_cases ho : old'.isEmpty = true
            · exact ho
            · exfalso
              simp only [cand] at hc
              rw [if_neg ho] at hc
              simp only [Array.empty_append, Array.getElem?_map] at hc
              cases h9 : (old' ++ new')[k]? <;> rw [h9] at hc <;> simp at hc
          cases c with
          | none =>
            refine ⟨(.tuple [.bool false], st), ?_, .tuple #[.bool false], w1, hrunTo none _ _ hc ⟨rfl, rfl⟩, ?_, hs1, hx1⟩
            · apply List.mem_append_left
              rw [← hempO, if_pos (isNone rfl)]
              simp
            · simp only [VR]; exact ⟨_, rfl, VRs_cons.2 ⟨VR_bool, VRs_nil⟩⟩
          | some e =>
            have hmem : e ∈ (old'.toList ++ new'.toList) := by
              have h9 := Array.mem_of_getElem? hc
              simp only [cand, Array.mem_append, Array.mem_map] at h9
              rcases h9 with h9 | ⟨e', h9, he'⟩
              · by_cases ho : old'.isEmpty = true
                · rw [if_pos ho] at h9; simp at h9
                · rw [if_neg ho] at h9; simp at h9
              · obtain rfl := Option.some.inj he'
                simpa using h9
            obtain ⟨i, hi⟩ := List.getElem?_of_mem hmem
            have hlen := (VRes_iff.1 hboth).1
            have hil : i < (((es.filter fun e => !sn.toList.contains e.2.2).filter fun e => decide (e.2.2 < since)) ++ ((es.filter fun e => !sn.toList.contains e.2.2).filter fun e => decide (e.2.2 ≥ since))).length := by
              rw [hlen]; exact (List.getElem?_eq_some_iff.1 hi).1
            obtain ⟨y, hy, g1, g2, g3⟩ := (VRes_iff.1 hboth).2 i _ (List.getElem?_eq_getElem hil)
            rw [hi] at hy
            obtain rfl := Option.some.inj hy
            generalize hz : (((es.filter fun e => !sn.toList.contains e.2.2).filter fun e => decide (e.2.2 < since)) ++ ((es.filter fun e => !sn.toList.contains e.2.2).filter fun e => decide (e.2.2 ≥ since)))[i] = z at g1 g2 g3
            have hb1 : w1.heap[(M id).b]? = some (.mapIter (some (M m).b) since sn last) := by rw [hheap]; exact hb
            have hset := run_setObj (P := P) (w := w1) (o := .mapIter (some (M m).b) since (sn.push e.born) clock) hb1 (by simp)
            have hlt : (M id).b < w1.heap.size := (Array.getElem?_eq_some_iff.1 hb1).1
            obtain ⟨q1, q2⟩ := hs1.updObj (o := .iter (some m) since (sn.toList ++ [z.2.2]) clock) (x := .mapIter (some (M m).b) since (sn.push e.born) clock) hid (by rw [ho]; rfl)
              ⟨hbase, sn.push e.born, by simp [hlt], by rw [Array.toList_push, g3], fun i hi => by cases hi; exact hm⟩
            refine ⟨(.tuple [.bool true, z.1, z.2.1], st.set id (.iter (some m) since (sn.toList ++ [z.2.2]) clock)), ?_, .tuple #[.bool true, e.key, e.val], _, hrunTo (some e) _ _ hc ⟨hset, rfl⟩, ?_, q1, hx1.trans q2⟩
            · apply List.mem_append_right
              rw [List.mem_map]
              exact ⟨z, by rw [← hz]; exact List.getElem_mem hil, rfl⟩
            · simp only [VR, St.size_set]; exact ⟨_, rfl, VRs_cons.2 ⟨VR_bool, VRs_cons.2 ⟨g1, VRs_cons.2 ⟨g2, VRs_nil⟩⟩⟩⟩
      · cases h
    · cases h
  · cases h
end Go.Ab
