/- THE ABSTRACT EVALUATOR, 27: what the typed form tells holds of a call (2): operations in order, regions, code, functions. -/
import Derived.Test.YtlcapliakfomhaaAb26
namespace Go.Ab
section
variable {P : Program}
theorem slO_sound {t e : TypeId} {s : Nat} {x : AV} {lo hi mx : Option AV} {v : AV} (ht : P.underlying t = some (.slice e)) (hs : tySize P e = some s) (h : slO s x lo hi mx = some v) : sliceA P t x lo hi mx = some v := by
  unfold slO at h
  unfold sliceA
  rw [ht]
  cases x <;> simp only [hs, Option.isNone_some, Bool.or_false] at h ⊢ <;> try (first | exact h | (exfalso; revert h; simp; done))
  split at h
  · rename_i hm
    rw [hm]; exact h
  · cases h
theorem bound_of {x : Option AV} {d : Nat} {i : Int} (h : intOf d x = some i) (hi : 0 ≤ i) : bound x d = some i.toNat := by
  cases x with
  | none => simp only [intOf, Option.some.injEq] at h; subst h; simp [bound]
  | some v => cases v <;> simp_all [intOf, bound]

theorem ldT_of {t : TypeId} {ag : Bool} {n : Nat} (ha : tyAgg P t = some ag) (hn : tySize P t = some n) {a v : AV} {st : OS} (h1 : ldO ag n a st = some v) : ldT P t a (mk st) = some v := by
  unfold ldO at h1
  unfold ldT
  split at h1
  · rename_i id off
    simp only
    have hget : (mk st).get id = (st[id]?).getD .dead := rfl
    rw [hget]
    split at h1
    · rename_i hv
      rw [hv]
      simp only [Option.getD_some]
      unfold partA
      rw [ha, hn]
      cases ag <;> exact h1
    · cases h1
  · cases h1

theorem stT_of {t : TypeId} {n : Nat} {x a : AV} {st o' : OS} (hn : tySize P t = some n) (h1 : x.cells.all AV.one = true) (hl : x.cells.length = n) (h2 : stO a x.cells st = some o') : stT P t a x (mk st) = some (mk o') := by
  unfold stO at h2
  unfold stT
  split at h2
  · rename_i id off
    simp only
    have hget : (mk st).get id = (st[id]?).getD .dead := rfl
    rw [hget]
    split at h2
    · rename_i hv
      rw [hv]
      simp only [Option.getD_some]
      split at h2
      · rename_i hle
        rw [if_pos (by simp [hn, hl]; exact ⟨by simpa using h1, by omega⟩)]
        cases h2
        rfl
      · cases h2
    · cases h2
  · cases h2

theorem gPrim_sound {env : Env} {op : Op} {st : OS} {K : AV → OS → Prop} (h : gPrim P env op st K) : ∃ v s, primA P env op (mk st) = some (v, s) ∧ K v s.objs := by
  unfold gPrim at h
  split at h
  · exact ⟨_, mk st, rfl, h⟩
  · exact ⟨_, mk st, rfl, h⟩
  · rename_i c a b
    split at h
    · rename_i w hw
      have key : ∃ v, primA P env (.pick c a b) (mk st) = some (v, mk st) ∧ K v st := by
        simp only [primA, hw]
        split at h
        · rename_i ha hb
          cases w
          · exact ⟨_, rfl, by rw [hb]; exact h⟩
          · exact ⟨_, rfl, by rw [ha]; exact h⟩
        · rcases cnd_sound h with ⟨rfl, h⟩ | ⟨rfl, h⟩
          · exact ⟨_, rfl, h⟩
          · exact ⟨_, rfl, h⟩
      obtain ⟨v, h1, h2⟩ := key
      exact ⟨v, mk st, h1, h2⟩
    · exact h.elim
  · split at h
    · rename_i hz
      exact ⟨_, (mk st).push _, by simp only [primA, hz]; rfl, h⟩
    · exact h.elim
  · obtain ⟨h1, h⟩ := gVal_sound h
    exact ⟨_, (mk st).push _, by simp only [primA, h1, if_true]; rfl, h⟩
  · obtain ⟨v, h1, h⟩ := gBuild_sound h
    exact ⟨v, mk st, by simp only [primA, h1, Option.map_some], h⟩
  · split at h
    · rename_i hu
      split at h
      · rename_i hs hz
        split at h
        · rename_i hn
          obtain ⟨cs, h1, h⟩ := gFill_sound h
          exact ⟨_, (mk st).push _, by simp only [primA, buildSliceA, hu, hs, hz, hn, if_true, h1, Option.map_some]; rfl, h⟩
        · exact h.elim
      · exact h.elim
    · exact h.elim
  · rename_i t a
    split at h
    · rename_i ag n ha hn
      obtain ⟨v, h1, h⟩ := ty_sound h
      refine ⟨v, mk st, ?_, h⟩
      have : ldT P t (opd env a) (mk st) = some v := ldT_of ha hn h1
      simp only [primA, this, Option.map_some]
    · exact h.elim
  · rename_i t a x
    split at h
    · rename_i n hn
      obtain ⟨h1, h⟩ := gVal_sound h
      split at h
      · rename_i hl
        obtain ⟨o', h2, h⟩ := h
        refine ⟨undefA, mk o', ?_, h⟩
        have : stT P t (opd env a) (opd env x) (mk st) = some (mk o') := stT_of hn h1 hl h2
        simp only [primA, this, Option.map_some]
      · exact h.elim
    · exact h.elim
  · obtain ⟨h1, h⟩ := h
    rename_i x
    refine ⟨_, mk st, ?_, h⟩
    simp only [primA]
    revert h1
    cases opd env x <;> simp [AV.nnil]
    rename_i f _ _
    cases f <;> simp
  · obtain ⟨v, h1, h⟩ := gBin_sound h
    exact ⟨v, mk st, by simp only [primA, h1, Option.map_some], h⟩
  · split at h
    · rename_i h1
      exact ⟨_, mk st, by simp only [primA, h1, Option.map_some], h⟩
    · rename_i h1
      exact ⟨_, mk st, by simp only [primA, h1, Option.map_some], h⟩
    · exact h.elim
  · obtain ⟨v, s, h1, h⟩ := gConv_sound h
    exact ⟨v, s, by simp only [primA, h1], h⟩
  · exact ⟨_, mk st, rfl, h⟩
  · split at h
    · exact ⟨_, (mk st).push _, rfl, h⟩
    · split at h
      · rename_i hu
        split at h
        · rename_i hx
          exact ⟨_, (mk st).push (.map [] 0), by simp only [primA, hu, hx]; rfl, h⟩
        · exact h.elim
      · exact h.elim
  · split at h
    · rename_i hu
      split at h
      · rename_i l hl
        split at h
        · rename_i c hc
          split at h
          · rename_i b s z hb hs hz
            split at h
            · rename_i hcond
              simp only [Bool.and_eq_true, decide_eq_true_eq] at hcond
              obtain ⟨⟨h1, h2, h3⟩, h⟩ := h
              refine ⟨_, (mk st).push (.cells true (times z c.toNat)), ?_, h⟩
              simp only [primA, makeSliceA, hu, hl, hc, hb, zeros, hs, hz]
              rw [if_pos (by simpa using hcond.1)]
              simp only
              rw [if_pos ⟨h1, h2, h3, hcond.2⟩]
              rfl
            · exact h.elim
          · exact h.elim
        · exact h.elim
      · exact h.elim
    · exact h.elim
  · rename_i t x l hh m
    split at h
    · rename_i hu
      split at h
      · rename_i s hx
        split at h
        · rename_i l' h' hl1 hl2
          obtain ⟨⟨h1, h2, h3⟩, h⟩ := h
          refine ⟨.str (s.extract l'.toNat h'.toNat), mk st, ?_, h⟩
          have hb1 := bound_of hl1 h1
          have hb2 : bound (hh.map (opd env)) s.size = some h'.toNat := bound_of hl2 (by omega)
          simp only [primA, sliceA, hu, hx, Option.map_none, Option.isSome_none, sliceStr, hb1, hb2]
          rw [if_neg (by simp), if_pos (by omega)]
          rfl
        · exact h.elim
      · exact h.elim
    · rename_i hu
      split at h
      · rename_i hs
        obtain ⟨v, h1, h⟩ := h
        exact ⟨v, mk st, by simp only [primA, slO_sound hu hs h1, Option.map_some], h⟩
      · exact h.elim
    · obtain ⟨v, h1, h⟩ := h
      exact ⟨v, mk st, by simp only [primA, h1, Option.map_some], h⟩
  · rename_i t x f
    split at h
    · rename_i hu
      split at h
      · rename_i hf
        split at h
        · rename_i hs
          obtain ⟨h1, h⟩ := h
          refine ⟨_, mk st, ?_, h⟩
          simp only [primA, fieldAddrA, hu]
          revert h1
          cases opd env x <;> simp [AV.isP, padd, hf, hs]
        · exact h.elim
      · exact h.elim
    · exact h.elim
  · split at h
    · rename_i h1
      exact ⟨_, mk st, by simp only [primA, h1, Option.map_some], h⟩
    · exact h.elim
  · rename_i t x i
    split at h
    · rename_i k j hi
      split at h
      · rename_i hu
        split at h
        · rename_i hs
          obtain ⟨h1, h2, h⟩ := h
          refine ⟨_, mk st, ?_, h⟩
          simp only [primA, indexAddrA, hu, hi]
          revert h1
          cases opd env x <;> simp [AV.isP, padd, hs, h2]
        · exact h.elim
      · rename_i hu
        split at h
        · rename_i hs
          obtain ⟨h2, h⟩ := h
          refine ⟨_, mk st, ?_, h⟩
          simp only [primA, indexAddrA, hu, hi]
          revert h2
          cases opd env x <;> simp [alen, ixp, hs] <;> omega
        · exact h.elim
      · exact h.elim
    · exact h.elim
  · rename_i t x i
    split at h
    · rename_i k j hi
      split at h
      · rename_i hu
        split at h
        · rename_i hx
          split at h
          · rename_i hs
            obtain ⟨h2, h⟩ := h
            obtain ⟨v, h1, h⟩ := ty_sound h
            refine ⟨v, mk st, ?_, h⟩
            simp only [primA, indexA, hu, hi, hx, hs]
            rw [if_pos h2, h1]; rfl
          · exact h.elim
        · exact h.elim
      · rename_i hu
        split at h
        · rename_i s hx
          obtain ⟨h2, h⟩ := h
          refine ⟨.int .u8 (byteAt s j), mk st, ?_, h⟩
          simp only [primA, indexA, hu, hi, hx]
          rw [if_pos h2.1]
          have hlt : j.toNat < s.size := by omega
          have : s[j.toNat]? = some (s[j.toNat]) := by simp [getElem?_pos, hlt]
          simp only [byteAt, this, Option.map_some, Option.getD_some]
        · exact h.elim
      · exact h.elim
    · exact h.elim
  · split at h
    · split at h
      · obtain ⟨v, h⟩ := exV_sound h
        obtain ⟨b, h1, h⟩ := exC_sound h
        exact ⟨_, mk st, by simp only [primA, h1, Option.map_some], h⟩
      · obtain ⟨v, h1, h⟩ := ty_sound h
        exact ⟨_, mk st, by simp only [primA, h1, Option.map_some], h⟩
    · exact h.elim
  · obtain ⟨s, h1, h⟩ := h
    exact ⟨_, s, by simp only [primA, h1, Option.map_some], h⟩
  · obtain ⟨s, h1, h⟩ := h
    exact ⟨_, s, by simp only [primA, h1, Option.map_some], h⟩
  · obtain ⟨r, s, h1, h⟩ := h
    exact ⟨r, s, by simp only [primA, h1], h⟩
  · split at h
    · rename_i hx
      split at h
      · rename_i hv
        exact ⟨_, mk st, by simp only [primA, hx, hv], h⟩
      · exact h.elim
    · exact h.elim
  · rename_i c
    obtain ⟨callee, args, ts⟩ := c
    simp only at h
    split at h
    · obtain ⟨v, s, h1, h⟩ := gBuiltin_sound h
      exact ⟨v, s, by simp only [primA, h1], h⟩
    · exact h.elim
  · exact h.elim

theorem CallPost.mono {w0 : World} {M : Map} {st : St} {w : World} {Q Q' : AV → St → Prop} (hQ : ∀ v s, Q v s → Q' v s) {e : Ending} {w' : World} (h : CallPost w0 M st w Q e w') : CallPost w0 M st w Q' e w' := by
  obtain ⟨v, x, st', M', h1, h2, h3⟩ := h
  exact ⟨v, x, st', M', h1, hQ _ _ h2, h3⟩
theorem CallOk.mono {g : Nat} {args : List AV} {st : St} {Q Q' : AV → St → Prop} (hQ : ∀ v s, Q v s → Q' v s) (h : CallOk P (.func g) args st Q) : CallOk P (.func g) args st Q' :=
  ⟨h.1, fun w0 M w args' hs ha => ⟨(h.2 w0 M w args' hs ha).1.mono fun _ _ h => h.mono hQ, fun u => ((h.2 w0 M w args' hs ha).2 u).mono fun _ _ _ h => ⟨h.1, h.2.mono hQ⟩⟩⟩
theorem kindsR_sound {rs : List TypeId} {K : AV → Prop} {v : AV} (h : kindsR P rs K v) : K v := by
  unfold kindsR at h
  rcases rs with _ | ⟨t, _ | ⟨u, rs⟩⟩
  · exact h
  · simp only at h
    generalize vkT P t = k at h
    have hk : ∀ k : VK, (exV k fun w => v = w ∧ K w) → K v := fun k h => by obtain ⟨w, rfl, h⟩ := exV_sound h; exact h
    cases k with
    | one c => cases c <;> first | exact h | exact hk _ h
    | agg cs => exact hk _ h
  · simp only at h
    obtain ⟨w, h1, h⟩ := exVs_sound h
    rw [h1]; exact h

theorem gOp_sound {env env' : Env} (hle : le env env') {o : Oper} {st : OS} {K : AV → OS → Prop} {K' : AV → St → Prop} (hK : ∀ v s, K v s → K' v (mk s)) (h : gOp P (GoF P) env o.op st K) : evOp P (CallOk P) env' o (mk st) K' := by
  unfold gOp at h
  split at h
  · exact h.elim
  · rename_i ho
    obtain ⟨dst, op, typ, pos, after, guard⟩ := o
    simp only at h ho
    split at h
    · rename_i f args ts
      have hf : opd env f = opd env' f := opd_le hle (List.all_eq_true.1 ho f (by simp [Op.operands, Call.operands]))
      have ha : args.toList.map (opd env) = args.toList.map (opd env') := map_opd_le hle fun x hx => List.all_eq_true.1 ho x (by simp [Op.operands, Call.operands]; exact .inr (by simpa using hx))
      split at h
      · rename_i g first caps hg
        unfold evOp
        simp only
        rw [← hf, hg]
        simp only
        rw [← ha]
        exact CallOk.mono (fun v s hv => hK _ _ (kindsR_sound hv)) h
      · exact h.elim
    · rename_i it
      have hf : opd env it = opd env' it := opd_le hle (List.all_eq_true.1 ho it (by simp [Op.operands]))
      obtain ⟨l, h1, h⟩ := h
      unfold evOp
      simp only
      rw [← hf, h1]
      simp only
      rw [allP_iff]
      intro r hr
      rcases h r hr with ⟨h2, h3⟩ | ⟨k, v, h2, h3⟩
      · rw [h2]; exact hK _ _ h3
      · rw [h2]; exact hK _ _ h3
    · rename_i h1 h2
      obtain ⟨v, s, h3, h4⟩ := gPrim_sound h
      rw [prim_le hle ho] at h3
      unfold evOp
      simp only
      split
      · exact (h1 _ _ _ rfl).elim
      · exact (h2 _ rfl).elim
      · simp [primA] at h3
      · rw [h3]; exact hK _ _ h4

theorem gWant_sound {env env' : Env} (hle : le env env') {ops : Array Oper} {o : Oper} {run skip : Env → Prop} {R : Option Bool → Prop}
    (hr : ∀ e, le e env' → run e → R (some true)) (hs : ∀ e, le e env' → skip e → R (some false)) (h : gWant env ops o run skip) : R (wantedA ops o env') := by
  unfold gWant at h
  unfold wantedA
  split at h
  · rename_i hg; rw [hg]; exact hr _ hle h
  · rename_i j w hg
    rw [hg]
    simp only
    split at h
    · rename_i ht; rw [ht]; exact hs _ hle h
    · rename_i t ht
      rw [ht]
      simp only
      split at h
      · rename_i b hb
        have hh : env.has t = true := get_has (by rw [hb]; simp)
        rw [← hle t hh, hb]
        simp only
        split at h
        · rcases cnd_sound h with ⟨rfl, h⟩ | ⟨rfl, h⟩
          · exact hr _ (hle.know hb (by simp)) h
          · exact hs _ (hle.know hb (by simp)) h
        · rcases cnd_sound h with ⟨rfl, h⟩ | ⟨rfl, h⟩
          · exact hs _ (hle.know hb (by simp)) h
          · exact hr _ (hle.know hb (by simp)) h
      · rename_i hb
        have hh : env.has t = true := get_has (by rw [hb]; simp)
        rw [← hle t hh, hb]
        exact hs _ hle h
      · exact h.elim

theorem gOps_sound {ops : Array Oper} : ∀ {l : List Oper} {env env' : Env} {st : OS} {K : Env → OS → Prop} {K' : Env → St → Prop}, (∀ e e' s, le e e' → K e s → K' e' (mk s)) → le env env' → gOps P (GoF P) ops l K env st → evOps P (CallOk P) ops l K' env' (mk st)
  | [], _, _, _, _, _, hK, hle, h => hK _ _ _ hle h
  | o :: rest, env, env', st, K, K', hK, hle, h => by
    unfold gOps at h
    unfold evOps
    exact gWant_sound (R := fun w => match w with
      | some true => evOp P (CallOk P) env' o (mk st) fun v st' => evOps P (CallOk P) ops rest K' (env'.put o.dst v) st'
      | some false => evOps P (CallOk P) ops rest K' (env'.put o.dst undefA) (mk st)
      | none => False) hle (fun e he h => gOp_sound he (fun v s hv => gOps_sound hK (he.put _ _) hv) h) (fun e he h => gOps_sound hK (he.put _ _) h) h

/-- A reader in the typed form and in the other. -/
def seenR (r r' : Seen) : Prop := r.i = r'.i ∧ r.o = r'.o ∧ r.v = r'.v ∧ ∀ st, primA P r.env r.o.op st = primA P r'.env r.o.op st
inductive All2 {α : Type} (R : α → α → Prop) : List α → List α → Prop where
  | nil : All2 R [] []
  | cons {a b : α} {l m : List α} : R a b → All2 R l m → All2 R (a :: l) (b :: m)
theorem gStill_sound {st : OS} : ∀ {l l' : List Seen} {A A' : Prop}, All2 (seenR (P := P)) l l' → (A → A') → gStill P st l A → stillAll P (mk st) l' A'
  | [], _, _, _, hl, hA, h => by cases hl; exact hA h
  | r :: l, _, A, A', hl, hA, h => by
    cases hl with
    | cons hr hl =>
      unfold gStill at h
      obtain ⟨v, s, h1, h2, h3, h4⟩ := gPrim_sound h
      obtain ⟨e1, e2, e3, e4⟩ := hr
      unfold stillAll still
      rw [← e2, ← e4, h1]
      simp only
      rw [← e3, ← h2, h3]
      exact gStill_sound hl hA h4
theorem seenR_filter (p : Nat → Bool) : ∀ {l l' : List Seen}, All2 (seenR (P := P)) l l' → All2 (seenR (P := P)) (l.filter fun r => p r.i) (l'.filter fun r => p r.i)
  | [], _, h => by cases h; exact .nil
  | r :: l, _, h => by
    cases h with
    | cons hr hl =>
      have ih := seenR_filter p hl
      simp only [List.filter_cons]
      rw [hr.1]
      split
      · exact .cons hr ih
      · exact ih

theorem rank_prim {op : Op} (h : rank P op < 2) {o : Oper} (ho : o.op = op) {env : Env} {st : St} {K : AV → St → Prop} : evOp P (CallOk P) env o st K = match primA P env op st with
    | some (v, st') => K v (st'.as st.dfs)
    | none => False := by
  subst ho
  unfold evOp
  split
  · rename_i h1; rw [h1] at h; simp [rank] at h
  · rename_i h1; rw [h1] at h; simp [rank] at h
  · rename_i h1; rw [h1] at h; simp [rank] at h
  · rfl

theorem gDraw_sound {ops : Array Oper} {bef : List Nat} : ∀ {l : List Nat} {seen seen' : List Seen} {env env' : Env} {st : OS} {K : Env → OS → Prop} {K' : Env → St → Prop}, (∀ e e' s, le e e' → K e s → K' e' (mk s)) → le env env' →
    All2 (seenR (P := P)) seen seen' → gDraw P (GoF P) ops bef l seen K env st → evDraw P (CallOk P) ops bef l seen' K' env' (mk st)
  | [], _, _, _, _, _, _, _, hK, hle, _, h => hK _ _ _ hle h
  | i :: rest, seen, seen', env, env', st, K, K', hK, hle, hse, h => by
    unfold gDraw at h
    unfold evDraw
    split at h
    · exact h.elim
    · rename_i o ho
      rw [ho]
      simp only
      refine gWant_sound (R := fun w => match w with
        | none => False
        | some false => evDraw P (CallOk P) ops bef rest seen' K' (env'.put o.dst undefA) (mk st)
        | some true => if rank P o.op < 2 then match primA P env' o.op (mk st) with
            | some (v, _) => evDraw P (CallOk P) ops bef rest (if rank P o.op = 1 then { i, o, env := env', v } :: seen' else seen') K' (env'.put o.dst v) (mk st)
            | none => False
          else evOp P (CallOk P) env' o (mk st) fun v st' => stillAll P st' (seen'.filter fun r => !(((bef[i]?).getD 0).testBit r.i)) (evDraw P (CallOk P) ops bef rest (seen'.filter fun r => !(((bef[i]?).getD 0).testBit r.i)) K' (env'.put o.dst v) st')) hle ?_ ?_ h
      · intro e he h
        simp only
        split at h
        · rename_i hr
          have hr := of_decide_eq_true hr
          rw [if_pos hr]
          split at h
          · rename_i hall
            obtain ⟨v, s, h1, h2⟩ := gPrim_sound h
            have h1' := h1
            rw [prim_le he hall] at h1'
            rw [h1']
            simp only
            refine gDraw_sound hK (he.put _ _) ?_ h2
            split
            · exact .cons ⟨rfl, rfl, rfl, fun s => prim_le he hall s⟩ hse
            · exact hse
          · exact h.elim
        · rename_i hr
          have hr := of_decide_eq_false hr
          rw [if_neg hr]
          exact gOp_sound he (fun v s hv => gStill_sound (seenR_filter (fun j => !(((bef[i]?).getD 0).testBit j)) hse) (fun hv => gDraw_sound hK (he.put _ _) (seenR_filter (fun j => !(((bef[i]?).getD 0).testBit j)) hse) hv) hv) h
      · intro e he h
        exact gDraw_sound hK (he.put _ _) hse h

theorem framed_get (f : Nat → AV) (ls : List Nat) (t : Nat) : (framed ls (ls.map f)).get t = if t ∈ ls then f t else .unk := by
  have key : ∀ (ls : List Nat) (pre : List AV), (framed.go (pre ++ ls.map f) ls pre.length).get t = if t ∈ ls then f t else .unk := by
    intro ls
    induction ls with
    | nil => intro pre; simp [framed.go, Env.get]
    | cons s r ih =>
      intro pre
      have := ih (pre ++ [f s])
      simp only [List.length_append, List.length_cons, List.length_nil, List.append_assoc, List.cons_append, List.nil_append] at this
      simp only [framed.go, Env.get, List.map_cons]
      cases hb : Nat.beq s t with
      | true => obtain rfl := Nat.eq_of_beq_eq_true hb; simp
      | false =>
        have hne : t ≠ s := fun h => by subst h; simp at hb
        simp only [List.mem_cons, hne, false_or]
        exact this
  simpa [framed] using key ls []
theorem framed_has (t : Nat) : ∀ (ls : List Nat) (vs : List AV), (framed ls vs).has t = true → t ∈ ls := by
  have key : ∀ (ls : List Nat) (vs : List AV) (i : Nat), (framed.go vs ls i).has t = true → t ∈ ls := by
    intro ls
    induction ls with
    | nil => intro vs i h; simp [framed.go, Env.has] at h
    | cons s r ih =>
      intro vs i h
      simp only [framed.go, Env.has] at h
      cases hb : Nat.beq s t with
      | true => obtain rfl := Nat.eq_of_beq_eq_true hb; simp
      | false => rw [hb] at h; exact List.mem_cons_of_mem _ (ih _ _ h)
  exact fun ls vs => key ls vs 0
theorem framed_le {e e' : Env} (h : le e e') {ls : List Nat} (hl : ls.all e.has = true) : le (framed ls (ls.map e.get)) e' := by
  intro t ht
  have hm := framed_has t _ _ ht
  rw [framed_get, if_pos hm]
  exact h t (List.all_eq_true.1 hl t hm)
theorem map_get_le {e e' : Env} (h : le e e') {ls : List Nat} (hl : ls.all e.has = true) : ls.map e.get = ls.map e'.get :=
  List.map_congr_left fun t ht => h t (List.all_eq_true.1 hl t ht)

theorem meet_sound {kd : Nat → VK} {ls : List Nat} {F : Env → OS → Prop} {G : (Env → OS → Prop) → Prop} (h : meet kd ls F G) : ∃ J : Env → OS → Prop, G J ∧ ∀ e e' s, le e e' → J e s → ∃ e0, le e0 e' ∧ F e0 s := by
  unfold meet jp at h
  refine ⟨_, h, ?_⟩
  intro e e' s hle hj
  simp only at hj
  split at hj
  · rename_i hall
    obtain ⟨vs, h1, h2⟩ := exVs_sound hj
    exact ⟨_, by rw [← h1]; exact framed_le hle hall, h2⟩
  · exact hj.elim

theorem gCode_sound {m : Nat} {kd : Nat → VK} {rv : Nat} : ∀ (c : Code) {K : X → Env → OS → Prop} {K' : X → Env → St → Prop}, (∀ x e e' s, le e e' → K x e s → K' x e' (mk s)) → ∀ {lv : Nat} {ex : List (Nat × Nat)} {env env' : Env} {st : OS}, le env env' →
    gCode P (GoF P) m kd rv c K lv ex env st → evCode P (CallOk P) Lfp rv none c K' lv ex env' (mk st)
  | .skip, K, K', hK, lv, ex, env, env', st, hle, h => hK _ _ _ _ hle h
  | .label _, K, K', hK, lv, ex, env, env', st, hle, h => hK _ _ _ _ hle h
  | .region _ ops draw, K, K', hK, lv, ex, env, env', st, hle, h => by
    simp only [gCode] at h
    simp only [evCode, evRegion]
    have hd : ∀ {J : Env → OS → Prop}, (∀ e e' s, le e e' → J e s → K' .normal e' (mk s)) → (match (generalizing := false) draw with
      | true => match drawOk P ops (aheads ops.toList) (eager P ops (aheads ops.toList) ops.size 0) with
        | true => gDraw P (GoF P) ops (aheads ops.toList) (eager P ops (aheads ops.toList) ops.size 0) [] J env st
        | false => False
      | false => gOps P (GoF P) ops ops.toList J env st) → (if draw = true then (if drawOk P ops (aheads ops.toList) (eager P ops (aheads ops.toList) ops.size 0) = true then evDraw P (CallOk P) ops (aheads ops.toList) (eager P ops (aheads ops.toList) ops.size 0) [] (K' .normal) env' (mk st) else False) else evOps P (CallOk P) ops ops.toList (K' .normal) env' (mk st)) := by
      intro J hJ h
      cases draw with
      | true =>
        simp only at h
        rw [if_pos rfl]
        split at h
        · rename_i hd
          rw [if_pos hd]
          exact gDraw_sound hJ hle .nil h
        · exact h.elim
      | false =>
        rw [if_neg (by simp)]
        exact gOps_sound hJ hle h
    split at h
    · obtain ⟨J, h1, h2⟩ := meet_sound h
      exact hd (fun e e' s he hj => by obtain ⟨e0, h3, h4⟩ := h2 e e' s he hj; exact hK _ _ _ _ h3 h4) h1
    · exact hd (fun e e' s he hj => hK _ _ _ _ he hj) h
  | .seq a b, K, K', hK, lv, ex, env, env', st, hle, h => by
    simp only [gCode] at h
    simp only [evCode]
    split at h
    · obtain ⟨J, h1, h2⟩ := meet_sound h
      refine gCode_sound a (fun x e e' s he hx => ?_) hle h1
      cases x
      · obtain ⟨e0, h3, h4⟩ := h2 e e' s he hx
        exact gCode_sound b hK h3 h4
      · exact hK _ _ _ _ he hx
      · exact hK _ _ _ _ he hx
    · refine gCode_sound a (fun x e e' s he hx => ?_) hle h
      cases x
      · exact gCode_sound b hK he hx
      · exact hK _ _ _ _ he hx
      · exact hK _ _ _ _ he hx
  | .cond c a b, K, K', hK, lv, ex, env, env', st, hle, h => by
    simp only [gCode] at h
    simp only [evCode]
    split at h
    · rename_i hc
      rw [← opd_le hle hc]
      split at h
      · rename_i w hw
        rw [hw]
        rcases cnd_sound h with ⟨rfl, h⟩ | ⟨rfl, h⟩
        · exact gCode_sound a hK hle h
        · exact gCode_sound b hK hle h
      · exact h.elim
    · exact h.elim
  | .block id b, K, K', hK, lv, ex, env, env', st, hle, h => by
    simp only [gCode] at h
    simp only [evCode]
    refine gCode_sound b (fun x e e' s he hx => ?_) hle h
    cases x with
    | normal => exact hK _ _ _ _ he hx
    | exit i =>
      simp only at hx ⊢
      by_cases hid : i = id
      · subst hid
        rw [Nat.beq_refl] at hx
        rw [if_pos rfl]; exact hK _ _ _ _ he hx
      · rw [if_neg hid]
        have : Nat.beq i id = false := by cases hb : Nat.beq i id; rfl; exact absurd (Nat.eq_of_beq_eq_true hb) hid
        rw [this] at hx
        exact hK _ _ _ _ he hx
    | ret => exact hK _ _ _ _ he hx
  | .loop b, K, K', hK, lv, ex, env, env', st, hle, h => by
    simp only [gCode] at h
    simp only [evCode]
    split at h
    · rename_i hall
      rw [map_get_le hle hall] at h
      generalize (bits (live rv b 0 ex)).map env'.get = vals at h ⊢
      clear hle hall
      have step : ∀ (n : Nat) (vals : List AV) (st : OS), lp n (fun X vals o => exVs ((bits (live rv b 0 ex)).map kd) fun vs => vals = vs ∧ gCode P (GoF P) m kd rv b (fun x e s => match x with
          | .normal => match (bits (live rv b 0 ex)).all e.has with
            | true => X ((bits (live rv b 0 ex)).map e.get) s
            | false => False
          | .exit i => K (.exit i) e s
          | .ret => K .ret e s) (live rv b 0 ex) ex (framed (bits (live rv b 0 ex)) vs) o) vals st →
          ∀ Y : List AV → St → Prop, (∀ v s, evCode P (CallOk P) Lfp rv none b (fun x e s => match x with
            | .normal => Y ((bits (live rv b 0 ex)).map e.get) s
            | .exit i => K' (.exit i) e s
            | .ret => K' .ret e s) (live rv b 0 ex) ex (framed (bits (live rv b 0 ex)) v) s → Y v s) → Y vals (mk st) := by
        intro n
        induction n with
        | zero => intro vals st h; exact h.elim
        | succ n ih =>
          intro vals st h Y hY
          simp only [lp] at h
          obtain ⟨vs, rfl, h⟩ := exVs_sound h
          refine hY _ _ (gCode_sound b (fun x e e' s he hx => ?_) (le.refl _) h)
          cases x with
          | normal =>
            simp only at hx ⊢
            split at hx
            · rename_i hall
              rw [map_get_le he hall] at hx
              exact ih _ _ hx Y hY
            · exact hx.elim
          | exit i => exact hK _ _ _ _ he hx
          | ret => exact hK _ _ _ _ he hx
      exact step m vals st h
    · exact h.elim
  | .scope b, K, K', hK, lv, ex, env, env', st, hle, h => by
    simp only [gCode] at h
    simp only [evCode]
    exact gCode_sound b hK hle h
  | .exit id, K, K', hK, lv, ex, env, env', st, hle, h => hK _ _ _ _ hle h
  | .ret, K, K', hK, lv, ex, env, env', st, hle, h => hK _ _ _ _ hle h
  | .goto _, _, _, _, _, _, _, _, _, _, h => h.elim
  | .refuse _, _, _, _, _, _, _, _, _, _, h => h.elim
  | .rangeFunc .., _, _, _, _, _, _, _, _, _, h => h.elim

theorem gRes_sound {env env' : Env} (hle : le env env') {st : OS} : ∀ {rs : List ResultVar} {K : List AV → Prop}, gRes P rs env st K → ∃ vs, resA P rs env' (mk st) = some vs ∧ K vs
  | [], K, h => ⟨[], rfl, h⟩
  | .tmp t :: r, K, h => by
    simp only [gRes] at h
    split at h
    · rename_i ht
      obtain ⟨vs, h1, h2⟩ := gRes_sound hle h
      exact ⟨env.get t :: vs, by simp only [resA, h1, Option.map_some, hle t ht], h2⟩
    · exact h.elim
  | .cell a t :: r, K, h => by
    simp only [gRes] at h
    split at h
    · rename_i hh ha hn
      obtain ⟨v, h0, h⟩ := ty_sound h
      obtain ⟨vs, h1, h2⟩ := gRes_sound hle h
      refine ⟨v :: vs, ?_, h2⟩
      rw [hle a hh] at h0
      simp only [resA, ldT_of ha hn h0, h1, Option.map_some]
    · exact h.elim

/-- WHAT THE TYPED FORM TELLS OF A FUNCTION HOLDS OF ITS CALL. -/
theorem Go.of (hS : Sane P) {n : Nat} {g : Nat} {args : List AV} {o : OS} {K : AV → OS → Prop} (h : gFun P (GoF P) n g args o (rt o K)) : Go P g args o K := by
  show CallOk P (.func g) args (mk o) fun v s => K v s.objs
  refine evCall_sound hS (call := CallOk P) (fun _ _ _ _ h => h) ?_
  unfold evCall
  simp only
  unfold gFun at h
  split at h
  · rename_i fn hfn
    rw [hfn]
    simp only
    split at h
    · rename_i c hc
      rw [hc]
      simp only
      unfold evBody
      refine gCode_sound c (fun x e e' s he hx => ?_) (le.refl _) h
      have key : gRes P fn.results.toList e s (fun vs => rt o K (answer vs) s) → evDefers (CallOk P) ((mk s).dfs.getD []) (mk s) (fun st' => match resA P fn.results.toList e' st' with
          | some vs => Ret (mk o) (fun v s => K v s.objs) (answer vs) (st'.as (some []))
          | none => False) := by
        intro hx
        obtain ⟨vs, h1, h2⟩ := gRes_sound he hx
        simp only [Option.getD_some, evDefers, h1]
        rcases h2 with h2 | ⟨h2, h3, h4⟩
        · exact .inl h2
        · exact .inr ⟨h2, fun i hi => h3 i hi, h4⟩
      cases x with
      | normal => exact key hx
      | exit i => exact hx.elim
      | ret => exact key hx
    · exact h.elim
  · exact h.elim
theorem ORel.of_block {B : Nat} {M : Map} {n : Nat} {o : AO} {p : Place} {w w' : World} (h : ORel B M n o p w) (hb : w'.heap[p.b]? = w.heap[p.b]?) : ORel B M n o p w' := by
  cases o <;> simp only [ORel] at h ⊢ <;> (try rw [hb]) <;> exact h
theorem Go.mono {f : Nat} {args : List AV} {o : OS} {K K' : AV → OS → Prop} (hK : ∀ v o, K v o → K' v o) (h : Go P f args o K) : Go P f args o K' :=
  CallOk.mono (fun _ _ h => hK _ _ h) h

/-- What a call by itself, of nothing but flat things, answers: it answers so wherever it stands. -/
theorem Go.alone (hS : Sane P) {f : Nat} {args : List AV} {r : AV} {o : OS} {K : AV → OS → Prop} (ha : args.all AV.flat = true) (hr : r.flat = true) (h : Run P (.func f) args ⟨[], some []⟩ fun v _ => v = r) (hK : K r o) : Go P f args o K := by
  have h := Run.sound hS h
  refine ⟨h.1, fun w0 M w args' hs hargs => ?_⟩
  have hs0 : SRel w0 M ⟨[], some []⟩ w := ⟨hs.below, fun id hid => by simp [St.size] at hid, fun i j hi => by simp [St.size] at hi, fun i hi => by simp [St.size] at hi⟩
  have ha0 : VRs M (St.size ⟨[], some []⟩) args args'.toList := by
    refine VRs.flat (M := M) (M' := M) (n := (mk o).size) AV.flat (fun x v hx hv => hv.flat hx) ha hargs
  have post : ∀ e w', CallPost w0 M ⟨[], some []⟩ w (fun v _ => v = r) e w' → CallPost w0 M (mk o) w (fun v s => K v s.objs) e w' := by
    rintro e w' ⟨v, x, st', M', rfl, rfl, hv, hs', hx⟩
    have hframe : ∀ b, b < w.heap.size → w'.heap[b]? = w.heap[b]? := fun b hb => hx.frame b hb fun i hi => by simp [St.size] at hi
    refine ⟨v, x, mk o, M, rfl, hK, hv.flat hr, ⟨hs'.below, fun id hid => ?_, hs.inj, fun i hi => Nat.lt_of_lt_of_le (hs.bnd i hi) hx.heap⟩, ⟨Nat.le_refl _, fun _ _ => rfl, hx.heap, fun b hb _ => hframe b hb, fun i h h' => by omega⟩⟩
    have hb := hs.bnd id hid
    exact (hs.objs id hid).of_block (hframe _ hb)
  exact ⟨(h.2 w0 M w args' hs0 ha0).1.mono post, fun u => ((h.2 w0 M w args' hs0 ha0).2 u).mono fun e u' w' hp => ⟨hp.1, post e w' hp.2⟩⟩
/-- What a call answers in a store that lies before us, where the answer is flat and all that stood stays. -/
theorem Go.here (hS : Sane P) {f : Nat} {args : List AV} {r : AV} {o : OS} {K : AV → OS → Prop} (hr : r.flat = true) (h : Run P (.func f) args ⟨o, some []⟩ fun v s => v = r ∧ s.objs.take o.length = o) (hK : K r o) : Go P f args o K := by
  have h := Run.sound hS h
  refine ⟨h.1, fun w0 M w args' hs hargs => ?_⟩
  have post : ∀ e w', CallPost w0 M (mk o) w (fun v s => v = r ∧ s.objs.take o.length = o) e w' → CallPost w0 M (mk o) w (fun v s => K v s.objs) e w' := by
    rintro e w' ⟨v, x, st', M', rfl, ⟨rfl, htk⟩, hv, hs', hx⟩
    have hold : ∀ i, i < (mk o).size → st'.get i = (mk o).get i := by
      intro i hi
      have hi' : i < o.length := hi
      show (st'.objs[i]?).getD .dead = (o[i]?).getD .dead
      have : (st'.objs.take o.length)[i]? = st'.objs[i]? := List.getElem?_take_of_lt hi'
      rw [← this, htk]
    refine ⟨v, x, mk o, M, rfl, hK, hv.flat hr, ⟨hs'.below, fun id hid => ?_, hs.inj, fun i hi => Nat.lt_of_lt_of_le (hs.bnd i hi) hx.heap⟩, ⟨Nat.le_refl _, fun _ _ => rfl, hx.heap, hx.frame, fun i h h' => by omega⟩⟩
    have h1 := hs'.objs id (Nat.lt_of_lt_of_le hid hx.size)
    rw [hold id hid, hx.map id hid] at h1
    exact (hs.objs id hid).back hx.map h1
  exact ⟨(h.2 w0 M w args' hs hargs).1.mono post, fun u => ((h.2 w0 M w args' hs hargs).2 u).mono fun e u' w' hp => ⟨hp.1, post e w' hp.2⟩⟩
end
end Go.Ab
