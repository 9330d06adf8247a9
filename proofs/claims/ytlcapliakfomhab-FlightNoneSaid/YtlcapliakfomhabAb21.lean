/- THE ABSTRACT EVALUATOR, 21: code, on the machine; a function's answer; a call. -/
import Derived.Test.YtlcapliakfomhabAb20
namespace Go.Ab
open Go.RowKit (Below)
section
variable {P : Program} {M : Map} {st : St} {w0 w : World} {B nt : Nat} {call : CallP}

theorem framed_go (f : Nat → AV) (t : Nat) : ∀ (ls : List Nat) (pre : List AV), (framed.go (pre ++ ls.map f) ls pre.length).get t = if t ∈ ls then f t else .unk
  | [], pre => by simp [framed.go, Env.get]
  | s :: r, pre => by
    have h1 := framed_go f t r (pre ++ [f s])
    have e : (pre ++ [f s]) ++ r.map f = pre ++ (s :: r).map f := by simp
    have e2 : (pre ++ [f s]).length = pre.length + 1 := by simp
    rw [e, e2] at h1
    simp only [framed.go, Env.get]
    by_cases hst : s = t
    · subst hst
      simp
    · have : Nat.beq s t = false := by rw [← Bool.not_eq_true]; intro hh; exact hst (Nat.eq_of_beq_eq_true hh)
      rw [this]
      simp only
      rw [h1]
      simp [Ne.symm hst]
theorem framed_rel {n : Nat} {env : Env} {tmps : Array Value} (h : ERel M n env tmps) (ls : List Nat) : ERel M n (framed ls (ls.map env.get)) tmps := by
  intro t
  have := framed_go env.get t ls []
  simp only [List.nil_append, List.length_nil] at this
  unfold framed
  rw [this]
  split
  · exact h t
  · simp [VR]

theorem stepR_scope {b : Frame} {a : Act} {k : List Item} {cs : List Frame} {w : World} {c : Code} :
    step P (lone (b.atR a (.code (.scope c) :: k)) cs w) = .next (lone (b.atR a (.code c :: .inScope c :: k)) cs w) :=
  step_lone_go (by simp [stepG, stepG.exec, Frame.atR])
theorem stepR_inScope {b : Frame} {a : Act} {k : List Item} {cs : List Frame} {w : World} {c : Code} :
    step P (lone (b.atR a (.inScope c :: k)) cs w) = .next (lone (b.atR a k) cs w) :=
  step_lone_go (by simp [stepG, stepG.exec, Frame.atR])
/-- A scope, where no goto leaves it. -/
theorem wpIn_scope {F : Fence} {n : Nat} {c : Code} {Q : Exit → Act → World → Prop} {a : Act} {w : World} (h : c.wpIn F n P Q a w) (hg : ∀ l a w, ¬ Q (.goto l) a w) : (Code.scope c).wpIn F n P Q a w := by
  intro b k cs hro hb hr
  have h0 : (lone (b.atR a (.code (.scope c) :: k)) cs w).fenced P F := fenced_calm hb hr rfl
  obtain ⟨e, a₁, w₁, hq, harr⟩ := h b (.inScope c :: k) cs hro hb hr
  cases e with
  | normal => exact ⟨.normal, a₁, w₁, hq, .head h0 stepR_scope (StepsIn.trans harr (.one (fenced_calm hb hr rfl) stepR_inScope))⟩
  | exit id =>
    have hx : exitTo id (.inScope c :: k) = exitTo id k := by simp [exitTo]
    exact ⟨.exit id, a₁, w₁, hq, fun k' hk => .head h0 stepR_scope (harr.1 k' (by rw [hx]; exact hk)),
      fun hr' hk => let ⟨k₁, h1, h2⟩ := harr.2 hr' (by rw [hx]; exact hk); ⟨k₁, h1, .head h0 stepR_scope h2⟩⟩
  | goto l => exact absurd hq (hg l a₁ w₁)
  | ret => exact ⟨_, a₁, w₁, hq, .of_steps (.one h0 stepR_scope) harr⟩
  | panic ch => exact ⟨_, a₁, w₁, hq, .of_steps (.one h0 stepR_scope) harr⟩
  | outgrown => exact ⟨_, a₁, w₁, hq, .of_steps (.one h0 stepR_scope) harr⟩

theorem evCode_sound (hS : Sane P) (hc : ∀ f args st Q, call f args st Q → CallOk P f args st Q) {rv : Nat} {ro : Option Nat} {k : Nat} : ∀ (c : Code), fits nt c = true →
    ∀ {K : X → Env → St → Prop} {lv : Nat} {ex : List (Nat × Nat)} {env : Env} {M : Map} {st : St} {w : World} {a : Act} {M0 : Map} {st0 : St} {wb : World},
      evCode P call Lfp rv c K lv ex env st → FrameR w0 B M st w nt env a → Ext M0 st0 wb M st w → c.wpIn (fen ro) k P (Post w0 B nt M0 st0 wb K) a w
  | .skip, _, _, _, _, _, _, _, _, _, _, _, _, h, hf, hx => wpIn_skip ⟨.normal, _, _, _, rfl, h, hf, hx⟩
  | .label _, _, _, _, _, _, _, _, _, _, _, _, _, h, hf, hx => wpIn_label ⟨.normal, _, _, _, rfl, h, hf, hx⟩
  | .exit id, _, _, _, _, _, _, _, _, _, _, _, _, h, hf, hx => wpIn_exit ⟨.exit id, _, _, _, rfl, h, hf, hx⟩
  | .ret, _, _, _, _, _, _, _, _, _, _, _, _, h, hf, hx => wpIn_ret ⟨.ret, _, _, _, rfl, h, hf, hx⟩
  | .goto _, _, _, _, _, _, _, _, _, _, _, _, _, h, _, _ => h.elim
  | .rangeFunc .., _, _, _, _, _, _, _, _, _, _, _, _, h, _, _ => h.elim
  | .refuse _, _, _, _, _, _, _, _, _, _, _, _, _, h, _, _ => h.elim
  | .scope b, hfit, _, _, _, _, _, _, _, _, _, _, _, h, hf, hx => wpIn_scope (evCode_sound hS hc b hfit h hf hx) (by rintro l a w ⟨z, _, _, _, hz, _⟩; cases z <;> simp [X.out] at hz)
  | .region _ ops draw, hfit, _, _, _, _, _, _, _, _, _, _, _, h, hf, hx => evRegion_sound hS hc hfit h hf hx
  | .seq x y, hfit, K, lv, ex, env, M, st, w, a, M0, st0, wb, h, hf, hx => by
    simp only [fits, Bool.and_eq_true] at hfit
    refine wpIn_seq (wpIn_mono (evCode_sound hS hc x hfit.1 h hf hx) ?_)
    rintro e a' w' ⟨z, env', st', M', rfl, hk, hf', hx'⟩
    cases z with
    | normal => exact evCode_sound hS hc y hfit.2 hk hf' hx'
    | exit i => exact ⟨.exit i, _, _, _, rfl, hk, hf', hx'⟩
    | ret => exact ⟨.ret, _, _, _, rfl, hk, hf', hx'⟩
  | .cond c x y, hfit, K, lv, ex, env, M, st, w, a, M0, st0, wb, h, hf, hx => by
    simp only [fits, Bool.and_eq_true] at hfit
    simp only [evCode] at h
    have hcv := hf.erel.opd c
    split at h
    · rename_i hb
      rw [hb] at hcv
      simp only [VR] at hcv
      exact wpIn_cond_true hcv (evCode_sound hS hc x hfit.1 h hf hx)
    · rename_i hb
      rw [hb] at hcv
      simp only [VR] at hcv
      exact wpIn_cond_false hcv (evCode_sound hS hc y hfit.2 h hf hx)
    · exact h.elim
  | .block id b, hfit, K, lv, ex, env, M, st, w, a, M0, st0, wb, h, hf, hx => by
    simp only [evCode] at h
    refine wpIn_block (wpIn_mono (evCode_sound hS hc b hfit h hf hx) ?_)
    rintro e a' w' ⟨z, env', st', M', rfl, hk, hf', hx'⟩
    cases z with
    | normal => exact ⟨.normal, _, _, _, rfl, hk, hf', hx'⟩
    | exit i =>
      simp only at hk
      simp only [X.out, Exit.inBlock]
      split
      · rw [if_pos ‹_›] at hk; exact ⟨.normal, _, _, _, rfl, hk, hf', hx'⟩
      · rw [if_neg ‹_›] at hk; exact ⟨.exit i, _, _, _, rfl, hk, hf', hx'⟩
    | ret => exact ⟨.ret, _, _, _, rfl, hk, hf', hx'⟩
  | .loop b, hfit, K, lv, ex, env, M, st, w, a, M0, st0, wb, h, hf, hx => by
    simp only [evCode] at h
    intro fr k' cs hro hb hr
    have key := h (fun vals s => ∀ (M : Map) (w : World) (a : Act), FrameR w0 B M s w nt (framed (bits (live rv b 0 ex)) vals) a → Ext M0 st0 wb M s w →
        ∃ e a' w', Post w0 B nt M0 st0 wb K e a' w' ∧ ArrivesIn (Machine.fenced P (fen ro)) P (lone (fr.atR a (.code b :: .inLoop b :: k')) cs w) fr k' cs e a' w') (fun vals s hF M w a hf hx => by
      obtain ⟨e, a₁, w₁, ⟨z, env', st', M', hz, hk, hf', hx'⟩, harr⟩ := evCode_sound hS hc (ro := ro) (k := k) b hfit hF hf hx fr (.inLoop b :: k') cs hro hb hr
      subst hz
      cases z with
      | normal =>
        obtain ⟨e₂, a₂, w₂, hq₂, harr₂⟩ := hk M' w₁ a₁ ⟨hf'.srel, framed_rel hf'.erel _, hf'.size, hf'.marks⟩ hx'
        exact ⟨e₂, a₂, w₂, hq₂, .of_steps (StepsIn.trans harr (.one (fenced_calm hb hr rfl) stepR_inLoop)) harr₂⟩
      | exit i => exact ⟨_, a₁, w₁, ⟨.exit i, _, _, _, rfl, hk, hf', hx'⟩, .pass (x := .inLoop b) rfl (fun _ _ => .inl (by simp [X.out])) harr⟩
      | ret => exact ⟨_, a₁, w₁, ⟨.ret, _, _, _, rfl, hk, hf', hx'⟩, .pass (x := .inLoop b) rfl (fun _ _ => .inl (by simp [X.out])) harr⟩)
    obtain ⟨e, a', w', hq, harr⟩ := key M w a ⟨hf.srel, framed_rel hf.erel _, hf.size, hf.marks⟩ hx
    exact ⟨e, a', w', hq, .of_steps (.one (fenced_calm hb hr rfl) stepR_loop) harr⟩

/-! A function's answer. -/
def resOne (tmps : Array Value) : ResultVar → Sem Value
  | .tmp t => pure (tmps.getD t undef)
  | .cell a t => do loadVar t (← asAddr (tmps.getD a undef))
theorem results_eq (fn : Func) (tmps : Array Value) : results fn tmps = (do
    let vs ← fn.results.mapM (resOne tmps)
    pure (if h : vs.size = 1 then vs[0] else .tuple vs)) := rfl
theorem resA_sound : ∀ (rs : List ResultVar) {env : Env} {tmps : Array Value} {vs : List AV}, resA P rs env st = some vs → SRel w0 M st w → ERel M st.size env tmps →
    ∃ us, (rs.mapM (resOne tmps)).run P w = .ok us w ∧ VRs M st.size vs us
  | [], _, _, _, h, _, _ => by
    simp only [resA, Option.some.injEq] at h
    subst h
    exact ⟨[], by simp, VRs_nil⟩
  | .tmp t :: r, env, tmps, vs, h, hs, he => by
    simp only [resA] at h
    obtain ⟨vs', h', rfl⟩ := Option.map_eq_some_iff.1 h
    obtain ⟨us, hr, hv⟩ := resA_sound r h' hs he
    exact ⟨tmps.getD t undef :: us, by simp only [List.mapM_cons, resOne, pure_bind, Sem.run_bind, hr, Result.andThen_ok, Sem.run_pure], VRs_cons.2 ⟨he t, hv⟩⟩
  | .cell a t :: r, env, tmps, vs, h, hs, he => by
    simp only [resA] at h
    split at h
    · rename_i v hl
      obtain ⟨vs', h', rfl⟩ := Option.map_eq_some_iff.1 h
      obtain ⟨us, hr, hv⟩ := resA_sound r h' hs he
      obtain ⟨y, hy, hvr⟩ := load_sound hl hs (he a)
      have hy2 : (do loadVar t (← asAddr (tmps.getD a undef)) : Sem Value).run P w = .ok y w := by
        have ha := he a
        unfold ldT at hl
        split at hl
        · rename_i id off hg
          rw [hg] at ha
          simp only [VR] at ha
          rw [ha.2] at hy ⊢
          simpa [Instr.loadAt, Instr.sureAddr, asAddr] using hy
        · cases hl
      exact ⟨y :: us, by simp only [List.mapM_cons, resOne, Sem.run_bind] at hy2 ⊢; simp only [hy2, hr, Result.andThen_ok, Sem.run_pure], VRs_cons.2 ⟨hvr, hv⟩⟩
    · cases h

theorem results_sound {fn : Func} {env : Env} {tmps : Array Value} {vs : List AV} (h : resA P fn.results.toList env st = some vs) (hs : SRel w0 M st w) (he : ERel M st.size env tmps) :
    ∃ u, (results fn tmps).run P w = .ok u w ∧ VR M st.size (answer vs) u := by
  obtain ⟨us, hr, hv⟩ := resA_sound fn.results.toList h hs he
  have hrun : (results fn tmps).run P w = .ok (if h : us.toArray.size = 1 then us.toArray[0] else .tuple us.toArray) w := by
    rw [results_eq, Array.mapM_eq_mapM_toList]
    simp only [Sem.run_bind, map_eq_pure_bind, hr, Result.andThen_ok, Sem.run_pure]
  refine ⟨_, hrun, ?_⟩
  match vs, us, hv with
  | [], us, hv =>
    simp only [VRs] at hv
    subst hv
    simp [answer, VR, VRs]
  | [x], us, hv =>
    obtain ⟨y, us', rfl, h1, h2⟩ := hv
    simp only [VRs] at h2
    subst h2
    simpa [answer] using h1
  | x :: y :: r, us, hv =>
    have hl := VRs.length hv
    simp only [List.length_cons] at hl
    rw [dif_neg (by simp; omega)]
    simp only [answer, VR]
    exact ⟨_, rfl, hv⟩

/-! The store as it stood. -/
mutual
theorem VR.back {M M' : Map} {n n' : Nat} (hM : ∀ i, i < n → M' i = M i) : ∀ (x : AV) (v v' : Value), VR M n x v → VR M' n' x v' → VR M n x v'
  | .bool _, _, _, _, h | .int _ _, _, _, _, h | .str _, _, _, _, h | .nilptr, _, _, _, h | .nilslice, _, _, _, h | .zslice, _, _, _, h | .nilmap, _, _, _, h | .nilfunc, _, _, _, h => by simpa [VR] using h
  | .ptr id off, _, _, h, h' => by simp only [VR] at h h' ⊢; rw [hM _ h.1] at h'; exact ⟨h.1, h'.2⟩
  | .slice .., _, _, h, h' => by simp only [VR] at h h' ⊢; rw [hM _ h.1] at h'; exact ⟨h.1, h'.2⟩
  | .eslice .., _, _, h, h' => by simp only [VR] at h h' ⊢; rw [hM _ h.1] at h'; exact ⟨h.1, h'.2⟩
  | .map _, _, _, h, h' => by simp only [VR] at h h' ⊢; rw [hM _ h.1] at h'; exact ⟨h.1, h'.2⟩
  | .iter _, _, _, h, h' => by simp only [VR] at h h' ⊢; rw [hM _ h.1] at h'; exact ⟨h.1, h'.2⟩
  | .func f a c, _, _, h, h' => by
    simp only [VR] at h h' ⊢
    obtain ⟨f1, a1, c1, e1, hf1, g1, k1⟩ := h
    obtain ⟨f2, a2, c2, e2, hf2, g2, k2⟩ := h'
    refine ⟨f2, a2, c2, e2, ?_, VRs.back hM _ _ _ g1 g2, VRs.back hM _ _ _ k1 k2⟩
    cases f <;> first | exact hf2 | (simp only at hf1 hf2 ⊢; rw [hM _ hf1.1] at hf2; exact ⟨hf1.1, hf2.2⟩)
  | .agg cs, _, _, h, h' => by simp only [VR] at h h' ⊢; obtain ⟨a1, e1, h1⟩ := h; obtain ⟨a2, e2, h2⟩ := h'; exact ⟨a2, e2, VRs.back hM _ _ _ h1 h2⟩
  | .tuple cs, _, _, h, h' => by simp only [VR] at h h' ⊢; obtain ⟨a1, e1, h1⟩ := h; obtain ⟨a2, e2, h2⟩ := h'; exact ⟨a2, e2, VRs.back hM _ _ _ h1 h2⟩
  | .unk, _, _, _, _ => by simp [VR]
theorem VRs.back {M M' : Map} {n n' : Nat} (hM : ∀ i, i < n → M' i = M i) : ∀ (x : List AV) (v v' : List Value), VRs M n x v → VRs M' n' x v' → VRs M n x v'
  | [], _, _, _, h => by simpa [VRs] using h
  | a :: as, _, _, h, h' => by
    simp only [VRs] at h h' ⊢
    obtain ⟨v, vs, _, h1, h2⟩ := h
    obtain ⟨u, us, e, g1, g2⟩ := h'
    exact ⟨u, us, e, VR.back hM _ _ _ h1 g1, VRs.back hM _ _ _ h2 g2⟩
end
theorem VRes.back {M M' : Map} {n n' : Nat} (hM : ∀ i, i < n → M' i = M i) : ∀ (x : List (AV × AV × Nat)) (v v' : List MapEntry), VRes M n x v → VRes M' n' x v' → VRes M n x v'
  | [], _, _, _, h => by simpa [VRes] using h
  | a :: as, _, _, h, h' => by
    simp only [VRes, VRe] at h h' ⊢
    obtain ⟨v, vs, _, ⟨h1, h2, _⟩, h4⟩ := h
    obtain ⟨u, us, e, ⟨g1, g2, g3⟩, g4⟩ := h'
    exact ⟨u, us, e, ⟨VR.back hM _ _ _ h1 g1, VR.back hM _ _ _ h2 g2, g3⟩, VRes.back hM _ _ _ h4 g4⟩
theorem ORel.back {B : Nat} {M M' : Map} {n n' : Nat} {o : AO} {p : Place} {w w' : World} (hM : ∀ i, i < n → M' i = M i) (h : ORel B M n o p w) (h' : ORel B M' n' o p w') : ORel B M n o p w' := by
  cases o with
  | dead => trivial
  | cells rw vs =>
    obtain ⟨c, e, fz, _, h2, _⟩ := h
    obtain ⟨c', e', fz', g1, g2, g3⟩ := h'
    refine ⟨c', e', fz', g1, fun i x hx => ?_, g3⟩
    obtain ⟨y, _, hy⟩ := h2 i x hx
    obtain ⟨z, hz, hz'⟩ := g2 i x hx
    exact ⟨z, hz, VR.back hM _ _ _ hy hz'⟩
  | map es clock =>
    obtain ⟨_, es1, _, h2⟩ := h
    obtain ⟨g0, es2, g1, g2⟩ := h'
    exact ⟨g0, es2, g1, VRes.back hM _ _ _ h2 g2⟩
  | iter m since seen last =>
    obtain ⟨_, sn, _, _, h3⟩ := h
    obtain ⟨g0, sn', g1, g2, _⟩ := h'
    refine ⟨g0, sn', ?_, g2, h3⟩
    rw [g1]
    cases m with
    | none => rfl
    | some m => simp only [Option.map_some]; rw [hM m (h3 m rfl)]
  | loop s pend ps assign body env =>
    obtain ⟨_, r, _, _, _, _, _, _, h8, _⟩ := h
    obtain ⟨g0, r', g1, g2, g3, g4, g5, g6, g7, g8⟩ := h'
    exact ⟨g0, r', g1, g2, g3, g4, g5, g6, fun t => VR.back hM _ _ _ (h8 t) (g7 t), g8⟩

/-- A value without a place, in whatever store. -/
theorem VR.flat1 {M M' : Map} {n n' : Nat} {x : AV} {v : Value} (hx : (match x with | .bool _ | .int .. | .str _ | .nilptr | .nilslice | .zslice | .nilmap | .nilfunc => true | _ => false) = true) (h : VR M n x v) : VR M' n' x v := by
  cases x <;> simp at hx <;> simpa [VR] using h
theorem VRs.flat {M M' : Map} {n n' : Nat} (p : AV → Bool) (hp : ∀ x v, p x = true → VR M n x v → VR M' n' x v) : ∀ {x : List AV} {v : List Value}, x.all p = true → VRs M n x v → VRs M' n' x v
  | [], _, _, h => by simpa [VRs] using h
  | a :: as, _, hx, h => by
    simp only [List.all_cons, Bool.and_eq_true] at hx
    simp only [VRs] at h ⊢
    obtain ⟨v, vs, e, h1, h2⟩ := h
    exact ⟨v, vs, e, hp _ _ hx.1 h1, VRs.flat p hp hx.2 h2⟩
theorem VR.flat {M M' : Map} {n n' : Nat} {x : AV} {v : Value} (hx : x.flat = true) (h : VR M n x v) : VR M' n' x v := by
  unfold AV.flat at hx
  split at hx <;> try (simpa [VR] using h)
  · simp only [VR] at h ⊢
    obtain ⟨c, e, h⟩ := h
    exact ⟨c, e, VRs.flat _ (fun x v hx => VR.flat1 hx) hx h⟩
  · simp only [VR] at h ⊢
    obtain ⟨c, e, h⟩ := h
    refine ⟨c, e, VRs.flat _ (fun x v hx h => ?_) hx h⟩
    split at hx <;> try (simpa [VR] using h)
    · simp only [VR] at h ⊢
      obtain ⟨c, e, h⟩ := h
      exact ⟨c, e, VRs.flat _ (fun x v hx => VR.flat1 hx) hx h⟩
    · cases hx
  · cases hx

/-- Marks are passed; the answer is handed over. -/
theorem leaves_sound {fn : Func} {env : Env} {vs : List AV} {tmps : Array Value} {ro : Option Nat} {k : Nat} {R : Ending → World → Prop} {M0 : Map} {st0 : St} {wb : World} (hres : resA P fn.results.toList env st = some vs) (he : ERel M st.size env tmps) :
    ∀ {ds : List Deferred} {w : World}, SRel w0 M st w → Ext M0 st0 wb M st w → wb.heap.size ≤ B → w0.heap.size ≤ B → DR B M st w ds → (∀ (u : Value) (w' : World), SRel w0 M st w' → Ext M0 st0 wb M st w' → VR M st.size (answer vs) u → R (.returned u) w') →
      LeavesInM (fen ro) k P fn tmps R ds .returning w
  | [], w, hs, hx, _, _, _, hR => by
    obtain ⟨u, hu, hv⟩ := results_sound hres hs he
    exact ⟨u, hu, hR u w hs hx hv⟩
  | d :: ds, w, hs, hx, hB, hB0, ⟨⟨r, h1, h2, h3, h4, h5⟩, hd⟩, hR => by
    have hlt : r < w.heap.size := (Array.getElem?_eq_some_iff.1 h3).1
    refine ⟨by simp, .inl ⟨r, w.putObj r (.deferred none), h1, run_takeDeferred h3, ?_⟩⟩
    have hs' : SRel w0 M st (w.putObj r (.deferred none)) := by
      refine ⟨hs.below.trans ⟨rfl, rfl, rfl, by simp, fun k hk => World.putObj_heap_other (by omega)⟩, fun id hid => (hs.objs id hid).world fun _ => World.putObj_heap_other (fun e => h4 id hid e), hs.inj⟩
    have hx' : Ext M0 st0 wb M st (w.putObj r (.deferred none)) := by
      refine ⟨hx.size, hx.map, by simpa using hx.heap, fun b hb hno => ?_, hx.fresh⟩
      rw [World.putObj_heap_other (by omega)]; exact hx.frame b hb hno
    have hd' : ∀ {ds : List Deferred}, DR B M st w ds → (∀ e ∈ ds, e.target ≠ .collected r) → DR B M st (w.putObj r (.deferred none)) ds := by
      intro ds
      induction ds with
      | nil => exact fun _ _ => trivial
      | cons e es ih =>
        rintro ⟨⟨q, q1, q2, q3, q4, q5⟩, qd⟩ hne
        refine ⟨⟨q, q1, q2, ?_, q4, q5⟩, ih qd fun e he => hne e (List.mem_cons_of_mem _ he)⟩
        rw [World.putObj_heap_other fun e2 => hne e (List.mem_cons_self ..) (by rw [q1, e2])]; exact q3
    exact leaves_sound hres he hs' hx' hB hB0 (hd' hd h5) hR

theorem enterA_get : ∀ (l : List AV) (i t : Nat), (enterA l i).get t = if i ≤ t then (l[t - i]?).getD .unk else .unk
  | [], i, t => by simp [enterA, Env.get]
  | v :: r, i, t => by
    simp only [enterA, Env.get]
    by_cases h : i = t
    · subst h; simp
    · have : Nat.beq i t = false := by rw [← Bool.not_eq_true]; intro hh; exact h (Nat.eq_of_beq_eq_true hh)
      rw [this]
      simp only
      rw [enterA_get r (i + 1) t]
      by_cases h2 : i ≤ t
      · have e : t - i = (t - (i + 1)) + 1 := by omega
        rw [if_pos (by omega), if_pos h2, e, List.getElem?_cons_succ]
      · rw [if_neg (by omega), if_neg h2]

theorem evCall_sound (hS : Sane P) (hc : ∀ f args st Q, call f args st Q → CallOk P f args st Q) {f : Fn} {args : List AV} {st : St} {Q : AV → St → Prop} (h : evCall P call Lfp f args st Q) : CallOk P f args st Q := by
  unfold evCall at h
  split at h
  · rename_i g
    split at h
    · rename_i fn hg
      split at h
      · rename_i c hb
        refine ⟨⟨fn, hg, by rw [hb]; rfl⟩, fun w0 M w args' hs hargs => ?_⟩
        refine callsIn_fen (ro := none) (n := 0).1 (callsIn_of_wp_marks hg hb trivial ?_)
        have hfr : FrameR w0 w.heap.size M st w fn.ntmps (enterA args 0) { tmps := args' ++ Array.replicate (fn.ntmps - args'.size) undef, defers := [] } := by
          refine ⟨hs, ?_, by simp; omega, trivial⟩
          intro t
          have := enterA_get args 0 t
          rw [this]
          rcases Nat.lt_or_ge t args.length with hlt | hge
          · obtain ⟨y, hy, hv⟩ := hargs.get (List.getElem?_eq_getElem hlt)
            have hlt' : t < args'.size := by have := hargs.length; simp at this; omega
            simp [hlt, hlt'] at hy ⊢
            rw [Array.getElem?_append_left hlt']
            rw [← hy] at hv
            simpa [hlt'] using hv
          · simp [hge, VR]
        refine wpIn_mono (evCode_sound hS hc (ro := none) (k := 0) c (hS.fits g fn c hg hb) h hfr (Ext.refl M st w)) ?_
        have ret : ∀ (env' : Env) (st' : St) (M' : Map) (a' : Act) (w' : World), (match resA P fn.results.toList env' st' with | some vs => Ret st Q (answer vs) st' | none => False) → FrameR w0 w.heap.size M' st' w' fn.ntmps env' a' → Ext M st w M' st' w' →
            LeavesInM (fen none) 0 P fn a'.tmps (CallPost w0 M st w Q) a'.defers .returning w' := fun env' st' M' a' w' hk hf hx => by
          split at hk
          · rename_i vs hres
            refine leaves_sound hres hf.erel hf.srel hx (Nat.le_refl _) hs.base hf.marks fun u w'' hs' hx' hv => ?_
            rcases hk with hk | ⟨hflat, hold, hk⟩
            · exact ⟨u, _, _, _, rfl, hk, hv, hs', hx'⟩
            · refine ⟨u, _, st, M, rfl, hk, hv.flat hflat, ⟨hs'.below, fun id hid => ?_, hs.inj⟩, ⟨Nat.le_refl _, fun _ _ => rfl, hx'.heap, hx'.frame, fun i h h' => by omega⟩⟩
              have h1 := hs'.objs id (Nat.lt_of_lt_of_le hid hx'.size)
              rw [hold id hid, hx'.map id hid] at h1
              exact (hs.objs id hid).back hx'.map h1
          · exact hk.elim
        rintro e a' w' ⟨z, env', st', M', rfl, hk, hf', hx'⟩
        cases z with
        | normal => exact ret env' st' M' a' w' hk hf' hx'
        | exit i => exact hk.elim
        | ret => exact ret env' st' M' a' w' hk hf' hx'
      · exact h.elim
    · exact h.elim
  · exact h.elim

theorem Run.sound (hS : Sane P) {f : Fn} {args : List AV} {st : St} {Q : AV → St → Prop} (h : Run P f args st Q) : CallOk P f args st Q :=
  h (CallOk P) fun _ _ _ _ h => evCall_sound hS (fun _ _ _ _ h => h) h
end
end Go.Ab
