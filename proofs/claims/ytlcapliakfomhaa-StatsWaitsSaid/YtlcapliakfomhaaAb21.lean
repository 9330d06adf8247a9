/- THE ABSTRACT EVALUATOR, 21: code, on the machine; a function's answer; a call. -/
import Derived.Test.YtlcapliakfomhaaAb20
import Derived.RangeFuncNested
namespace Go.Ab
open Go.RowKit (Below)
section
variable {P : Program} {M : Map} {st : St} {w0 w : World} {B nt : Nat} {ro rb : Option Nat} {call : CallP}

theorem framed_go (f : Nat → AV) (t : Nat) : ∀ (ls : List Nat) (pre : List AV), (framed.go (pre ++ ls.map f) ls pre.length).get t = if t ∈ ls then f t else .unk
  | [], pre => by simp [framed.go, Env.get]
  | s :: r, pre => by
    have h1 := framed_go f t r (pre ++ [f s])
    have e : (pre ++ [f s]) ++ r.map f = pre ++ (s :: r).map f := by simp
    have e2 : (pre ++ [f s]).length = pre.length + 1 := by simp
    rw [e, e2] at h1
    simp only [framed.go, Env.get]
    by_cases hst : s = t
    · subst hst
      simp
    · have : Nat.beq s t = false := by rw [← Bool.not_eq_true]; intro hh; exact hst (Nat.eq_of_beq_eq_true hh)
      rw [this]
      simp only
      rw [h1]
      simp [Ne.symm hst]
theorem framed_rel {n : Nat} {env : Env} {tmps : Array Value} (h : ERel M n env tmps) (ls : List Nat) : ERel M n (framed ls (ls.map env.get)) tmps := by
  intro t
  have := framed_go env.get t ls []
  simp only [List.nil_append, List.length_nil] at this
  unfold framed
  rw [this]
  split
  · exact h t
  · simp [VR]

theorem stepR_scope {b : Frame} {a : Act} {k : List Item} {cs : List Frame} {w : World} {c : Code} :
    step P (lone (b.atR a (.code (.scope c) :: k)) cs w) = .next (lone (b.atR a (.code c :: .inScope c :: k)) cs w) :=
  step_lone_go (by simp [stepG, stepG.exec, Frame.atR])
theorem stepR_inScope {b : Frame} {a : Act} {k : List Item} {cs : List Frame} {w : World} {c : Code} :
    step P (lone (b.atR a (.inScope c :: k)) cs w) = .next (lone (b.atR a k) cs w) :=
  step_lone_go (by simp [stepG, stepG.exec, Frame.atR])
/-- A scope, where no goto leaves it. -/
theorem wpIn_scope {F : Fence} {n : Nat} {c : Code} {Q : Exit → Act → World → Prop} {a : Act} {w : World} (h : c.wpIn F n P Q a w) (hg : ∀ l a w, ¬ Q (.goto l) a w) : (Code.scope c).wpIn F n P Q a w := by
  intro b k cs hro hb hr
  have h0 : (lone (b.atR a (.code (.scope c) :: k)) cs w).fenced P F := fenced_calm hb hr rfl
  obtain ⟨e, a₁, w₁, hq, harr⟩ := h b (.inScope c :: k) cs hro hb hr
  cases e with
  | normal => exact ⟨.normal, a₁, w₁, hq, .head h0 stepR_scope (StepsIn.trans harr (.one (fenced_calm hb hr rfl) stepR_inScope))⟩
  | exit id =>
    have hx : exitTo id (.inScope c :: k) = exitTo id k := by simp [exitTo]
    exact ⟨.exit id, a₁, w₁, hq, fun k' hk => .head h0 stepR_scope (harr.1 k' (by rw [hx]; exact hk)),
      fun hr' hk => let ⟨k₁, h1, h2⟩ := harr.2 hr' (by rw [hx]; exact hk); ⟨k₁, h1, .head h0 stepR_scope h2⟩⟩
  | goto l => exact absurd hq (hg l a₁ w₁)
  | ret => exact ⟨_, a₁, w₁, hq, .of_steps (.one h0 stepR_scope) harr⟩
  | panic ch => exact ⟨_, a₁, w₁, hq, .of_steps (.one h0 stepR_scope) harr⟩
  | outgrown => exact ⟨_, a₁, w₁, hq, .of_steps (.one h0 stepR_scope) harr⟩

theorem get_lt {st : St} {l : Nat} (h : st.get l ≠ .dead) : l < st.size := by
  rcases Nat.lt_or_ge l st.size with h' | h'
  · exact h'
  · exact absurd (by simp [St.get, St.size] at h' ⊢; simp [List.getElem?_eq_none h']) h

/-- A loop's record, turned on both sides. -/
theorem loop_upd (hs : SRel w0 M st w) {l : Nat} (hl : l < st.size) {s : LoopState} {p : Option Code} {ps : List Tmp} {x y : Code} {env : Env} (hg : st.get l = .loop s p ps x y env) :
    ∃ r : Loop, w.heap[(M l).b]? = some (.loop r) ∧ r.state = s ∧ r.pending = p ∧ r.params.toList = ps ∧ r.assign = x ∧ r.body = y ∧ ERel M st.size env r.tmps ∧ fits r.tmps.size (.rangeFunc (.tmp 0) r.params r.assign r.body) = true ∧
      ∀ (s' : LoopState) (p' : Option Code), SRel w0 M (st.set l (.loop s' p' ps x y env)) (w.putObj (M l).b (.loop { r with state := s', pending := p' })) ∧
        Ext M st w M (st.set l (.loop s' p' ps x y env)) (w.putObj (M l).b (.loop { r with state := s', pending := p' })) := by
  have ho := hs.objs l hl
  rw [hg] at ho
  obtain ⟨hb, r, hr, h1, h2, h3, h4, h5, h6, h7⟩ := ho
  have hlt : (M l).b < w.heap.size := (Array.getElem?_eq_some_iff.1 hr).1
  refine ⟨r, hr, h1, h2, h3, h4, h5, h6, by rw [h4, h5]; exact h7, fun s' p' => ?_⟩
  refine hs.upd hl (by rw [hg]; rfl) ⟨rfl, rfl, rfl, by simp⟩ (fun b _ hne => World.putObj_heap_other hne) ?_
  exact ⟨hb, { r with state := s', pending := p' }, World.putObj_heap_same hlt, rfl, rfl, h3, h4, h5, h6, h7⟩

theorem dsts_mono {nt nt' : Nat} (h : nt ≤ nt') {ops : Array Oper} (hd : dstsIn nt ops = true) : dstsIn nt' ops = true := by
  unfold dstsIn at hd ⊢
  rw [Array.all_eq_true_iff_forall_mem] at hd ⊢
  intro o ho
  have := hd o ho
  cases hdst : o.dst with
  | none => rfl
  | some d => rw [hdst] at this; simp only [decide_eq_true_eq] at this ⊢; exact Nat.lt_of_lt_of_le this h
theorem fits_mono {nt nt' : Nat} (h : nt ≤ nt') : ∀ (c : Code), fits nt c = true → fits nt' c = true
  | .region _ ops _, hf => dsts_mono h hf
  | .seq a b, hf => by simp only [fits, Bool.and_eq_true] at hf ⊢; exact ⟨fits_mono h a hf.1, fits_mono h b hf.2⟩
  | .cond _ a b, hf => by simp only [fits, Bool.and_eq_true] at hf ⊢; exact ⟨fits_mono h a hf.1, fits_mono h b hf.2⟩
  | .block _ b, hf => by simp only [fits] at hf ⊢; exact fits_mono h b hf
  | .loop b, hf => by simp only [fits] at hf ⊢; exact fits_mono h b hf
  | .scope b, hf => by simp only [fits] at hf ⊢; exact fits_mono h b hf
  | .rangeFunc _ ps a b, hf => by
    simp only [fits, Bool.and_eq_true] at hf ⊢
    refine ⟨⟨?_, fits_mono h a hf.1.2⟩, fits_mono h b hf.2⟩
    rw [Array.all_eq_true_iff_forall_mem] at hf ⊢
    intro p hp
    have := hf.1.1 p hp
    simp only [decide_eq_true_eq] at this ⊢
    exact Nat.lt_of_lt_of_le this h
  | .skip, _ | .label _, _ | .exit _, _ | .goto _, _ | .ret, _ | .refuse _, _ => rfl

theorem SRel.aside (hs : SRel w0 M st w) (o : Obj) : SRel w0 M st (w.alloc o) :=
  ⟨hs.below.trans ⟨rfl, rfl, rfl, by simp, fun k hk => Below.heap_alloc _ _ _ (by have := hs.base; omega)⟩, fun id hid => (hs.objs id hid).world fun _ => Below.heap_alloc _ _ _ (hs.bnd id hid), hs.inj,
    fun i hi => by have := hs.bnd i hi; simp; omega⟩
theorem Ext.aside (M : Map) (st : St) (w : World) (o : Obj) : Ext M st w M st (w.alloc o) :=
  ⟨Nat.le_refl _, fun _ _ => rfl, by simp, fun b hb _ => Below.heap_alloc _ _ _ hb, fun i h h' => by omega⟩

/-- A loop's record, laid on both sides. -/
theorem loop_new (hs : SRel w0 M st w) {env : Env} {ps : Array Tmp} {x y : Code} {r : Loop} (h1 : r.state = .ready) (h2 : r.pending = none) (h3 : r.params = ps) (h4 : r.assign = x) (h5 : r.body = y) (he : ERel M st.size env r.tmps) {f : Operand} (hfit : fits r.tmps.size (.rangeFunc f ps x y) = true) :
    SRel w0 (Mput M st.size ⟨w.heap.size, 0, 0⟩) (st.push (.loop .ready none ps.toList x y env)) (w.alloc (.loop r)) ∧ Ext M st w (Mput M st.size ⟨w.heap.size, 0, 0⟩) (st.push (.loop .ready none ps.toList x y env)) (w.alloc (.loop r)) := by
  refine hs.fresh _ 0 rfl ⟨rfl, rfl, rfl, by simp⟩ ⟨hs.base, r, World.alloc_heap_new _ _, h1, h2, by rw [h3], h4, h5, he.mono (by omega) (Mput_lt _ _ _), ?_⟩
  rw [h3]
  simpa [fits] using hfit

theorem marks_lt : ∀ {ds : List Deferred} {l : List AV}, DRs B M st w ds l → ∀ d ∈ ds, d.target ≠ .collected w.heap.size
  | [], _, _, d, hd => by cases hd
  | d0 :: ds, _, .inl ⟨⟨r, r1, _, r3, _⟩, hr⟩, d, hd => by
    rcases List.mem_cons.1 hd with rfl | hd
    · intro e
      rw [r1] at e
      have := (Array.getElem?_eq_some_iff.1 r3).1
      simp at e
      omega
    · exact marks_lt hr d hd
  | d0 :: ds, _, .inr ⟨g, _, _, _, _, _, h1, _, _, hr⟩, d, hd => by
    rcases List.mem_cons.1 hd with rfl | hd
    · rw [h1]; simp
    · exact marks_lt hr d hd

theorem rangeFunc_sound (hS : Sane P) (hc : ∀ f args st Q, call f args st Q → CallOk P f args st Q) {k : Nat} {f : Operand} {ps : Array Tmp} {x y : Code} (hfit : fits nt (.rangeFunc f ps x y) = true) {K : X → Env → St → Prop} {env : Env} {M : Map} {st : St} {w : World} {a : Act} {M0 : Map} {st0 : St} {wb : World}
    {g : FuncId} {first caps : List AV} (hg : opd env f = .func (.func g) first caps) (hin : inLoop ro st = true)
    (h : call (.func g) (first ++ [.func (.yield st.size) [] []] ++ caps) (st.push (.loop .ready none ps.toList x y env)) fun _ st' =>
          match st'.get st.size with
          | .loop .busy _ _ _ _ _ => False
          | .loop _ pend _ _ _ _ => match pend with
            | none => K .normal env ((st'.set st.size .dead).as st.dfs)
            | some .ret => K .ret env ((st'.set st.size .dead).as st.dfs)
            | some (.exit i) => K (.exit i) env ((st'.set st.size .dead).as st.dfs)
            | _ => False
          | _ => False)
    (hf : FrameR w0 B ro rb M st w nt env a) (hx : Ext M0 st0 wb M st w) : (Code.rangeFunc f ps x y).wpIn (fen rb) k P (Post w0 B ro rb nt M0 st0 wb K) a w := by
  refine wpIn_rangeFunc fun fn _ => ?_
  obtain ⟨⟨fnn, hgf, hb⟩, hk⟩ := hc _ _ _ _ h
  have hv := hf.erel.opd f
  rw [hg] at hv
  simp only [VR] at hv
  obtain ⟨f', a', c', hv, rfl, v1, v2⟩ := hv
  have hfit' := fits_mono hf.size _ hfit
  have enter : ∃ lb mark w₁, (Instr.enterLoop fn a.tmps ps x y rb).run P w = .ok (lb, mark) w₁ ∧ SRel w0 (Mput M st.size ⟨lb, 0, 0⟩) (st.push (.loop .ready none ps.toList x y env)) w₁ ∧
      Ext M st w (Mput M st.size ⟨lb, 0, 0⟩) (st.push (.loop .ready none ps.toList x y env)) w₁ ∧ DR B (Mput M st.size ⟨lb, 0, 0⟩) (st.push (.loop .ready none ps.toList x y env)) w₁ (mark ++ a.defers) st.dfs := by
    cases hro : ro with
    | none =>
      have hrb := hf.ring.1 hro
      rw [hrb]
      have n1 := loop_new (hf.srel.aside (.deferred (some []))) (env := env) (ps := ps) (x := x) (y := y) (r := { state := .ready, pending := none, fn, tmps := a.tmps, params := ps, assign := x, body := y, defers := w.heap.size }) rfl rfl rfl rfl rfl hf.erel hfit'
      rw [World.size_alloc] at n1
      have hext := (Ext.aside M st w (.deferred (some []))).trans n1.2
      refine ⟨_, _, _, run_enterLoop_outer fn a.tmps ps x y, n1.1, hext, ?_⟩
      obtain ⟨lst, hlst⟩ : ∃ lst, st.dfs = some lst := by
        rw [hro] at hin
        exact Option.isSome_iff_exists.1 hin
      have hm := hf.marks
      rw [hlst] at hm ⊢
      refine .inl ⟨⟨w.heap.size, rfl, hf.base, ?_, fun i hi e => ?_, fun d hd => marks_lt hm d hd⟩, DRs.ext hext hm⟩
      · rw [Below.heap_alloc _ _ _ (by simp)]; exact World.alloc_heap_new _ _
      · by_cases ei : i = st.size
        · subst ei; rw [Mput_same] at e; simp at e
        · rw [Mput_lt _ _ _ i (by simp at hi; omega)] at e
          have := hf.srel.bnd i (by simp at hi; omega)
          omega
    | some l0 =>
      obtain ⟨hl0, hrb⟩ := hf.ring.2 l0 hro
      rw [hrb]
      rw [hro] at hin
      simp only [inLoop] at hin
      split at hin
      · rename_i s1 p1 ps1 x1 y1 e1 hget
        obtain ⟨r0, hr0, _⟩ := loop_upd hf.srel hl0 hget
        have n1 := loop_new hf.srel (env := env) (ps := ps) (x := x) (y := y) (r := { state := .ready, pending := none, fn, tmps := a.tmps, params := ps, assign := x, body := y, defers := r0.defers }) rfl rfl rfl rfl rfl hf.erel hfit'
        exact ⟨_, _, _, run_enterLoop_inner hr0 fn a.tmps ps x y, n1.1, n1.2, hf.marks.ext n1.2⟩
      · cases hin
  obtain ⟨lb, mark, w₁, hrun, hs1, hx1, hd1⟩ := enter
  refine ⟨lb, mark, w₁, { target := .fn (.func g) c', args := a' ++ #[.func (.yield lb) #[] #[]] }, w₁, g, a' ++ #[.func (.yield lb) #[] #[]] ++ c', w₁, hrun, ?_, fun _ _ => trivial, ?_, fun h => by simp [fen, Fence.wide] at h, callsIn_fen.2 ?_⟩
  · have hc1 : a.eval (.const (.func (.yield lb) #[] #[])) = .func (.yield lb) #[] #[] := rfl
    simp [resolve, hv, Deferred.ofValue, hc1]
  · obtain ⟨c, hb'⟩ := Option.isSome_iff_exists.1 hb
    have hne := hS.name g fnn hgf
    simp [invoke, callFunc, hgf, hb', hne]
  refine Calls.mono (hk w0 _ w₁ _ hs1 ?_).1 ?_
  · rw [Array.toList_append, Array.toList_append]
    refine ((hx1.vrs v1).append (VRs_cons.2 ⟨?_, VRs_nil⟩)).append (hx1.vrs v2)
    simp only [VR]
    exact ⟨_, _, _, rfl, ⟨by simp, by rw [Mput_same]⟩, by simp [VRs], by simp [VRs]⟩
  rintro e w₃ ⟨v, z, st', M', rfl, hq, _, hs', hx'⟩
  split at hq
  · exact hq.elim
  · rename_i s1 pend ps1 x1 y1 e1 hnb hget
    have hl : st.size < st'.size := get_lt (by rw [hget]; simp)
    obtain ⟨r, hr, hst, hpd, _⟩ := loop_upd hs' hl hget
    have hMl : (M' st.size).b = lb := by rw [hx'.map st.size (by simp), Mput_same]
    have hk := hs'.kill hl (by rw [hget]; rfl) (w' := w₃.putObj lb (.loop { r with state := .exhausted })) ⟨rfl, rfl, rfl, by simp⟩ (fun b _ hne => World.putObj_heap_other (by rw [← hMl]; exact hne))
    rw [hMl] at hr
    have hend := run_endLoop (P := P) hr (by rw [hst]; exact hnb)
    have hall := ((hx1.trans hx').trans hk.2).as st.dfs
    have hfr : FrameR w0 B ro rb M' ((st'.set st.size .dead).as st.dfs) (w₃.putObj lb (.loop { r with state := .exhausted })) nt env { a with defers := mark ++ a.defers } :=
      ⟨hk.1.as _, hf.erel.mono hall.size hall.map, hf.size, hd1.ext ((hx'.trans hk.2).as _), hf.plain, Nat.le_trans hf.base hall.heap, hf.ring.ext hall⟩
    generalize w₃.putObj lb (.loop { r with state := .exhausted }) = w₄ at hend hall hfr
    refine ⟨_, _, hend, ?_⟩
    rw [hpd]
    split at hq
    · exact ⟨.normal, _, _, _, rfl, hq, hfr, hx.trans hall⟩
    · exact wpIn_ret ⟨.ret, _, _, _, rfl, hq, hfr, hx.trans hall⟩
    · exact wpIn_exit ⟨.exit _, _, _, _, rfl, hq, hfr, hx.trans hall⟩
    · exact hq.elim
  · exact hq.elim

theorem evCode_sound (hS : Sane P) (hc : ∀ f args st Q, call f args st Q → CallOk P f args st Q) {rv : Nat} {k : Nat} : ∀ (c : Code), fits nt c = true →
    ∀ {K : X → Env → St → Prop} {lv : Nat} {ex : List (Nat × Nat)} {env : Env} {M : Map} {st : St} {w : World} {a : Act} {M0 : Map} {st0 : St} {wb : World},
      evCode P call Lfp rv ro c K lv ex env st → FrameR w0 B ro rb M st w nt env a → Ext M0 st0 wb M st w → c.wpIn (fen rb) k P (Post w0 B ro rb nt M0 st0 wb K) a w
  | .skip, _, _, _, _, _, _, _, _, _, _, _, _, h, hf, hx => wpIn_skip ⟨.normal, _, _, _, rfl, h, hf, hx⟩
  | .label _, _, _, _, _, _, _, _, _, _, _, _, _, h, hf, hx => wpIn_label ⟨.normal, _, _, _, rfl, h, hf, hx⟩
  | .exit id, _, _, _, _, _, _, _, _, _, _, _, _, h, hf, hx => wpIn_exit ⟨.exit id, _, _, _, rfl, h, hf, hx⟩
  | .ret, _, _, _, _, _, _, _, _, _, _, _, _, h, hf, hx => wpIn_ret ⟨.ret, _, _, _, rfl, h, hf, hx⟩
  | .goto _, _, _, _, _, _, _, _, _, _, _, _, _, h, _, _ => h.elim
  | .rangeFunc f ps x y, hfit, K, lv, ex, env, M, st, w, a, M0, st0, wb, h, hf, hx => by
    simp only [evCode] at h
    split at h
    · rename_i g first caps hg
      split at h
      · rename_i hin
        exact rangeFunc_sound hS hc hfit hg hin h hf hx
      · exact h.elim
    · exact h.elim
  | .refuse _, _, _, _, _, _, _, _, _, _, _, _, _, h, _, _ => h.elim
  | .scope b, hfit, _, _, _, _, _, _, _, _, _, _, _, h, hf, hx => wpIn_scope (evCode_sound hS hc b hfit h hf hx) (by rintro l a w ⟨z, _, _, _, hz, _⟩; cases z <;> simp [X.out] at hz)
  | .region _ ops draw, hfit, _, _, _, _, _, _, _, _, _, _, _, h, hf, hx => evRegion_sound hS hc hfit h hf hx
  | .seq x y, hfit, K, lv, ex, env, M, st, w, a, M0, st0, wb, h, hf, hx => by
    simp only [fits, Bool.and_eq_true] at hfit
    refine wpIn_seq (wpIn_mono (evCode_sound hS hc x hfit.1 h hf hx) ?_)
    rintro e a' w' ⟨z, env', st', M', rfl, hk, hf', hx'⟩
    cases z with
    | normal => exact evCode_sound hS hc y hfit.2 hk hf' hx'
    | exit i => exact ⟨.exit i, _, _, _, rfl, hk, hf', hx'⟩
    | ret => exact ⟨.ret, _, _, _, rfl, hk, hf', hx'⟩
  | .cond c x y, hfit, K, lv, ex, env, M, st, w, a, M0, st0, wb, h, hf, hx => by
    simp only [fits, Bool.and_eq_true] at hfit
    simp only [evCode] at h
    have hcv := hf.erel.opd c
    split at h
    · rename_i hb
      rw [hb] at hcv
      simp only [VR] at hcv
      exact wpIn_cond_true hcv (evCode_sound hS hc x hfit.1 h hf hx)
    · rename_i hb
      rw [hb] at hcv
      simp only [VR] at hcv
      exact wpIn_cond_false hcv (evCode_sound hS hc y hfit.2 h hf hx)
    · exact h.elim
  | .block id b, hfit, K, lv, ex, env, M, st, w, a, M0, st0, wb, h, hf, hx => by
    simp only [evCode] at h
    refine wpIn_block (wpIn_mono (evCode_sound hS hc b hfit h hf hx) ?_)
    rintro e a' w' ⟨z, env', st', M', rfl, hk, hf', hx'⟩
    cases z with
    | normal => exact ⟨.normal, _, _, _, rfl, hk, hf', hx'⟩
    | exit i =>
      simp only at hk
      simp only [X.out, Exit.inBlock]
      split
      · rw [if_pos ‹_›] at hk; exact ⟨.normal, _, _, _, rfl, hk, hf', hx'⟩
      · rw [if_neg ‹_›] at hk; exact ⟨.exit i, _, _, _, rfl, hk, hf', hx'⟩
    | ret => exact ⟨.ret, _, _, _, rfl, hk, hf', hx'⟩
  | .loop b, hfit, K, lv, ex, env, M, st, w, a, M0, st0, wb, h, hf, hx => by
    simp only [evCode] at h
    intro fr k' cs hro hb hr
    have key := h (fun vals s => ∀ (M : Map) (w : World) (a : Act), FrameR w0 B ro rb M s w nt (framed (bits (live rv b 0 ex)) vals) a → Ext M0 st0 wb M s w →
        ∃ e a' w', Post w0 B ro rb nt M0 st0 wb K e a' w' ∧ ArrivesIn (Machine.fenced P (fen rb)) P (lone (fr.atR a (.code b :: .inLoop b :: k')) cs w) fr k' cs e a' w') (fun vals s hF M w a hf hx => by
      obtain ⟨e, a₁, w₁, ⟨z, env', st', M', hz, hk, hf', hx'⟩, harr⟩ := evCode_sound hS hc (k := k) b hfit hF hf hx fr (.inLoop b :: k') cs hro hb hr
      subst hz
      cases z with
      | normal =>
        obtain ⟨e₂, a₂, w₂, hq₂, harr₂⟩ := hk M' w₁ a₁ ⟨hf'.srel, framed_rel hf'.erel _, hf'.size, hf'.marks, hf'.plain, hf'.base, hf'.ring⟩ hx'
        exact ⟨e₂, a₂, w₂, hq₂, .of_steps (StepsIn.trans harr (.one (fenced_calm hb hr rfl) stepR_inLoop)) harr₂⟩
      | exit i => exact ⟨_, a₁, w₁, ⟨.exit i, _, _, _, rfl, hk, hf', hx'⟩, .pass (x := .inLoop b) rfl (fun _ _ => .inl (by simp [X.out])) harr⟩
      | ret => exact ⟨_, a₁, w₁, ⟨.ret, _, _, _, rfl, hk, hf', hx'⟩, .pass (x := .inLoop b) rfl (fun _ _ => .inl (by simp [X.out])) harr⟩)
    obtain ⟨e, a', w', hq, harr⟩ := key M w a ⟨hf.srel, framed_rel hf.erel _, hf.size, hf.marks, hf.plain, hf.base, hf.ring⟩ hx
    exact ⟨e, a', w', hq, .of_steps (.one (fenced_calm hb hr rfl) stepR_loop) harr⟩

theorem putAll_rel {n : Nat} : ∀ (ps : List Tmp) (args : List AV) (vs : List Value) (env : Env) (tmps : Array Value), VRs M n args vs → ps.length = args.length → (∀ p ∈ ps, p < tmps.size) → ERel M n env tmps →
    ERel M n (putAll env ps args) ((ps.zip vs).foldl (fun tmps (p : Tmp × Value) => tmps.setIfInBounds p.1 p.2) tmps) ∧ ((ps.zip vs).foldl (fun tmps (p : Tmp × Value) => tmps.setIfInBounds p.1 p.2) tmps).size = tmps.size
  | [], [], vs, env, tmps, hv, _, _, he => by simp [VRs] at hv; subst hv; exact ⟨he, rfl⟩
  | p :: ps, v :: args, vs, env, tmps, hv, hl, hp, he => by
    simp only [VRs] at hv
    obtain ⟨u, us, rfl, h1, h2⟩ := hv
    obtain ⟨h3, h4⟩ := putAll_rel ps args us (env.put (some p) v) (tmps.setIfInBounds p u) h2 (by simpa using hl) (fun q hq => by simpa using hp q (by simp [hq])) (he.put (hp p (by simp)) h1)
    simp only [List.zip_cons_cons, List.foldl_cons, putAll]
    exact ⟨h3, by rw [h4]; simp⟩
  | [], _ :: _, _, _, _, _, hl, _, _ => by simp at hl
  | _ :: _, [], _, _, _, _, hl, _, _ => by simp at hl

theorem evRound_sound (hS : Sane P) (hc : ∀ f args st Q, call f args st Q → CallOk P f args st Q) {l : Nat} {args : List AV} {st : St} {Q : AV → St → Prop} (h : evRound P call Lfp l args st Q) : CallOk P (.yield l) args st Q := by
  unfold evRound at h
  split at h
  · rename_i s0 p0 ps x y env0 hget
    split at h
    · rename_i hlen
      have hl : l < st.size := get_lt (by rw [hget]; simp)
      refine ⟨hl, fun w0 M w args' hs hargs => ?_⟩
      obtain ⟨r, hr, _, _, hps, hasg, hbody, hE, hfits, _⟩ := loop_upd hs hl hget
      simp only [fits, Bool.and_eq_true] at hfits
      have hpl : ps.length = args.length := Nat.eq_of_beq_eq_true hlen
      refine ⟨r, hr, ?_, roundIn_of_wpIn (F := fen none) trivial ?_⟩
      · have := hargs.length
        simp at this
        have h2 : r.params.size = ps.length := by rw [← hps]; simp
        omega
      have hrel := putAll_rel ps args args'.toList env0 r.tmps hargs hpl (fun p hp => by
        have := Array.all_eq_true_iff_forall_mem.1 hfits.1.1 p (by rw [← hps] at hp; simpa using hp)
        simpa using this) hE
      have hfold : (r.params.zip args').foldl (fun tmps (t, a) => tmps.setIfInBounds t a) r.tmps = (ps.zip args'.toList).foldl (fun tmps (p : Tmp × Value) => tmps.setIfInBounds p.1 p.2) r.tmps := by
        rw [← hps, ← Array.toList_zip, Array.foldl_toList]
      rw [hasg, hbody, hfold]
      rw [hasg] at hfits
      rw [hbody] at hfits
      show x.wpIn (fen (some (M l).b)) 0 P _ _ w
      have hf0 : FrameR w0 w.heap.size (some l) (some (M l).b) M (st.as none) w r.tmps.size (putAll env0 ps args) { tmps := (ps.zip args'.toList).foldl (fun tmps (p : Tmp × Value) => tmps.setIfInBounds p.1 p.2) r.tmps, defers := [] } :=
        ⟨hs.as none, hrel.1, by rw [hrel.2]; exact Nat.le_refl _, rfl, fun h => absurd rfl h, Nat.le_refl _, ⟨fun h => (nomatch h), fun l' hl' => (by obtain rfl := Option.some.inj hl'; exact ⟨hl, rfl⟩)⟩⟩
      refine wpIn_mono (evCode_sound hS hc (k := 0) x hfits.1.2 h hf0 ((Ext.refl M st w).as none)) ?_
      rintro e a₁ w₁ ⟨z, env1, st1, M1, rfl, hk, hf1, hx1⟩
      cases z with
      | normal =>
        simp only at hk
        split at hk
        · rename_i p1 ps1 x1 y1 e1 hget1
          have hl1 : l < st1.size := get_lt (by rw [hget1]; simp)
          have hM1 : (M1 l).b = (M l).b := by rw [hx1.map l hl]
          obtain ⟨r1, hr1, hst1, hpd1, _, _, _, _, _, hup⟩ := loop_upd hf1.srel hl1 hget1
          obtain ⟨u1, u2⟩ := hup .busy p1
          rw [hM1] at hr1 u1 u2
          subst hpd1
          refine ⟨_, run_beginRound hr1 hst1, ?_⟩
          have hf2 : FrameR w0 w.heap.size (some l) (some (M l).b) M1 (st1.set l (.loop .busy r1.pending ps1 x1 y1 e1)) (w₁.putObj (M l).b (.loop { r1 with state := .busy })) r.tmps.size env1 a₁ :=
            ⟨u1, by have := hf1.erel.mono u2.size u2.map; exact this, hf1.size, hf1.marks.ext u2, hf1.plain, Nat.le_trans hf1.base u2.heap, hf1.ring.ext u2⟩
          refine wpIn_mono (evCode_sound hS hc (k := 0) y hfits.2 hk hf2 (hx1.trans u2)) ?_
          rintro e a₂ w₂ ⟨z, env2, st2, M2, rfl, hk, hf2, hx2⟩
          have fin : ∀ (jump : Option Code) (j : LoopState) (b : Bool), (if jump.isNone then .ready else .done) = j → jump.isNone = b →
              (match st2.get l with | .loop _ _ ps a b' env => Q (.bool b) (st2.set l (.loop j jump ps a b' env)) | _ => False) →
              ∃ v w', (Instr.endRound (M l).b jump).run P w₂ = .ok v w' ∧ CallPost w0 M st w Q (.returned v) w' := by
            intro jump j b hj hb hq
            subst hj hb
            split at hq
            · rename_i s2 p2 ps2 x2 y2 e2 hget2
              have hl2 : l < st2.size := get_lt (by rw [hget2]; simp)
              have hM2 : (M2 l).b = (M l).b := by rw [hx2.map l hl]
              obtain ⟨r2, hr2, _, _, _, _, _, _, _, hup⟩ := loop_upd hf2.srel hl2 hget2
              obtain ⟨v1, v2⟩ := hup (if jump.isNone then .ready else .done) jump
              rw [hM2] at hr2 v1 v2
              exact ⟨.bool jump.isNone, _, run_endRound jump hr2, .bool jump.isNone, .bool jump.isNone, _, M2, rfl, hq, by simp [VR], v1, hx2.trans v2⟩
            · exact hq.elim
          cases z with
          | normal => exact fin none .ready true rfl rfl (by unfold endRoundA at hk; exact hk)
          | exit i => exact fin (some (.exit i)) .done false rfl rfl (by unfold endRoundA at hk; exact hk)
          | ret => exact fin (some .ret) .done false rfl rfl (by unfold endRoundA at hk; exact hk)
        · exact hk.elim
      | exit i => exact hk.elim
      | ret => exact hk.elim
    · exact h.elim
  · exact h.elim

/-! A function's answer. -/
def resOne (tmps : Array Value) : ResultVar → Sem Value
  | .tmp t => pure (tmps.getD t undef)
  | .cell a t => do loadVar t (← asAddr (tmps.getD a undef))
theorem results_eq (fn : Func) (tmps : Array Value) : results fn tmps = (do
    let vs ← fn.results.mapM (resOne tmps)
    pure (if h : vs.size = 1 then vs[0] else .tuple vs)) := rfl
theorem resA_sound : ∀ (rs : List ResultVar) {env : Env} {tmps : Array Value} {vs : List AV}, resA P rs env st = some vs → SRel w0 M st w → ERel M st.size env tmps →
    ∃ us, (rs.mapM (resOne tmps)).run P w = .ok us w ∧ VRs M st.size vs us
  | [], _, _, _, h, _, _ => by
    simp only [resA, Option.some.injEq] at h
    subst h
    exact ⟨[], by simp, VRs_nil⟩
  | .tmp t :: r, env, tmps, vs, h, hs, he => by
    simp only [resA] at h
    obtain ⟨vs', h', rfl⟩ := Option.map_eq_some_iff.1 h
    obtain ⟨us, hr, hv⟩ := resA_sound r h' hs he
    exact ⟨tmps.getD t undef :: us, by simp only [List.mapM_cons, resOne, pure_bind, Sem.run_bind, hr, Result.andThen_ok, Sem.run_pure], VRs_cons.2 ⟨he t, hv⟩⟩
  | .cell a t :: r, env, tmps, vs, h, hs, he => by
    simp only [resA] at h
    split at h
    · rename_i v hl
      obtain ⟨vs', h', rfl⟩ := Option.map_eq_some_iff.1 h
      obtain ⟨us, hr, hv⟩ := resA_sound r h' hs he
      obtain ⟨y, hy, hvr⟩ := load_sound hl hs (he a)
      have hy2 : (do loadVar t (← asAddr (tmps.getD a undef)) : Sem Value).run P w = .ok y w := by
        have ha := he a
        unfold ldT at hl
        split at hl
        · rename_i id off hg
          rw [hg] at ha
          simp only [VR] at ha
          rw [ha.2] at hy ⊢
          simpa [Instr.loadAt, Instr.sureAddr, asAddr] using hy
        · cases hl
      exact ⟨y :: us, by simp only [List.mapM_cons, resOne, Sem.run_bind] at hy2 ⊢; simp only [hy2, hr, Result.andThen_ok, Sem.run_pure], VRs_cons.2 ⟨hvr, hv⟩⟩
    · cases h

theorem results_sound {fn : Func} {env : Env} {tmps : Array Value} {vs : List AV} (h : resA P fn.results.toList env st = some vs) (hs : SRel w0 M st w) (he : ERel M st.size env tmps) :
    ∃ u, (results fn tmps).run P w = .ok u w ∧ VR M st.size (answer vs) u := by
  obtain ⟨us, hr, hv⟩ := resA_sound fn.results.toList h hs he
  have hrun : (results fn tmps).run P w = .ok (if h : us.toArray.size = 1 then us.toArray[0] else .tuple us.toArray) w := by
    rw [results_eq, Array.mapM_eq_mapM_toList]
    simp only [Sem.run_bind, map_eq_pure_bind, hr, Result.andThen_ok, Sem.run_pure]
  refine ⟨_, hrun, ?_⟩
  match vs, us, hv with
  | [], us, hv =>
    simp only [VRs] at hv
    subst hv
    simp [answer, VR, VRs]
  | [x], us, hv =>
    obtain ⟨y, us', rfl, h1, h2⟩ := hv
    simp only [VRs] at h2
    subst h2
    simpa [answer] using h1
  | x :: y :: r, us, hv =>
    have hl := VRs.length hv
    simp only [List.length_cons] at hl
    rw [dif_neg (by simp; omega)]
    simp only [answer, VR]
    exact ⟨_, rfl, hv⟩

/-! The store as it stood. -/
mutual
theorem VR.back {M M' : Map} {n n' : Nat} (hM : ∀ i, i < n → M' i = M i) : ∀ (x : AV) (v v' : Value), VR M n x v → VR M' n' x v' → VR M n x v'
  | .bool _, _, _, _, h | .int _ _, _, _, _, h | .str _, _, _, _, h | .nilptr, _, _, _, h | .nilslice, _, _, _, h | .zslice, _, _, _, h | .nilmap, _, _, _, h | .nilfunc, _, _, _, h => by simpa [VR] using h
  | .ptr id off, _, _, h, h' => by simp only [VR] at h h' ⊢; rw [hM _ h.1] at h'; exact ⟨h.1, h'.2⟩
  | .slice .., _, _, h, h' => by simp only [VR] at h h' ⊢; rw [hM _ h.1] at h'; exact ⟨h.1, h'.2⟩
  | .eslice .., _, _, h, h' => by simp only [VR] at h h' ⊢; rw [hM _ h.1] at h'; exact ⟨h.1, h'.2⟩
  | .map _, _, _, h, h' => by simp only [VR] at h h' ⊢; rw [hM _ h.1] at h'; exact ⟨h.1, h'.2⟩
  | .iter _, _, _, h, h' => by simp only [VR] at h h' ⊢; rw [hM _ h.1] at h'; exact ⟨h.1, h'.2⟩
  | .func f a c, _, _, h, h' => by
    simp only [VR] at h h' ⊢
    obtain ⟨f1, a1, c1, e1, hf1, g1, k1⟩ := h
    obtain ⟨f2, a2, c2, e2, hf2, g2, k2⟩ := h'
    refine ⟨f2, a2, c2, e2, ?_, VRs.back hM _ _ _ g1 g2, VRs.back hM _ _ _ k1 k2⟩
    cases f <;> first | exact hf2 | (simp only at hf1 hf2 ⊢; rw [hM _ hf1.1] at hf2; exact ⟨hf1.1, hf2.2⟩)
  | .agg cs, _, _, h, h' => by simp only [VR] at h h' ⊢; obtain ⟨a1, e1, h1⟩ := h; obtain ⟨a2, e2, h2⟩ := h'; exact ⟨a2, e2, VRs.back hM _ _ _ h1 h2⟩
  | .tuple cs, _, _, h, h' => by simp only [VR] at h h' ⊢; obtain ⟨a1, e1, h1⟩ := h; obtain ⟨a2, e2, h2⟩ := h'; exact ⟨a2, e2, VRs.back hM _ _ _ h1 h2⟩
  | .unk, _, _, _, _ => by simp [VR]
theorem VRs.back {M M' : Map} {n n' : Nat} (hM : ∀ i, i < n → M' i = M i) : ∀ (x : List AV) (v v' : List Value), VRs M n x v → VRs M' n' x v' → VRs M n x v'
  | [], _, _, _, h => by simpa [VRs] using h
  | a :: as, _, _, h, h' => by
    simp only [VRs] at h h' ⊢
    obtain ⟨v, vs, _, h1, h2⟩ := h
    obtain ⟨u, us, e, g1, g2⟩ := h'
    exact ⟨u, us, e, VR.back hM _ _ _ h1 g1, VRs.back hM _ _ _ h2 g2⟩
end
theorem VRes.back {M M' : Map} {n n' : Nat} (hM : ∀ i, i < n → M' i = M i) : ∀ (x : List (AV × AV × Nat)) (v v' : List MapEntry), VRes M n x v → VRes M' n' x v' → VRes M n x v'
  | [], _, _, _, h => by simpa [VRes] using h
  | a :: as, _, _, h, h' => by
    simp only [VRes, VRe] at h h' ⊢
    obtain ⟨v, vs, _, ⟨h1, h2, _⟩, h4⟩ := h
    obtain ⟨u, us, e, ⟨g1, g2, g3⟩, g4⟩ := h'
    exact ⟨u, us, e, ⟨VR.back hM _ _ _ h1 g1, VR.back hM _ _ _ h2 g2, g3⟩, VRes.back hM _ _ _ h4 g4⟩
theorem ORel.back {B : Nat} {M M' : Map} {n n' : Nat} {o : AO} {p : Place} {w w' : World} (hM : ∀ i, i < n → M' i = M i) (h : ORel B M n o p w) (h' : ORel B M' n' o p w') : ORel B M n o p w' := by
  cases o with
  | dead => trivial
  | cells rw vs =>
    obtain ⟨c, e, fz, _, h2, _⟩ := h
    obtain ⟨c', e', fz', g1, g2, g3⟩ := h'
    refine ⟨c', e', fz', g1, fun i x hx => ?_, g3⟩
    obtain ⟨y, _, hy⟩ := h2 i x hx
    obtain ⟨z, hz, hz'⟩ := g2 i x hx
    exact ⟨z, hz, VR.back hM _ _ _ hy hz'⟩
  | map es clock =>
    obtain ⟨_, es1, _, h2⟩ := h
    obtain ⟨g0, es2, g1, g2⟩ := h'
    exact ⟨g0, es2, g1, VRes.back hM _ _ _ h2 g2⟩
  | iter m since seen last =>
    obtain ⟨_, sn, _, _, h3⟩ := h
    obtain ⟨g0, sn', g1, g2, _⟩ := h'
    refine ⟨g0, sn', ?_, g2, h3⟩
    rw [g1]
    cases m with
    | none => rfl
    | some m => simp only [Option.map_some]; rw [hM m (h3 m rfl)]
  | loop s pend ps assign body env =>
    obtain ⟨_, r, _, _, _, _, _, _, h8, _⟩ := h
    obtain ⟨g0, r', g1, g2, g3, g4, g5, g6, g7, g8⟩ := h'
    exact ⟨g0, r', g1, g2, g3, g4, g5, g6, fun t => VR.back hM _ _ _ (h8 t) (g7 t), g8⟩

/-- A value without a place, in whatever store. -/
theorem VR.flat1 {M M' : Map} {n n' : Nat} {x : AV} {v : Value} (hx : (match x with | .bool _ | .int .. | .str _ | .nilptr | .nilslice | .zslice | .nilmap | .nilfunc => true | _ => false) = true) (h : VR M n x v) : VR M' n' x v := by
  cases x <;> simp at hx <;> simpa [VR] using h
theorem VRs.flat {M M' : Map} {n n' : Nat} (p : AV → Bool) (hp : ∀ x v, p x = true → VR M n x v → VR M' n' x v) : ∀ {x : List AV} {v : List Value}, x.all p = true → VRs M n x v → VRs M' n' x v
  | [], _, _, h => by simpa [VRs] using h
  | a :: as, _, hx, h => by
    simp only [List.all_cons, Bool.and_eq_true] at hx
    simp only [VRs] at h ⊢
    obtain ⟨v, vs, e, h1, h2⟩ := h
    exact ⟨v, vs, e, hp _ _ hx.1 h1, VRs.flat p hp hx.2 h2⟩
theorem VR.flat {M M' : Map} {n n' : Nat} {x : AV} {v : Value} (hx : x.flat = true) (h : VR M n x v) : VR M' n' x v := by
  unfold AV.flat at hx
  split at hx <;> try (simpa [VR] using h)
  · simp only [VR] at h ⊢
    obtain ⟨c, e, h⟩ := h
    exact ⟨c, e, VRs.flat _ (fun x v hx => VR.flat1 hx) hx h⟩
  · simp only [VR] at h ⊢
    obtain ⟨c, e, h⟩ := h
    refine ⟨c, e, VRs.flat _ (fun x v hx h => ?_) hx h⟩
    split at hx <;> try (simpa [VR] using h)
    · simp only [VR] at h ⊢
      obtain ⟨c, e, h⟩ := h
      exact ⟨c, e, VRs.flat _ (fun x v hx => VR.flat1 hx) hx h⟩
    · cases hx
  · cases hx

/-- A frame of whatever kind on its way out, its deferred calls made. -/
theorem leaves_going {F : Fence} {n : Nat} {fn : Func} {tmps : Array Value} {R : Ending → World → Prop} (ds : List Deferred) : ∀ (u : FrameMode) (w : World) (fr : Frame) (cs : List Frame), fr.mode = u → fr.defers = ds → fr.tmps = tmps → P.funcs[fr.fn]? = some fn → F.fn fr.fn →
    F.room (cs.length + 1 + n) → LeavesInM F n P fn tmps R ds u w →
    ∃ e w' fr', R e w' ∧ ComesIn (Machine.fenced P F) P (lone fr cs w) (lone fr' cs w') e ∧ fr'.fn = fr.fn ∧ fr'.kind = fr.kind ∧ fr'.going P w' e := by
  induction ds with
  | nil =>
    intro u w fr cs hu hd ht hf _ _ h
    cases u with
    | run => exact h.elim
    | returning =>
      obtain ⟨v, hr, hR⟩ := h
      exact ⟨.returned v, w, fr, hR, StepsIn.refl _, rfl, rfl, hu, hd, fn, hf, ht ▸ hr⟩
    | panicking chain => exact ⟨.panicked chain, w, fr, h, StepsIn.refl _, rfl, rfl, hu, hd, fn, hf⟩
  | cons d ds ih =>
    intro u w fr cs hu hd ht hf hb hroom h
    obtain ⟨hrun, h⟩ := h
    have hm : fr.mode ≠ .run := by rw [hu]; exact hrun
    rcases h with ⟨r, w', htar, htake, hrest⟩ | ⟨hn, fv, cap, g, args, htar, hinv, hlead, hFf, hcall⟩
    · have s1 := step_collected (cs := cs) hm hd htar htake
      have i1 : (lone fr cs w).fenced P F := fenced_out hb hroom hm hd (fun g hg => by rw [htar] at hg; simp [Target.leads] at hg)
      obtain ⟨e, w'', fr', hR, hs, h1, h2, h3⟩ := ih u w' { fr with defers := [] ++ ds } cs hu rfl ht hf hb hroom hrest
      exact ⟨e, w'', fr', hR, ComesIn.of_steps (.one i1 s1) hs, h1, h2, h3⟩
    · have i1 : (lone fr cs w).fenced P F := fenced_out hb hroom hm hd hlead
      have s1 := step_defer (cs := cs) hm hd htar hinv
      have hroom' : F.room (({ fr with defers := ds } :: cs).length + 1 + (n - 1)) := Fence.room_enter hroom hn
      obtain ⟨e, u', w', frX, hR, hsteps, hkX, hfX, hgo⟩ := hcall { fr with defers := ds } cs hu hroom'
      cases e with
      | outgrown => exact ⟨.outgrown, w', fr, hR, Outgrown.of_steps (.one s1) hsteps, rfl, rfl, trivial⟩
      | returned v =>
        have i2 : (lone frX ({ { fr with defers := ds } with mode := u' } :: cs) w').fenced P F := fenced_going (n := n - 1) (hfX ▸ hFf) hroom' hgo
        have s2 := step_going_returned (c := { { fr with defers := ds } with mode := u' }) (cs := cs) hkX hgo
        obtain ⟨e', w'', fr', hR', hs', h1, h2, h3⟩ := ih (settle u') w' { { { fr with defers := ds } with mode := u' } with mode := settle u' } cs rfl rfl ht hf hb hroom hR
        exact ⟨e', w'', fr', hR', ComesIn.of_steps (.head i1 s1 (StepsIn.trans hsteps (.one i2 s2))) hs', h1, h2, h3⟩
      | panicked chain =>
        have i2 : (lone frX ({ { fr with defers := ds } with mode := u' } :: cs) w').fenced P F := fenced_going (n := n - 1) (hfX ▸ hFf) hroom' hgo
        have s2 := step_going_panicked (c := { { fr with defers := ds } with mode := u' }) (cs := cs) hgo
        obtain ⟨e', w'', fr', hR', hs', h1, h2, h3⟩ := ih (raised u' chain) w' { { { fr with defers := ds } with mode := u' } with mode := raised u' chain } cs rfl rfl ht hf hb hroom hR
        exact ⟨e', w'', fr', hR', ComesIn.of_steps (.head i1 s1 (StepsIn.trans hsteps (.one i2 s2))) hs', h1, h2, h3⟩

/-- A deferred call's contract from its body. -/
theorem callsD_of_wp {F : Fence} {n : Nat} {f : FuncId} {fn : Func} {c : Code} {args : Array Value} {u : FrameMode} {w : World} {R : Ending → World → Prop} (hf : P.funcs[f]? = some fn) (hb : fn.body = some c) (hF : F.fn f)
    (h : c.wpIn F n P (bodyPostM F n P fn R) { tmps := args ++ Array.replicate (fn.ntmps - args.size) undef, defers := [] } w) (hro : F.round = none) : CallsDIn F n P f args u w fun e u' w' => u' = u ∧ R e w' := by
  refine ⟨hF, fun c₀ cs hu hr => ?_⟩
  let b : Frame := { (default : Frame) with fn := f, kind := .deferred, roundOf := none }
  have henter : Frame.enter P f args .deferred = b.atR { tmps := args ++ Array.replicate (fn.ntmps - args.size) undef, defers := [] } [.code c] := by simp [Frame.enter, Frame.atR, hf, hb, b]
  have hc : ({ c₀ with mode := u } : Frame) = c₀ := by subst hu; rfl
  obtain ⟨e, a', w', hq, harr⟩ := h b [] (c₀ :: cs) hro.symm hF hr
  rw [← henter] at harr
  cases e with
  | normal =>
    obtain ⟨e', w'', fr', hR, hs, h1, h2, h3⟩ := leaves_going a'.defers .returning w' { b.atR a' [] with mode := .returning } (c₀ :: cs) rfl rfl rfl hf hF hr hq
    exact ⟨e', u, w'', fr', ⟨rfl, hR⟩, by rw [hc]; exact ComesIn.of_steps (StepsIn.trans harr (.one (fenced_calm (fr := b.atR a' []) hF hr rfl) (stepR_end rfl))) hs, h2, h1, h3⟩
  | ret =>
    obtain ⟨todo, hs₀⟩ := harr.1 rfl
    obtain ⟨e', w'', fr', hR, hs, h1, h2, h3⟩ := leaves_going a'.defers .returning w' { b.atR a' todo with mode := .returning } (c₀ :: cs) rfl rfl rfl hf hF hr hq
    exact ⟨e', u, w'', fr', ⟨rfl, hR⟩, by rw [hc]; exact ComesIn.of_steps hs₀ hs, h2, h1, h3⟩
  | panic chain =>
    obtain ⟨todo, hs₀⟩ := harr
    obtain ⟨e', w'', fr', hR, hs, h1, h2, h3⟩ := leaves_going a'.defers (.panicking chain) w' { b.atR a' todo with mode := .panicking chain } (c₀ :: cs) rfl rfl rfl hf hF hr hq
    exact ⟨e', u, w'', fr', ⟨rfl, hR⟩, by rw [hc]; exact ComesIn.of_steps hs₀ hs, h2, h1, h3⟩
  | exit id => exact hq.elim
  | goto l => exact hq.elim
  | outgrown => exact ⟨.outgrown, u, w', b, ⟨rfl, hq⟩, harr.resolve_left (by simp [b]), rfl, rfl, trivial⟩

/-- What was deferred is called; marks are passed; the answer is handed over. -/
theorem leaves_sound (hS : Sane P) (hc : ∀ f args st Q, call f args st Q → CallOk P f args st Q) {fn : Func} {env : Env} {tmps : Array Value} {k : Nat} {R : Ending → World → Prop} {Q : AV → St → Prop} {M0 : Map} {st0 : St} {wb : World} (hB : wb.heap.size ≤ B) (hB0 : w0.heap.size ≤ B)
    (hR : ∀ (u : Value) (v : AV) (st' : St) (M' : Map) (w' : World), Q v st' → VR M' st'.size v u → SRel w0 M' st' w' → Ext M0 st0 wb M' st' w' → R (.returned u) w') :
    ∀ {ds : List Deferred} {l : List AV} {M : Map} {st : St} {w : World}, SRel w0 M st w → Ext M0 st0 wb M st w → ERel M st.size env tmps → DRs B M st w ds l →
      evDefers call l st (fun st' => match resA P fn.results.toList env st' with | some vs => Q (answer vs) (st'.as (some [])) | none => False) → LeavesInM (fen none) k P fn tmps R ds .returning w
  | [], l, M, st, w, hs, hx, he, hd, h => by
    simp only [DRs] at hd
    subst hd
    simp only [evDefers] at h
    split at h
    · rename_i vs hres
      obtain ⟨u, hu, hv⟩ := results_sound hres hs he
      exact ⟨u, hu, hR u _ _ M w h hv (hs.as _) (hx.as _)⟩
    · exact h.elim
  | d :: ds, l, M, st, w, hs, hx, he, .inl ⟨⟨r, h1, h2, h3, h4, h5⟩, hd⟩, h => by
    have hlt : r < w.heap.size := (Array.getElem?_eq_some_iff.1 h3).1
    refine ⟨by simp, .inl ⟨r, w.putObj r (.deferred none), h1, run_takeDeferred h3, ?_⟩⟩
    have hs' : SRel w0 M st (w.putObj r (.deferred none)) := by
      refine ⟨hs.below.trans ⟨rfl, rfl, rfl, by simp, fun k hk => World.putObj_heap_other (by omega)⟩, fun id hid => (hs.objs id hid).world fun _ => World.putObj_heap_other (fun e => h4 id hid e), hs.inj, fun i hi => by simpa using hs.bnd i hi⟩
    have hx' : Ext M0 st0 wb M st (w.putObj r (.deferred none)) := by
      refine ⟨hx.size, hx.map, by simpa using hx.heap, fun b hb hno => ?_, hx.fresh⟩
      rw [World.putObj_heap_other (by omega)]; exact hx.frame b hb hno
    have hd' : ∀ {ds : List Deferred} {l : List AV}, DRs B M st w ds l → (∀ e ∈ ds, e.target ≠ .collected r) → DRs B M st (w.putObj r (.deferred none)) ds l := by
      intro ds
      induction ds with
      | nil => exact fun h _ => h
      | cons e es ih =>
        rintro l (⟨⟨q, q1, q2, q3, q4, q5⟩, qd⟩ | ⟨g, f1, c1, l', c2, e1, e2, e3, e4, qd⟩) hne
        · refine .inl ⟨⟨q, q1, q2, ?_, q4, q5⟩, ih qd fun e he => hne e (List.mem_cons_of_mem _ he)⟩
          rw [World.putObj_heap_other fun e2 => hne e (List.mem_cons_self ..) (by rw [q1, e2])]; exact q3
        · exact .inr ⟨g, f1, c1, l', c2, e1, e2, e3, e4, ih qd fun e he => hne e (List.mem_cons_of_mem _ he)⟩
    exact leaves_sound hS hc hB hB0 hR hs' hx' he (hd' hd h5) h
  | d :: ds, l, M, st, w, hs, hx, he, .inr ⟨g, first, caps, l', caps', e, h1, h2, h3, hd⟩, h => by
    subst e
    simp only [evDefers] at h
    obtain ⟨⟨fnn, hgf, hb⟩, hk⟩ := hc _ _ _ _ h
    obtain ⟨c, hb'⟩ := Option.isSome_iff_exists.1 hb
    have hne := hS.name g fnn hgf
    have hcall := (hk w0 M w (d.args ++ caps') hs (by rw [Array.toList_append]; exact h2.append h3)).2 .returning
    refine ⟨by simp, .inr ⟨fun h => by simp [fen, Fence.wide] at h, .func g, caps', g, d.args ++ caps', h1, by rw [h1]; simp [invoke, callFunc, hgf, hb', hne], fun _ _ => trivial, trivial, fun c cs hu _ => ?_⟩⟩
    obtain ⟨e, u', w', fr, ⟨hu', v, x, st', M', he', hq, hv, hs', hx'⟩, hrest⟩ := hcall.2 c cs hu (fen_room _ _)
    subst hu' he'
    refine ⟨_, _, w', fr, ?_, hrest⟩
    exact leaves_sound hS hc hB hB0 hR hs' (hx.trans hx') (he.mono hx'.size hx'.map) (hd.ext hx') hq

theorem enterA_get : ∀ (l : List AV) (i t : Nat), (enterA l i).get t = if i ≤ t then (l[t - i]?).getD .unk else .unk
  | [], i, t => by simp [enterA, Env.get]
  | v :: r, i, t => by
    simp only [enterA, Env.get]
    by_cases h : i = t
    · subst h; simp
    · have : Nat.beq i t = false := by rw [← Bool.not_eq_true]; intro hh; exact h (Nat.eq_of_beq_eq_true hh)
      rw [this]
      simp only
      rw [enterA_get r (i + 1) t]
      by_cases h2 : i ≤ t
      · have e : t - i = (t - (i + 1)) + 1 := by omega
        rw [if_pos (by omega), if_pos h2, e, List.getElem?_cons_succ]
      · rw [if_neg (by omega), if_neg h2]

theorem evCall_sound (hS : Sane P) (hc : ∀ f args st Q, call f args st Q → CallOk P f args st Q) {f : Fn} {args : List AV} {st : St} {Q : AV → St → Prop} (h : evCall P call Lfp f args st Q) : CallOk P f args st Q := by
  unfold evCall at h
  split at h
  · rename_i g
    split at h
    · rename_i fn hg
      split at h
      · rename_i c hb
        refine ⟨⟨fn, hg, by rw [hb]; rfl⟩, fun w0 M w args' hs hargs => ?_⟩
        have hfr : FrameR w0 w.heap.size none none M (st.as (some [])) w fn.ntmps (enterA args 0) { tmps := args' ++ Array.replicate (fn.ntmps - args'.size) undef, defers := [] } := by
          refine ⟨hs.as _, ?_, by simp; omega, rfl, fun _ => rfl, Nat.le_refl _, fun _ => rfl, fun l hl => by cases hl⟩
          intro t
          have := enterA_get args 0 t
          rw [this]
          rcases Nat.lt_or_ge t args.length with hlt | hge
          · obtain ⟨y, hy, hv⟩ := hargs.get (List.getElem?_eq_getElem hlt)
            have hlt' : t < args'.size := by have := hargs.length; simp at this; omega
            simp [hlt, hlt'] at hy ⊢
            rw [Array.getElem?_append_left hlt']
            rw [← hy] at hv
            have e : (st.as (some [])).size = st.size := rfl
            rw [e]
            simpa [hlt'] using hv
          · simp [hge, VR]
        have key : c.wpIn (fen none) 0 P (bodyPostM (fen none) 0 P fn (CallPost w0 M st w Q)) { tmps := args' ++ Array.replicate (fn.ntmps - args'.size) undef, defers := [] } w := by
          refine wpIn_mono (evCode_sound hS hc (k := 0) c (hS.fits g fn c hg hb) h hfr ((Ext.refl M st w).as _)) ?_
          have ret : ∀ (env' : Env) (st' : St) (M' : Map) (a' : Act) (w' : World), (evDefers call (st'.dfs.getD []) st' fun st' => match resA P fn.results.toList env' st' with | some vs => Ret st Q (answer vs) (st'.as (some [])) | none => False) →
              FrameR w0 w.heap.size none none M' st' w' fn.ntmps env' a' → Ext M st w M' st' w' → LeavesInM (fen none) 0 P fn a'.tmps (CallPost w0 M st w Q) a'.defers .returning w' := fun env' st' M' a' w' hk hf hx => by
            have hd : DRs w.heap.size M' st' w' a'.defers (st'.dfs.getD []) := by
              have := hf.marks
              cases hdf : st'.dfs with
              | none => rw [hdf] at this; simp only [DR] at this; rw [this]; rfl
              | some l => rw [hdf] at this; exact this
            refine leaves_sound hS hc (Nat.le_refl _) hs.base (Q := Ret st Q) (fun u v st'' M'' w'' hq hv hs' hx' => ?_) hf.srel hx hf.erel hd hk
            rcases hq with hq | ⟨hflat, hold, hq⟩
            · exact ⟨u, _, _, _, rfl, hq, hv, hs', hx'⟩
            · refine ⟨u, _, st, M, rfl, hq, hv.flat hflat, ⟨hs'.below, fun id hid => ?_, hs.inj, fun i hi => Nat.lt_of_lt_of_le (hs.bnd i hi) hx'.heap⟩, ⟨Nat.le_refl _, fun _ _ => rfl, hx'.heap, hx'.frame, fun i h h' => by omega⟩⟩
              have h1 := hs'.objs id (Nat.lt_of_lt_of_le hid hx'.size)
              rw [hold id hid, hx'.map id hid] at h1
              exact (hs.objs id hid).back hx'.map h1
          rintro e a' w' ⟨z, env', st', M', rfl, hk, hf', hx'⟩
          cases z with
          | normal => exact ret env' st' M' a' w' hk hf' hx'
          | exit i => exact hk.elim
          | ret => exact ret env' st' M' a' w' hk hf' hx'
        exact ⟨callsIn_fen (ro := none) (n := 0).1 (callsIn_of_wp_marks hg hb trivial key), fun u => callsD_of_wp hg hb trivial key rfl⟩
      · exact h.elim
    · exact h.elim
  · exact evRound_sound hS hc h
  · exact h.elim

theorem Run.sound (hS : Sane P) {f : Fn} {args : List AV} {st : St} {Q : AV → St → Prop} (h : Run P f args st Q) : CallOk P f args st Q :=
  h (CallOk P) fun _ _ _ _ h => evCall_sound hS (fun _ _ _ _ h => h) h
end
end Go.Ab
