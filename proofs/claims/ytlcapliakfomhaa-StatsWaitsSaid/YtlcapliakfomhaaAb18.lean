/- THE ABSTRACT EVALUATOR, 18: frames; one operation, a call too, on the machine; a region in order. -/
import Derived.Test.YtlcapliakfomhaaAb16
import Derived.Test.YtlcapliakfomhaaAb17
import Derived.RangeFuncLeaves
import Derived.RangeFuncRecord
namespace Go.Ab
open Go.RowKit (Below)
variable {P : Program} {M : Map} {n : Nat} {st : St} {w0 w : World} {B : Nat} {ro rb : Option Nat}

/-- The fence: none; whether in a round of a range over a function. -/
def fen (ro : Option Nat) : Fence := { Fence.wide with round := ro }
theorem fen_room (ro : Option Nat) (n : Nat) : (fen ro).room n := fun _ h => by simp [fen, Fence.wide] at h
theorem callsIn_fen {ro : Option Nat} {n : Nat} {f : FuncId} {args : Array Value} {R : Ending → World → Prop} : CallsIn (fen ro) n P f args w R ↔ Calls P f args w R :=
  callsIn_wide (n := n)

theorem SRel.as (h : SRel w0 M st w) (d : Option (List AV)) : SRel w0 M (st.as d) w := ⟨h.below, h.objs, h.inj, h.bnd⟩
theorem Ext.as {M' : Map} {st' : St} {w' : World} (h : Ext M st w M' st' w') (d : Option (List AV)) : Ext M st w M' (st'.as d) w' := ⟨h.size, h.map, h.heap, h.frame, h.fresh⟩
theorem Ext.asl {M' : Map} {st' : St} {w' : World} (h : Ext M st w M' st' w') (d : Option (List AV)) : Ext M (st.as d) w M' st' w' := ⟨h.size, h.map, h.heap, h.frame, h.fresh⟩

/-- A frame's deferred calls: marks (blocks of their own, from the call's first on), and what the evaluator has deferred. -/
def DRs (B : Nat) (M : Map) (st : St) (w : World) : List Deferred → List AV → Prop
  | [], l => l = []
  | d :: ds, l => ((∃ r, d.target = .collected r ∧ B ≤ r ∧ w.heap[r]? = some (.deferred (some [])) ∧ (∀ i, i < st.size → (M i).b ≠ r) ∧ ∀ e ∈ ds, e.target ≠ .collected r) ∧ DRs B M st w ds l) ∨
      ∃ g first caps l' caps', l = .func (.func g) first caps :: l' ∧ d.target = .fn (.func g) caps' ∧ VRs M st.size first d.args.toList ∧ VRs M st.size caps caps'.toList ∧ DRs B M st w ds l'
def DR (B : Nat) (M : Map) (st : St) (w : World) (ds : List Deferred) (o : Option (List AV)) : Prop :=
  match o with
  | none => ds = []
  | some l => DRs B M st w ds l
theorem DRs.ext {M' : Map} {st' : St} {w' : World} (h : Ext M st w M' st' w') : ∀ {ds : List Deferred} {l : List AV}, DRs B M st w ds l → DRs B M' st' w' ds l
  | [], _, hd => hd
  | d :: ds, _, .inl ⟨⟨r, h1, h2, h3, h4, h5⟩, hd⟩ => by
    have hlt : r < w.heap.size := (Array.getElem?_eq_some_iff.1 h3).1
    refine .inl ⟨⟨r, h1, h2, by rw [h.frame r hlt h4]; exact h3, fun i hi e => ?_, h5⟩, DRs.ext h hd⟩
    by_cases hi' : i < st.size
    · rw [h.map i hi'] at e; exact h4 i hi' e
    · rcases h.fresh i (by omega) hi with hf | ⟨j, hj, hf⟩
      · omega
      · exact h4 j hj (hf ▸ e)
  | d :: ds, _, .inr ⟨g, first, caps, l', caps', e, h1, h2, h3, hd⟩ => .inr ⟨g, first, caps, l', caps', e, h1, h.vrs h2, h.vrs h3, DRs.ext h hd⟩
theorem DR.ext {M' : Map} {st' : St} {w' : World} (h : Ext M st w M' st' w') {ds : List Deferred} {o : Option (List AV)} (hd : DR B M st w ds o) : DR B M' st' w' ds o := by
  cases o with
  | none => exact hd
  | some l => exact DRs.ext h hd

/-- The loop in whose round we are, on both sides. -/
def Ring (ro rb : Option Nat) (M : Map) (st : St) : Prop := (ro = none → rb = none) ∧ ∀ l, ro = some l → l < st.size ∧ rb = some (M l).b
theorem Ring.ext {ro rb : Option Nat} {M' : Map} {st' : St} {w' : World} (h : Ring ro rb M st) (hx : Ext M st w M' st' w') : Ring ro rb M' st' :=
  ⟨h.1, fun l hl => ⟨Nat.lt_of_lt_of_le (h.2 l hl).1 hx.size, by rw [hx.map l (h.2 l hl).1]; exact (h.2 l hl).2⟩⟩

structure FrameR (w0 : World) (B : Nat) (ro rb : Option Nat) (M : Map) (st : St) (w : World) (nt : Nat) (env : Env) (a : Act) : Prop where
  srel : SRel w0 M st w
  erel : ERel M st.size env a.tmps
  size : nt ≤ a.tmps.size
  marks : DR B M st w a.defers st.dfs
  plain : st.dfs ≠ none → rb = none
  base : B ≤ w.heap.size
  ring : Ring ro rb M st

theorem FrameR.put {nt : Nat} {env : Env} {a : Act} (h : FrameR w0 B ro rb M st w nt env a) {M' : Map} {st' : St} {w' : World} (hs : SRel w0 M' st' w') (hx : Ext M st w M' st' w') {dst : Option Tmp} (hd : ∀ d, dst = some d → d < nt)
    {x : AV} {v : Value} (hv : VR M' st'.size x v) {ds : List Deferred} (hds : DR B M' st' w' ds st'.dfs) (hi : st'.dfs ≠ none → st.dfs ≠ none) : FrameR w0 B ro rb M' st' w' nt (env.put dst x) (({ a with defers := ds } : Act).put dst v) := by
  cases dst with
  | none => exact ⟨hs, h.erel.mono hx.size hx.map, h.size, hds, fun hn => h.plain (hi hn), Nat.le_trans h.base hx.heap, h.ring.ext hx⟩
  | some d => exact ⟨hs, (h.erel.mono hx.size hx.map).put (Nat.lt_of_lt_of_le (hd d rfl) h.size) hv, by simpa [Act.put] using h.size, hds, fun hn => h.plain (hi hn), Nat.le_trans h.base hx.heap, h.ring.ext hx⟩

theorem SRel.drew (h : SRel w0 M st w) (k : Nat) : SRel w0 M st { w with drawn := k } :=
  ⟨h.below.trans ⟨rfl, rfl, rfl, Nat.le_refl _, fun _ _ => rfl⟩, fun id hid => (h.objs id hid).world fun _ => rfl, h.inj, h.bnd⟩
theorem Ext.drew (M : Map) (st : St) (w : World) (k : Nat) : Ext M st w M st { w with drawn := k } :=
  ⟨Nat.le_refl _, fun _ _ => rfl, Nat.le_refl _, fun _ _ _ => rfl, fun i h h' => by omega⟩

/-- What a call brings. -/
def CallPost (w0 : World) (M : Map) (st : St) (w : World) (Q : AV → St → Prop) (e : Ending) (w' : World) : Prop :=
  ∃ v x st' M', e = .returned v ∧ Q x st' ∧ VR M' st'.size x v ∧ SRel w0 M' st' w' ∧ Ext M st w M' st' w'
def CallOk (P : Program) : CallP := fun f args st Q => match f with
  | .func g => (∃ fn, P.funcs[g]? = some fn ∧ fn.body.isSome = true) ∧
      ∀ (w0 : World) (M : Map) (w : World) (args' : Array Value), SRel w0 M st w → VRs M st.size args args'.toList → Calls P g args' w (CallPost w0 M st w Q) ∧
        ∀ u, CallsDIn (fen none) 0 P g args' u w fun e u' w' => u' = u ∧ CallPost w0 M st w Q e w'
  | .yield l => l < st.size ∧ ∀ (w0 : World) (M : Map) (w : World) (args' : Array Value), SRel w0 M st w → VRs M st.size args args'.toList →
      ∃ r : Loop, w.heap[(M l).b]? = some (.loop r) ∧ args'.size = r.params.size ∧
        RoundIn (fen none) 0 P (M l).b r.fn ((r.params.zip args').foldl (fun tmps (t, a) => tmps.setIfInBounds t a) r.tmps) r.assign r.body w (CallPost w0 M st w Q)
  | _ => False

/-- What the program must be. -/
structure Sane (P : Program) : Prop where
  mixed : P.follows .mixedOrders = true
  name : ∀ (g : Nat) (fn : Func), P.funcs[g]? = some fn → fn.name ≠ "runtime.NumGoroutine"
  fits : ∀ (g : Nat) (fn : Func) (c : Code), P.funcs[g]? = some fn → fn.body = some c → Ab.fits fn.ntmps c = true
/-- To be told by looking. -/
def saneB (P : Program) : Bool := P.follows .mixedOrders && P.funcs.all fun fn => fn.name != "runtime.NumGoroutine" && match fn.body with | some c => Ab.fits fn.ntmps c | none => true
theorem Sane.of (h : saneB P = true) : Sane P := by
  simp only [saneB, Bool.and_eq_true, Array.all_eq_true_iff_forall_mem] at h
  refine ⟨h.1, fun g fn hg => ?_, fun g fn c hg hc => ?_⟩
  · have := (h.2 fn (Array.mem_of_getElem? hg)).1
    simpa using this
  · have := (h.2 fn (Array.mem_of_getElem? hg)).2
    rw [hc] at this
    exact this

theorem evOp_sound {call : CallP} (hS : Sane P) (hc : ∀ f args st Q, call f args st Q → CallOk P f args st Q) {env : Env} {o : Oper} {a : Act} {K : AV → St → Prop} (h : evOp P call env o st K)
    (hs : SRel w0 M st w) (ho : OpR M st.size env a o.op) {rf : Option Nat} {k : Nat} {next : Act → World → Prop} {Q : Exit → Act → World → Prop} (hm : DR B M st w a.defers st.dfs) (hp : st.dfs ≠ none → rf = none)
    (hn : ∀ x st' M' w' v ds, K x st' → VR M' st'.size x v → SRel w0 M' st' w' → Ext M st w M' st' w' → DR B M' st' w' ds st'.dfs → (st'.dfs ≠ none → st.dfs ≠ none) → next (({ a with defers := ds } : Act).put o.dst v) w') : o.wpIn (fen rf) k P a w next Q := by
  refine ⟨fun _ _ => trivial, ?_⟩
  show o.uponIn (fen rf) k P a next Q ((o.semAt rf a.eval).run P w)
  unfold evOp at h
  split at h
  · rename_i f args argTypes hop
    have hsem : o.semAt rf a.eval = execOp a.eval o := Oper.semAt_eq rf _ o (fun c => by rw [hop]; simp)
    rw [hsem]
    split at h
    · rename_i l first hf
      obtain ⟨hl, hk⟩ := hc _ _ _ _ h
      have hv := ho f (by rw [hop]; simp [Op.operands, Call.operands])
      rw [hf] at hv
      simp only [VR] at hv
      obtain ⟨f', a', c', hv, ⟨_, rfl⟩, h1, h2⟩ := hv
      have hargs : VRs M st.size (first ++ args.toList.map (opd env)) (a' ++ args.map a.eval).toList := by
        rw [Array.toList_append]
        exact h1.append (builtin_args fun x hx => ho x (by rw [hop]; simp [Op.operands, Call.operands, hx]))
      obtain ⟨r, hr, hsz, hround⟩ := hk w0 M w _ hs hargs
      have hrun : (execOp a.eval o).run P w = .ok (.round (M l).b r.fn ((r.params.zip (a' ++ args.map a.eval)).foldl (fun tmps (t, a) => tmps.setIfInBounds t a) r.tmps) r.assign r.body) w := by
        unfold execOp
        rw [hop]
        have := run_yield (P := P) hr hsz
        simp only [resolve, hv, Deferred.ofValue, Sem.run_bind, Sem.run_pure, Result.andThen_ok, invoke]
        exact this
      rw [hrun, Oper.uponIn_round]
      refine ⟨fun h => by simp [fen, Fence.wide] at h, trivial, fun c cs _ => ?_⟩
      obtain ⟨e, w', hR, hcomes⟩ := hround.2 c cs (fen_room _ _)
      obtain ⟨v, x, st', M', rfl, hq, hvr, hs', hx⟩ := hR
      exact ⟨.returned v, w', hn x _ M' w' v a.defers hq hvr (hs'.as _) (hx.as _) (hm.ext (hx.as _)) id, hcomes⟩
    · rename_i g first caps hf
      have hk := hc _ _ _ _ h
      obtain ⟨⟨fnn, hg, hb⟩, hk⟩ := hk
      have hv := ho f (by rw [hop]; simp [Op.operands, Call.operands])
      rw [hf] at hv
      simp only [VR] at hv
      obtain ⟨f', a', c', hv, rfl, h1, h2⟩ := hv
      have hargs : VRs M st.size (first ++ args.toList.map (opd env) ++ caps) (a' ++ args.map a.eval ++ c').toList := by
        rw [Array.toList_append, Array.toList_append]
        exact (h1.append (builtin_args fun x hx => ho x (by rw [hop]; simp [Op.operands, Call.operands, hx]))).append h2
      have hrun : (execOp a.eval o).run P w = .ok (.enter g (a' ++ args.map a.eval ++ c')) w := by
        unfold execOp
        rw [hop]
        obtain ⟨c, hb'⟩ := Option.isSome_iff_exists.1 hb
        have hne := hS.name g fnn hg
        simp [resolve, hv, Deferred.ofValue, invoke, callFunc, hg, hb', hne]
      rw [hrun, Oper.uponIn_enter]
      refine ⟨fun h => by simp [fen, Fence.wide] at h, callsIn_fen.2 ?_⟩
      refine Calls.mono (hk w0 M w _ hs hargs).1 ?_
      rintro e w' ⟨v, x, st', M', rfl, hq, hvr, hs', hx⟩
      exact hn x _ M' w' v a.defers hq hvr (hs'.as _) (hx.as _) (hm.ext (hx.as _)) id
    · exact h.elim
  · rename_i it hop
    have hsem : o.semAt rf a.eval = execOp a.eval o := Oper.semAt_eq rf _ o (fun c => by rw [hop]; simp)
    rw [hsem]
    split at h
    · rename_i l hl
      rw [allP_iff] at h
      obtain ⟨p, hp, u, w', hr, hvr, hs', hx⟩ := next_sound hl hs (ho it (by rw [hop]; simp [Op.operands])) o.type
      have hrun : (execOp a.eval o).run P w = .ok (.value u) w' := by
        unfold execOp
        rw [hop]
        exact run_v hr
      rw [hrun, Oper.uponIn_value]
      exact hn _ _ _ _ _ a.defers (h p hp) hvr (hs'.as _) (hx.as _) (hm.ext (hx.as _)) id
    · exact h.elim
  · rename_i f args argTypes hop
    split at h
    · rename_i l hl
      obtain rfl := hp (by rw [hl]; simp)
      split at h
      · rename_i g first caps hf
        have hv := ho f (by rw [hop]; simp [Op.operands, Call.operands])
        rw [hf] at hv
        simp only [VR] at hv
        obtain ⟨f', a', c', hv, rfl, h1, h2⟩ := hv
        have hrun : (execOp a.eval o).run P w = .ok (.defer { target := .fn (.func g) c', args := a' ++ args.map a.eval }) w := by
          unfold execOp
          rw [hop]
          simp [resolve, hv, Deferred.ofValue]
        rw [Oper.semAt_none, hrun, Oper.uponIn_defer]
        refine hn _ _ M w undef _ h (by simp [VR, undefA, undef, VRs]) (hs.as _) ((Ext.refl _ _ _).as _) ?_ (fun _ => by rw [hl]; simp)
        rw [hl] at hm
        refine .inr ⟨g, _, caps, l, c', rfl, rfl, ?_, h2, DRs.ext ((Ext.refl _ _ _).as _) hm⟩
        rw [Array.toList_append]
        exact h1.append (builtin_args fun x hx => ho x (by rw [hop]; simp [Op.operands, Call.operands, hx]))
      · exact h.elim
    · exact h.elim
  · split at h
    · rename_i v st' hp
      have hsem : o.semAt rf a.eval = execOp a.eval o := Oper.semAt_eq rf _ o (fun c hc => by rw [hc] at hp; simp [primA] at hp)
      rw [hsem]
      obtain ⟨nx, v', w', M', hr, hg, hvr, hs', hx⟩ := prim_sound hp hs ho
      rw [hr]
      rcases hg with rfl | ⟨rfl, rfl⟩
      · rw [Oper.uponIn_value]; exact hn _ _ _ _ _ a.defers h hvr (hs'.as _) (hx.as _) (hm.ext (hx.as _)) id
      · rw [Oper.uponIn_skip]; exact hn _ _ _ _ _ a.defers h hvr (hs'.as _) (hx.as _) (hm.ext (hx.as _)) id
    · exact h.elim

theorem wanted_sound {ops : Array Oper} {o : Oper} {env : Env} {tmps : Array Value} {b : Bool} (h : wantedA ops o env = some b) (he : ∀ j w t, o.guard = some (j, w) → (ops[j]?).bind (·.dst) = some t → VR M n (env.get t) (tmps.getD t undef)) :
    Region.wanted o (yielded ops tmps) = b := by
  unfold wantedA at h
  unfold Region.wanted
  split at h
  · rename_i hg; rw [hg]; exact Option.some.inj h
  · rename_i j w' hg
    rw [hg]
    simp only
    unfold yielded
    split at h
    · rename_i hd; rw [hd]; simpa using Option.some.inj h
    · rename_i t hd
      have hv := he j w' t hg hd
      rw [hd]
      simp only [Option.bind_some]
      split at h
      · rename_i c hc
        rw [hc] at hv
        simp only [VR] at hv
        cases ht : tmps[t]? with
        | none => simp [ht, undef] at hv
        | some y =>
          simp [ht] at hv
          subst hv
          obtain rfl := Option.some.inj h
          cases c <;> cases w' <;> rfl
      · rename_i hc
        rw [hc] at hv
        simp only [VR] at hv
        obtain ⟨cs', hv, hcs⟩ := hv
        obtain rfl := Option.some.inj h
        cases ht : tmps[t]? with
        | none => simp
        | some y => simp [ht] at hv; subst hv; simp
      · cases h

/-- How code is left: in the evaluator, on the machine. -/
def X.out : X → Exit
  | .normal => .normal
  | .exit i => .exit i
  | .ret => .ret
def Post (w0 : World) (B : Nat) (ro rb : Option Nat) (nt : Nat) (M : Map) (st : St) (w : World) (K : X → Env → St → Prop) (e : Exit) (a : Act) (w' : World) : Prop :=
  ∃ x env' st' M', x.out = e ∧ K x env' st' ∧ FrameR w0 B ro rb M' st' w' nt env' a ∧ Ext M st w M' st' w'
theorem Post.ext {nt : Nat} {M' : Map} {st' : St} {w' : World} {K : X → Env → St → Prop} (h : Ext M st w M' st' w') {e : Exit} {a : Act} {w'' : World} : Post w0 B ro rb nt M' st' w' K e a w'' → Post w0 B ro rb nt M st w K e a w''
  | ⟨x, env', st'', M'', h1, h2, h3, h4⟩ => ⟨x, env', st'', M'', h1, h2, h3, h.trans h4⟩

theorem evOps_sound {call : CallP} (hS : Sane P) (hc : ∀ f args st Q, call f args st Q → CallOk P f args st Q) {ops : Array Oper} {nt : Nat} (hd : dstsIn nt ops = true) {k : Nat} {K : X → Env → St → Prop} :
    ∀ (l : List Nat) (os : List Oper), (l.map fun i => ops[i]?) = os.map some → ∀ {M : Map} {st : St} {w : World} {env : Env} {a : Act} {M0 : Map} {st0 : St} {wb : World}, evOps P call ops os (K .normal) env st → FrameR w0 B ro rb M st w nt env a → Ext M0 st0 wb M st w →
      wpOpsIn (fen rb) k P ops (Post w0 B ro rb nt M0 st0 wb K) l a w
  | [], [], _, M, st, w, env, a, _, _, _, h, hf, hx => ⟨.normal, env, st, M, rfl, h, hf, hx⟩
  | [], _ :: _, e, _, _, _, _, _, _, _, _, _, _, _ => by simp at e
  | _ :: _, [], e, _, _, _, _, _, _, _, _, _, _, _ => by simp at e
  | i :: l, o :: os, e, M, st, w, env, a, M0, st0, wb, h, hf, hx0 => by
    simp only [List.map_cons, List.cons.injEq] at e
    obtain ⟨hi, e⟩ := e
    have hdo : ∀ d, o.dst = some d → d < nt := fun d hdd => by
      have := Array.all_eq_true_iff_forall_mem.1 hd o (Array.mem_of_getElem? hi)
      simpa [hdd] using this
    simp only [wpOpsIn, hi]
    simp only [evOps] at h
    split at h
    · rename_i hw
      rw [wanted_sound hw (fun j w' t _ _ => hf.erel t), if_pos rfl]
      refine evOp_sound hS hc h hf.srel (hf.erel.opR _) hf.marks hf.plain fun x st' M' w' v ds hk hv hs' hx hds hi => ?_
      exact evOps_sound hS hc hd l os e hk (hf.put hs' hx hdo hv hds hi) (hx0.trans hx)
    · rename_i hw
      rw [wanted_sound hw (fun j w' t _ _ => hf.erel t), if_neg (by simp)]
      refine ⟨fun _ _ => trivial, ?_⟩
      exact evOps_sound hS hc hd l os e h (hf.put hf.srel (Ext.refl _ _ _) hdo (by simp [VR, undefA, undef, VRs]) hf.marks id) hx0
    · exact h.elim
end Go.Ab
