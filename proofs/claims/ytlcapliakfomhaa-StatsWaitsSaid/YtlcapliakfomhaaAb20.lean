/- THE ABSTRACT EVALUATOR, 20: regions that draw their order, on the machine. -/
import Derived.Test.YtlcapliakfomhaaAb19
namespace Go.Ab
open Go.RowKit (Below)
section
variable {P : Program} {M : Map} {st : St} {w0 w : World} {B : Nat} {ro rb : Option Nat} {ops : Array Oper} {bef : List Nat} {ord : List Nat}
variable {nt : Nat} {e0 env : Env} {pre rest : List Nat} {seen : List Seen} {vals : Nat → AV} {eb : Nat → Nat} {M0 : Map} {st0 : St} {wb : World} {a : Act} {listed : Array Bool} {call : CallP}

theorem getD_true_of {listed : Array Bool} {i : Nat} (h : listed.getD i false = true) : listed.getD i true = true := by
  rcases Nat.lt_or_ge i listed.size with h' | h'
  · simpa [h'] using h
  · simp [Array.getElem?_eq_none h'] at h
theorem getD_false_of {listed : Array Bool} {i : Nat} (h : listed.getD i true = false) : listed.getD i false = false := by
  rcases Nat.lt_or_ge i listed.size with h' | h'
  · simpa [h'] using h
  · simp [Array.getElem?_eq_none h'] at h
theorem getD_set {listed : Array Bool} {i j : Nat} (hi : i < listed.size) : (listed.setIfInBounds i true).getD j false = true ↔ j = i ∨ listed.getD j false = true := by
  by_cases e : i = j
  · subst e; simp [hi]
  · rw [getD_set_ne false e]; simp [Ne.symm e]

/-- How many have not been listed. -/
def cnt (ops : Array Oper) (listed : Array Bool) : Nat := (List.range ops.size).countP fun i => !listed.getD i false
theorem countP_lt {α : Type} {p q : α → Bool} : ∀ {l : List α}, (∀ x ∈ l, p x = true → q x = true) → ∀ {i : α}, i ∈ l → p i = false → q i = true → l.countP p < l.countP q
  | x :: l, h, i, hi, hp, hq => by
    have hle : l.countP p ≤ l.countP q := List.countP_mono_left fun y hy => h y (List.mem_cons_of_mem _ hy)
    simp only [List.countP_cons]
    rcases List.mem_cons.1 hi with rfl | hi
    · simp [hp, hq]; omega
    · have := countP_lt (fun y hy => h y (List.mem_cons_of_mem _ hy)) hi hp hq
      have hx := h x (by simp)
      cases hpx : p x
      · simp; omega
      · simp [hx hpx]; omega
theorem cnt_set {i : Nat} (hi : i < ops.size) (hs : listed.size = ops.size) (hl : listed.getD i false = false) : cnt ops (listed.setIfInBounds i true) < cnt ops listed := by
  refine countP_lt (i := i) (fun x _ hx => ?_) (List.mem_range.2 hi) ?_ ?_
  · by_cases e : i = x
    · subst e; rw [hl]; rfl
    · rw [getD_set_ne false e] at hx; exact hx
  · have := (getD_set (j := i) (hs ▸ hi : i < listed.size)).2 (.inl rfl)
    rw [this]; rfl
  · rw [hl]; rfl

theorem all_listed_of_cnt (h : cnt ops listed = 0) : ∀ i, i < ops.size → listed.getD i false = true := by
  intro i hi
  have := List.countP_eq_zero.1 h i (List.mem_range.2 hi)
  simpa using this

theorem all_listed_of_ready (hF : DrawF P ops bef ord) (hs : listed.size = ops.size) (h : Region.ready .any ops listed = []) : ∀ i, i < ops.size → listed.getD i false = true := by
  intro i
  induction i using Nat.strongRecOn with
  | _ i ih =>
    intro hi
    cases hl : listed.getD i false with
    | true => rfl
    | false =>
      exfalso
      have : i ∈ Region.ready .any ops listed := by
        rw [mem_ready]
        refine ⟨?_, ops[i], Array.getElem?_eq_getElem hi, fun e he hb => ?_⟩
        · have h' : i < listed.size := hs ▸ hi
          simpa [h'] using hl
        · have := (hF.ahead i _ (Array.getElem?_eq_getElem hi) e he hb).1
          exact ih e.on this (by omega)
      rw [h] at this; cases this

variable {K : X → Env → St → Prop}

/-- All are done on both sides. -/
theorem Inv.done (hF : DrawF P ops bef ord) (h : Inv P ops bef ord w0 B ro rb nt M0 st0 wb e0 pre rest seen vals eb env M st w a listed) (hd : evDraw P call ops bef rest seen (K .normal) env st) (hnorm : rest = [] ∨ ∃ c r o, rest = c :: r ∧ ops[c]? = some o ∧ wantedA ops o env = some true ∧ ¬ rank P o.op < 2 ∧ listed.getD c false = false)
    (hall : ∀ i, i < ops.size → listed.getD i false = true) : Post w0 B ro rb nt M0 st0 wb K .normal a w := by
  cases rest with
  | cons i r =>
    rcases hnorm with hn | ⟨c, r', o, hn, ho, _, _, hl⟩
    · cases hn
    · rw [hall c (Array.getElem?_eq_some_iff.1 ho).1] at hl; cases hl
  | nil =>
    refine ⟨.normal, env, st, M, rfl, hd, ⟨h.srel, fun t => ?_, h.size, h.marks, h.plain, h.base, h.ring⟩, h.ext⟩
    by_cases hw : ∃ (j : Nat) (p : Oper), ops[j]? = some p ∧ p.dst = some t
    · obtain ⟨j, p, hp, hd⟩ := hw
      have hj := hall j (Array.getElem?_eq_some_iff.1 hp).1
      have hjp : j ∈ pre := by have := hF.all j (Array.getElem?_eq_some_iff.1 hp).1; rw [h.split] at this; simpa using this
      rw [(h.env t).1 j p hjp hp hd]
      exact (h.act t).1 j p hj hjp hp hd
    · have hno : ∀ (k : Nat) (q : Oper), ops[k]? = some q → q.dst ≠ some t := fun k q hq hqd => hw ⟨k, q, hq, hqd⟩
      rw [(h.env t).2 fun k q _ hq => hno k q hq]
      exact (h.act t).2 fun k q _ hq => hno k q hq

theorem put_tmps (a : Act) (ds : List Deferred) (dst : Option Tmp) (v : Value) : (({ a with defers := ds } : Act).put dst v).tmps = (a.put dst v).tmps := by cases dst <;> rfl
/-- The machine's frame, one more written. -/
theorem act_put (hF : DrawF P ops bef ord) (hsz : dstsIn nt ops = true) (h : Inv P ops bef ord w0 B ro rb nt M0 st0 wb e0 pre rest seen vals eb env M st w a listed) {i : Nat} {o : Oper} (ho : ops[i]? = some o) {vals' : Nat → AV}
    {pre' : List Nat} (hpre : ∀ j, j ∈ pre' → j ∈ pre ∨ j = i) (hvs : ∀ j, j ∈ pre → vals' j = vals j) {M' : Map} {n' : Nat} (hn : st.size ≤ n') (hM : ∀ i, i < st.size → M' i = M i) {v : Value} (hl : listed.getD i false = false) (hv : i ∈ pre' → VR M' n' (vals' i) v) (t : Nat) :
    (∀ j p, (listed.setIfInBounds i true).getD j false = true → j ∈ pre' → ops[j]? = some p → p.dst = some t → VR M' n' (vals' j) ((a.put o.dst v).tmps.getD t undef)) ∧
    ((∀ j p, (listed.setIfInBounds i true).getD j false = true → ops[j]? = some p → p.dst ≠ some t) → VR M' n' (e0.get t) ((a.put o.dst v).tmps.getD t undef)) := by
  have hi : i < ops.size := (Array.getElem?_eq_some_iff.1 ho).1
  have hil : i < listed.size := h.lsize ▸ hi
  have same : o.dst ≠ some t → (a.put o.dst v).tmps.getD t undef = a.tmps.getD t undef := fun hne => by
    cases hod : o.dst with
    | none => rfl
    | some d =>
      have hdt : d ≠ t := fun e => hne (e ▸ hod)
      simp [Act.put, Array.getElem?_setIfInBounds_ne hdt]
  refine ⟨fun j p hj hjp hp hd => ?_, fun hno => ?_⟩
  · rcases (getD_set hil).1 hj with rfl | hj
    · rw [ho] at hp
      obtain rfl := Option.some.inj hp
      have hlt : t < a.tmps.size := by
        have := Array.all_eq_true_iff_forall_mem.1 hsz o (Array.mem_of_getElem? ho)
        rw [hd] at this
        have : t < nt := by simpa using this
        have := h.size
        omega
      rw [hd]
      simpa [Act.put, hlt] using hv hjp
    · have hji : j ≠ i := fun e => by rw [e, hl] at hj; cases hj
      rw [same fun hod => (hF.one j p i o t hji hp ho hd).1 hod, hvs j ((hpre j hjp).resolve_right hji)]
      exact ((h.act t).1 j p hj ((hpre j hjp).resolve_right hji) hp hd).mono hn hM
  · rw [same (hno i o ((getD_set hil).2 (.inl rfl)) ho)]
    exact ((h.act t).2 fun j p hj hp => hno j p ((getD_set hil).2 (.inr hj)) hp).mono hn hM

theorem Early.step {M' : Map} {st' : St} {w' : World} {a' : Act} {j : Nat} (h : Early P ops w0 wb eb M st w a j) (hx : Ext M st w M' st' w') (ha : ∀ d o, ops[j]? = some o → o.dst = some d → a'.tmps.getD d undef = a.tmps.getD d undef) : Early P ops w0 wb eb M' st' w' a' j := by
  obtain ⟨o, t, z, c, e, h1, h2, h3, h4, h5, h6, h7, h8, h9, h10⟩ := h
  have hlt : eb j < w.heap.size := (Array.getElem?_eq_some_iff.1 h5).1
  refine ⟨o, t, z, c, e, h1, h2, h3, h4, by rw [hx.frame _ hlt h9]; exact h5, h6, h7, h8, fun i hi e => ?_, fun d hd => by rw [ha d o h1 hd]; exact h10 d hd⟩
  by_cases hi' : i < st.size
  · rw [hx.map i hi'] at e; exact h9 i hi' e
  · rcases hx.fresh i (by omega) hi with hf | ⟨k, hk, hf⟩
    · omega
    · exact h9 k hk (hf ▸ e)
theorem Early.block {eb' : Nat → Nat} {j : Nat} (h : Early P ops w0 wb eb M st w a j) (he : eb' j = eb j) : Early P ops w0 wb eb' M st w a j := by
  unfold Early at h ⊢
  rw [he]; exact h
theorem put_other (hF : DrawF P ops bef ord) {i j : Nat} {o p : Oper} {v : Value} {d : Tmp} (ho : ops[i]? = some o) (hp : ops[j]? = some p) (hne : i ≠ j) (hd : p.dst = some d) : (a.put o.dst v).tmps.getD d undef = a.tmps.getD d undef := by
  cases hod : o.dst with
  | none => rfl
  | some q =>
    have : q ≠ d := fun e => (hF.one i o j p q hne ho hp hod).1 (e ▸ hd)
    simp [Act.put, Array.getElem?_setIfInBounds_ne this]

theorem evDraw_sound (hS : Sane P) (hc : ∀ f args st Q, call f args st Q → CallOk P f args st Q) (hF : DrawF P ops bef ord) (hsz : dstsIn nt ops = true) {k : Nat} :
    ∀ (fuel : Nat) {pre rest : List Nat} {seen : List Seen} {vals : Nat → AV} {eb : Nat → Nat} {env : Env} {M : Map} {st : St} {w : World} {a : Act} {listed : Array Bool},
      Inv P ops bef ord w0 B ro rb nt M0 st0 wb e0 pre rest seen vals eb env M st w a listed → evDraw P call ops bef rest seen (K .normal) env st → cnt ops listed ≤ fuel →
      wpAnyIn (fen rb) k P .any ops (Post w0 B ro rb nt M0 st0 wb K) fuel listed a w
  | 0, _, rest, _, _, _, _, _, _, _, _, listed, h, hd, hcnt => by
    have hall := all_listed_of_cnt (Nat.le_zero.1 hcnt)
    obtain ⟨_, _, _, _, _, _, _, h, hd, _, hnorm⟩ := h.normal hF rest hd
    refine ⟨?_, h.done hF hd hnorm hall⟩
    rw [List.eq_nil_iff_forall_not_mem]
    intro i hi
    rw [mem_ready] at hi
    obtain ⟨h1, o, ho, _⟩ := hi
    have := hall i (Array.getElem?_eq_some_iff.1 ho).1
    rw [getD_false_of h1] at this; cases this
  | fuel + 1, _, rest, _, _, eb, _, M, st, w, a, listed, h, hd, hcnt => by
    obtain ⟨pre, rest, seen, vals, env, M, st, h, hd, _, hnorm⟩ := h.normal hF rest hd
    refine ⟨fun hr => h.done hF hd hnorm (all_listed_of_ready hF h.lsize hr), fun i hi => ?_⟩
    obtain ⟨hl, o, ho, haft⟩ := mem_ready.1 hi
    have hl := getD_false_of hl
    have hisz : i < ops.size := (Array.getElem?_eq_some_iff.1 ho).1
    have hil : i < listed.size := h.lsize ▸ hisz
    have hbi : ∀ j, j < ops.size → be bef i j = true → listed.getD j false = true := fun j hj hb => by
      obtain ⟨_, e, he, hbind, hh⟩ := hF.befs i o ho j hj hb
      have hon := haft e he hbind
      rcases hh with hh | hh
      · exact hh ▸ hon
      · exact h.closed e.on j hon hj hh
    have hcl : ∀ x j, (listed.setIfInBounds i true).getD x false = true → j < ops.size → be bef x j = true → (listed.setIfInBounds i true).getD j false = true := fun x j hxl hj hb => by
      rw [getD_set hil] at hxl ⊢
      rcases hxl with rfl | hxl
      · exact .inr (hbi j hj hb)
      · exact .inr (h.closed x j hxl hj hb)
    have hcnt' : cnt ops (listed.setIfInBounds i true) ≤ fuel := by have := cnt_set hisz h.lsize hl; omega
    have hlsz : (listed.setIfInBounds i true).size = ops.size := by simpa using h.lsize
    have hdef : ∀ v, (a.put o.dst v).defers = a.defers := fun v => by cases o.dst <;> rfl
    have hsized : ∀ (ds : List Deferred) v, nt ≤ (({ a with defers := ds } : Act).put o.dst v).tmps.size := fun ds v => by
      have := h.size
      cases o.dst <;> simpa [Act.put] using this
    have hdefd : ∀ (ds : List Deferred) v, (({ a with defers := ds } : Act).put o.dst v).defers = ds := fun ds v => by cases o.dst <;> rfl
    have hunl : ∀ j, (listed.setIfInBounds i true).getD j false = false → listed.getD j false = false := fun j hlj => by
      cases hlj' : listed.getD j false with
      | false => rfl
      | true => rw [(getD_set hil).2 (.inr hlj')] at hlj; cases hlj
    unfold wpOpIn
    rw [ho]
    simp only
    by_cases hip : i ∈ pre
    · -- the evaluator has done it already
      obtain ⟨e, D, he, hD, hbD, hv⟩ := h.recs i o hip hl ho
      have hlook := fun t (ht : t ∈ o.looksAt ops) => h.looks hF ho hl hbi he (fun j hj => (hD j hj).1) (fun j hj => (hD j hj).2) hbD ht
      have next : ∀ v, VR M st.size (vals i) v → wpAnyIn (fen rb) k P .any ops (Post w0 B ro rb nt M0 st0 wb K) fuel (listed.setIfInBounds i true) (a.put o.dst v) w := fun v hvr => by
        refine evDraw_sound hS hc hF hsz fuel (pre := pre) (rest := rest) (seen := seen) (vals := vals) (eb := eb) (env := env) ⟨h.split, h.srel, hsized a.defers v, (hdef v).symm ▸ h.marks, h.plain, h.base, h.ring, hlsz, h.ext, fun j hj => ?_, fun j q hj hq hjp hqp e => ?_, hcl, h.env,
          act_put hF hsz h ho (fun _ h => .inl h) (fun _ _ => rfl) (Nat.le_refl _) (fun _ _ => rfl) hl (fun _ => hvr), fun j p hj hlj hp => h.recs j p hj (hunl j hlj) hp⟩ hd hcnt'
        · rcases (getD_set hil).1 hj with rfl | hj
          · exact .inl hip
          · rcases h.inpre j hj with hjp | hjp
            · exact .inl hjp
            · by_cases ej : i = j
              · exact .inl (ej ▸ hip)
              · exact .inr (hjp.step (Ext.refl _ _ _) fun d q hq hqd => put_other hF ho hq ej hqd)
        · refine h.inj j q ?_ ?_ hjp hqp e
          · exact ((getD_set hil).1 hj).resolve_left fun e => hjp (e ▸ hip)
          · exact ((getD_set hil).1 hq).resolve_left fun e => hqp (e ▸ hip)
      rcases hv with ⟨hw, hv⟩ | ⟨hw, hr, ⟨s, hp⟩, _⟩
      · rw [wanted_sound hw (guard_of_looks hlook), if_neg (by simp)]
        refine ⟨fun _ _ => trivial, next undef ?_⟩
        rw [hv]; simp [VR, undefA, undef, VRs]
      · rw [wanted_sound hw (guard_of_looks hlook), if_pos rfl]
        obtain ⟨_, v, hrun, hvr⟩ := prim01_sound hr hp h.srel (opR_of_looks hlook)
        refine ⟨fun _ _ => trivial, ?_⟩
        show o.uponIn (fen rb) k P a _ _ ((o.semAt rb a.eval).run P w)
        have hsem : o.semAt rb a.eval = execOp a.eval o := Oper.semAt_eq rb _ o (fun c hc => by rw [hc] at hp; simp [primA] at hp)
        rw [hsem, hrun, Oper.uponIn_value]
        exact next v hvr
    · have hir : i ∈ rest := by
        have := hF.all i hisz
        rw [h.split] at this
        exact (List.mem_append.1 this).resolve_left hip
      rcases hnorm with rfl | ⟨c, r, oc, rfl, hoc, hw, hr, hlc⟩
      · cases hir
      obtain ⟨hcsz, h1, h2⟩ := hF.split_at h.split
      by_cases hic : i = c
      · -- it is the evaluator's turn too
        subst hic
        rw [ho] at hoc
        obtain rfl := Option.some.inj hoc
        have hlook := fun t (ht : t ∈ o.looksAt ops) => h.looks hF ho hl hbi h.env (fun j hj => hj) (fun j hj => (h1 j hj).2) h2 ht
        rw [wanted_sound hw (guard_of_looks hlook), if_pos rfl]
        simp only [evDraw, ho, hw, if_neg hr] at hd
        refine evOp_sound hS hc hd h.srel (opR_of_looks hlook) h.marks h.plain fun x st' M' w' v ds hk hvr hs' hxx hds hi => ?_
        obtain ⟨hk, hstill⟩ := stillAll_spec hk
        have hvs : ∀ j ∈ pre, (if j = i then x else vals j) = vals j := fun j hj => if_neg (h1 j hj).1
        refine evDraw_sound hS hc hF hsz fuel (pre := pre ++ [i]) (rest := r) (vals := fun j => if j = i then x else vals j) (eb := eb) ⟨by rw [h.split]; simp, hs', hsized ds v, (hdefd ds v).symm ▸ hds, fun hn => h.plain (hi hn), Nat.le_trans h.base hxx.heap, h.ring.ext hxx, hlsz, h.ext.trans hxx,
          fun j hj => ?_, fun j q hj hq hjp hqp e => ?_, hcl, EnvIs.put hF h.env ho hip x, fun t => by
          rw [put_tmps]
          exact act_put hF hsz h ho (vals' := fun j => if j = i then x else vals j) (fun j hj => by simpa using hj) hvs hxx.size hxx.map hl (fun _ => by rw [if_pos rfl]; exact hvr) t, fun j p hj hlj hp => ?_⟩ hk hcnt'
        · rcases (getD_set hil).1 hj with rfl | hj
          · exact .inl (by simp)
          · rcases h.inpre j hj with hjp | hjp
            · exact .inl (by simp [hjp])
            · by_cases ej : i = j
              · exact .inl (by simp [ej])
              · exact .inr (hjp.step hxx fun d q hq hqd => by rw [put_tmps]; exact put_other hF ho hq ej hqd)
        · refine h.inj j q ?_ ?_ (fun h => hjp (by simp [h])) (fun h => hqp (by simp [h])) e
          · exact ((getD_set hil).1 hj).resolve_left fun e => hjp (by simp [e])
          · exact ((getD_set hil).1 hq).resolve_left fun e => hqp (by simp [e])
        · have hji : j ≠ i := fun e => by
            subst e
            rw [(getD_set hil).2 (.inl rfl)] at hlj; cases hlj
          have hjp : j ∈ pre := by simpa [hji] using hj
          have hlj' := hunl j hlj
          refine (h.recs j p hjp hlj' hp).on (o := o) (fun k hk => (h1 k hk).1) hjp ?_ hstill
          cases hb : be bef i j with
          | false => rfl
          | true => have := hbi j (Array.getElem?_eq_some_iff.1 hp).1 hb; rw [hlj'] at this; cases this
      · -- a new variable, ahead of the evaluator
        have hir : i ∈ r := (List.mem_cons.1 hir).resolve_left hic
        have hp := hF.order
        rw [h.split] at hp
        rcases (List.rel_of_pairwise_cons (List.pairwise_append.1 hp).2.1 hir).2.2 oc hoc hr with hb | ⟨q, hq, hfl⟩
        · have := hbi c hcsz hb
          rw [hlc] at this; cases this
        rw [ho] at hq
        obtain rfl := Option.some.inj hq
        obtain ⟨t, z, hop, hg, hz⟩ : ∃ t z, o.op = .alloc t ∧ o.guard = none ∧ zeros P t 1 = some z := by
          unfold isFloat at hfl
          split at hfl
          · rename_i t hop
            simp only [Bool.and_eq_true] at hfl
            obtain ⟨z, hz⟩ := Option.isSome_iff_exists.1 hfl.2
            exact ⟨t, z, hop, by simpa using hfl.1, hz⟩
          · cases hfl
        obtain ⟨cc, hrun, hzr⟩ := alloc_run hz w
        have hwant : Region.wanted o (yielded ops a.tmps) = true := by unfold Region.wanted; rw [hg]
        rw [hwant, if_pos rfl]
        refine ⟨fun _ _ => trivial, ?_⟩
        show o.uponIn (fen rb) k P a _ _ ((o.semAt rb a.eval).run P w)
        have hsem : o.semAt rb a.eval = execOp a.eval o := Oper.semAt_eq rb _ o (fun c hc => by rw [hop] at hc; cases hc)
        have hex : (execOp a.eval o).run P w = .ok (.value (.pointer (some ⟨w.heap.size, 0, none⟩))) (w.alloc (.cells cc t)) := by
          unfold execOp
          rw [hop]
          exact run_v hrun
        rw [hsem, hex, Oper.uponIn_value]
        have hxx : Ext M st w M st (w.alloc (.cells cc t)) := ⟨Nat.le_refl _, fun _ _ => rfl, by simp, fun b hb _ => Below.heap_alloc _ _ _ hb, fun i h h' => by omega⟩
        have hs' : SRel w0 M st (w.alloc (.cells cc t)) := ⟨h.srel.below.trans ⟨rfl, rfl, rfl, by simp, fun k hk => Below.heap_alloc _ _ _ (by have := h.srel.base; omega)⟩, fun id hid => (h.srel.objs id hid).world fun _ => Below.heap_alloc _ _ _ (h.srel.bnd id hid), h.srel.inj,
          fun i hi => by have := h.srel.bnd i hi; simp; omega⟩
        have hebo : ∀ j, j ≠ i → (fun j => if j = i then w.heap.size else eb j) j = eb j := fun j hj => if_neg hj
        have hblt : ∀ j, listed.getD j false = true → j ∉ pre → eb j < w.heap.size := fun j hj hjp => by
          obtain ⟨_, _, _, _, _, _, _, _, _, q, _⟩ := (h.inpre j hj).resolve_left hjp
          exact (Array.getElem?_eq_some_iff.1 q).1
        refine evDraw_sound hS hc hF hsz fuel (pre := pre) (rest := c :: r) (seen := seen) (vals := vals) (eb := fun j => if j = i then w.heap.size else eb j) (env := env) ⟨h.split, hs', hsized a.defers _, (hdef _).symm ▸ h.marks.ext hxx, h.plain, Nat.le_trans h.base hxx.heap, h.ring.ext hxx, hlsz, h.ext.trans hxx,
          fun j hj => ?_, fun j q hj hq hjp hqp e => ?_, hcl, h.env, act_put hF hsz h ho (fun _ h => .inl h) (fun _ _ => rfl) (Nat.le_refl _) (fun _ _ => rfl) hl (fun h => absurd h hip), fun j p hj hlj hp => h.recs j p hj (hunl j hlj) hp⟩ hd hcnt'
        · by_cases ej : j = i
          · subst ej
            refine .inr ⟨o, t, z, cc, t, ho, hop, hg, hz, ?_, hzr, ?_, ?_, fun id hid e => ?_, fun d hd => ?_⟩
            · simp only [if_pos]; exact World.alloc_heap_new _ _
            · simp only [if_pos]; exact h.ext.heap
            · simp only [if_pos]; exact h.srel.base
            · simp only [if_pos] at e; have := h.srel.bnd id hid; omega
            · simp only [if_pos]
              have hlt : d < a.tmps.size := by
                have := Array.all_eq_true_iff_forall_mem.1 hsz o (Array.mem_of_getElem? ho)
                rw [hd] at this
                simp only [decide_eq_true_eq] at this
                exact Nat.lt_of_lt_of_le this h.size
              rw [hd]
              simp [Act.put, hlt]
          · rcases (getD_set hil).1 hj with e | hj
            · exact absurd e ej
            · rcases h.inpre j hj with hjp | hjp
              · exact .inl hjp
              · exact .inr (Early.block (hjp.step hxx fun d q hq hqd => put_other hF ho hq (Ne.symm ej) hqd) (if_neg ej))
        · by_cases ej : j = i
          · by_cases eq : q = i
            · rw [ej, eq]
            · rw [if_pos ej, if_neg eq] at e
              have := hblt q (((getD_set hil).1 hq).resolve_left eq) hqp
              omega
          · by_cases eq : q = i
            · rw [if_neg ej, if_pos eq] at e
              have := hblt j (((getD_set hil).1 hj).resolve_left ej) hjp
              omega
            · rw [if_neg ej, if_neg eq] at e
              exact h.inj j q (((getD_set hil).1 hj).resolve_left ej) (((getD_set hil).1 hq).resolve_left eq) hjp hqp e

/-- Any region. -/
theorem evRegion_sound (hS : Sane P) (hc : ∀ f args st Q, call f args st Q → CallOk P f args st Q) (hsz : dstsIn nt ops = true) {k id : Nat} {draw : Bool} {M : Map} {st : St} {w : World} {env : Env} {a : Act}
    (h : evRegion P call ops draw (K .normal) env st) (hf : FrameR w0 B ro rb M st w nt env a) (hx : Ext M0 st0 wb M st w) : (Code.region id ops draw).wpIn (fen rb) k P (Post w0 B ro rb nt M0 st0 wb K) a w := by
  unfold evRegion at h
  cases draw with
  | false =>
    refine wpIn_region (evOps_sound hS hc hsz _ ops.toList ?_ h hf hx)
    refine List.ext_getElem (by simp) fun i h1 h2 => ?_
    simp at h1
    simp [h1]
  | true =>
    simp only [if_true] at h
    split at h
    · rename_i hok
      have hF := DrawF.of hok
      refine wpIn_region_any hS.mixed ?_
      have hno : ∀ i, (Array.replicate ops.size false).getD i false = true → False := fun i hi => by
        rcases Nat.lt_or_ge i ops.size with h' | h'
        · simp [h'] at hi
        · simp [h'] at hi
      refine evDraw_sound hS hc hF hsz ops.size (pre := []) (seen := []) (vals := fun _ => .unk) (eb := fun _ => 0) (e0 := env) ⟨rfl, hf.srel.drew _, hf.size, hf.marks.ext (Ext.drew _ _ _ _), hf.plain, hf.base, hf.ring, by simp, hx.trans (Ext.drew _ _ _ _), fun i hi => (hno i hi).elim, fun i _ hi => (hno i hi).elim,
        fun i j hi => (hno i hi).elim, fun t => ⟨fun j o hj => (nomatch hj), fun _ => rfl⟩, fun t => ⟨fun j o hj => (hno j hj).elim, fun _ => hf.erel t⟩, fun i o hi => nomatch hi⟩ h ?_
      · have := List.countP_le_length (p := fun i => !(Array.replicate ops.size false).getD i false) (l := List.range ops.size)
        simpa [cnt] using this
    · exact h.elim
end
end Go.Ab
