/- THE ABSTRACT EVALUATOR, 20: regions that draw their order, on the machine. -/
import Derived.Test.YtlcapliakfomhabAb19
namespace Go.Ab
open Go.RowKit (Below)
section
variable {P : Program} {M : Map} {st : St} {w0 w : World} {B : Nat} {ops : Array Oper} {bef : List Nat} {ord : List Nat}
variable {nt : Nat} {e0 env : Env} {pre rest : List Nat} {seen : List Seen} {vals : Nat → AV} {a : Act} {listed : Array Bool} {call : CallP}

theorem stillAll_spec {K : Prop} : ∀ {l : List Seen}, stillAll P st l K → K ∧ ∀ r ∈ l, ∃ s, primA P r.env r.o.op st = some (r.v, s)
  | [], h => ⟨h, fun _ h => by cases h⟩
  | r :: l, h => by
    simp only [stillAll, still] at h
    split at h
    · rename_i v s hp
      split at h
      · rename_i hb
        obtain ⟨h1, h2⟩ := stillAll_spec h
        refine ⟨h1, fun x hx => ?_⟩
        rcases List.mem_cons.1 hx with rfl | hx
        · rw [← beqA_eq _ _ hb]; exact ⟨s, hp⟩
        · exact h2 x hx
      · exact h.elim
    · exact h.elim

theorem getD_true_of {listed : Array Bool} {i : Nat} (h : listed.getD i false = true) : listed.getD i true = true := by
  rcases Nat.lt_or_ge i listed.size with h' | h'
  · simpa [h'] using h
  · simp [Array.getElem?_eq_none h'] at h
theorem getD_false_of {listed : Array Bool} {i : Nat} (h : listed.getD i true = false) : listed.getD i false = false := by
  rcases Nat.lt_or_ge i listed.size with h' | h'
  · simpa [h'] using h
  · simp [Array.getElem?_eq_none h'] at h
theorem getD_set {listed : Array Bool} {i j : Nat} (hi : i < listed.size) : (listed.setIfInBounds i true).getD j false = true ↔ j = i ∨ listed.getD j false = true := by
  by_cases e : i = j
  · subst e; simp [hi]
  · rw [getD_set_ne false e]; simp [Ne.symm e]

/-- How many have not been listed. -/
def cnt (ops : Array Oper) (listed : Array Bool) : Nat := (List.range ops.size).countP fun i => !listed.getD i false
theorem countP_lt {α : Type} {p q : α → Bool} : ∀ {l : List α}, (∀ x ∈ l, p x = true → q x = true) → ∀ {i : α}, i ∈ l → p i = false → q i = true → l.countP p < l.countP q
  | x :: l, h, i, hi, hp, hq => by
    have hle : l.countP p ≤ l.countP q := List.countP_mono_left fun y hy => h y (List.mem_cons_of_mem _ hy)
    simp only [List.countP_cons]
    rcases List.mem_cons.1 hi with rfl | hi
    · simp [hp, hq]; omega
    · have := countP_lt (fun y hy => h y (List.mem_cons_of_mem _ hy)) hi hp hq
      have hx := h x (by simp)
      cases hpx : p x
      · simp; omega
      · simp [hx hpx]; omega
theorem cnt_set {i : Nat} (hi : i < ops.size) (hs : listed.size = ops.size) (hl : listed.getD i false = false) : cnt ops (listed.setIfInBounds i true) < cnt ops listed := by
  refine countP_lt (i := i) (fun x _ hx => ?_) (List.mem_range.2 hi) ?_ ?_
  · by_cases e : i = x
    · subst e; rw [hl]; rfl
    · rw [getD_set_ne false e] at hx; exact hx
  · have := (getD_set (j := i) (hs ▸ hi : i < listed.size)).2 (.inl rfl)
    rw [this]; rfl
  · rw [hl]; rfl

theorem all_listed_of_cnt (h : cnt ops listed = 0) : ∀ i, i < ops.size → listed.getD i false = true := by
  intro i hi
  have := List.countP_eq_zero.1 h i (List.mem_range.2 hi)
  simpa using this

theorem all_listed_of_ready (hF : DrawF P ops bef ord) (hs : listed.size = ops.size) (h : Region.ready .any ops listed = []) : ∀ i, i < ops.size → listed.getD i false = true := by
  intro i
  induction i using Nat.strongRecOn with
  | _ i ih =>
    intro hi
    cases hl : listed.getD i false with
    | true => rfl
    | false =>
      exfalso
      have : i ∈ Region.ready .any ops listed := by
        rw [mem_ready]
        refine ⟨?_, ops[i], Array.getElem?_eq_getElem hi, fun e he hb => ?_⟩
        · have h' : i < listed.size := hs ▸ hi
          simpa [h'] using hl
        · have := (hF.ahead i _ (Array.getElem?_eq_getElem hi) e he hb).1
          exact ih e.on this (by omega)
      rw [h] at this; cases this

variable {K : X → Env → St → Prop} {M0 : Map} {st0 : St} {wb : World}

/-- All are done on both sides. -/
theorem Inv.done (hF : DrawF P ops bef ord) (h : Inv P ops bef ord w0 B nt e0 pre rest seen vals env M st w a listed) (hd : evDraw P call ops bef rest seen (K .normal) env st) (hx : Ext M0 st0 wb M st w)
    (hall : ∀ i, i < ops.size → listed.getD i false = true) : Post w0 B nt M0 st0 wb K .normal a w := by
  cases rest with
  | cons i r =>
    obtain ⟨hi, h1, _⟩ := hF.split_at h.split
    exact absurd rfl (h1 i (h.inpre i (hall i hi))).1
  | nil =>
    refine ⟨.normal, env, st, M, rfl, hd, ⟨h.srel, fun t => ?_, h.size, h.marks⟩, hx⟩
    by_cases hw : ∃ (j : Nat) (p : Oper), ops[j]? = some p ∧ p.dst = some t
    · obtain ⟨j, p, hp, hd⟩ := hw
      have hj := hall j (Array.getElem?_eq_some_iff.1 hp).1
      rw [(h.env t).1 j p (h.inpre j hj) hp hd]
      exact (h.act t).1 j p hj hp hd
    · have hno : ∀ (k : Nat) (q : Oper), ops[k]? = some q → q.dst ≠ some t := fun k q hq hqd => hw ⟨k, q, hq, hqd⟩
      rw [(h.env t).2 fun k q _ hq => hno k q hq]
      exact (h.act t).2 fun k q _ hq => hno k q hq

/-- The machine's frame, one more written. -/
theorem act_put (hF : DrawF P ops bef ord) (hsz : dstsIn nt ops = true) (h : Inv P ops bef ord w0 B nt e0 pre rest seen vals env M st w a listed) {i : Nat} {o : Oper} (ho : ops[i]? = some o) {vals' : Nat → AV}
    (hvs : ∀ j, listed.getD j false = true → vals' j = vals j) {M' : Map} {n' : Nat} (hn : st.size ≤ n') (hM : ∀ i, i < st.size → M' i = M i) {v : Value} (hl : listed.getD i false = false) (hv : VR M' n' (vals' i) v) (t : Nat) :
    (∀ j p, (listed.setIfInBounds i true).getD j false = true → ops[j]? = some p → p.dst = some t → VR M' n' (vals' j) ((a.put o.dst v).tmps.getD t undef)) ∧
    ((∀ j p, (listed.setIfInBounds i true).getD j false = true → ops[j]? = some p → p.dst ≠ some t) → VR M' n' (e0.get t) ((a.put o.dst v).tmps.getD t undef)) := by
  have hi : i < ops.size := (Array.getElem?_eq_some_iff.1 ho).1
  have hil : i < listed.size := h.lsize ▸ hi
  have same : o.dst ≠ some t → (a.put o.dst v).tmps.getD t undef = a.tmps.getD t undef := fun hne => by
    cases hod : o.dst with
    | none => rfl
    | some d =>
      have hdt : d ≠ t := fun e => hne (e ▸ hod)
      simp [Act.put, Array.getElem?_setIfInBounds_ne hdt]
  refine ⟨fun j p hj hp hd => ?_, fun hno => ?_⟩
  · rcases (getD_set hil).1 hj with rfl | hj
    · rw [ho] at hp
      obtain rfl := Option.some.inj hp
      have hlt : t < a.tmps.size := by
        have := Array.all_eq_true_iff_forall_mem.1 hsz o (Array.mem_of_getElem? ho)
        rw [hd] at this
        have : t < nt := by simpa using this
        have := h.size
        omega
      rw [hd]
      simpa [Act.put, hlt] using hv
    · have hji : j ≠ i := fun e => by rw [e, hl] at hj; cases hj
      rw [same fun hod => (hF.one j p i o t hji hp ho hd).1 hod, hvs j hj]
      exact ((h.act t).1 j p hj hp hd).mono hn hM
  · rw [same (hno i o ((getD_set hil).2 (.inl rfl)) ho)]
    exact ((h.act t).2 fun j p hj hp => hno j p ((getD_set hil).2 (.inr hj)) hp).mono hn hM

theorem evDraw_sound (hS : Sane P) (hc : ∀ f args st Q, call f args st Q → CallOk P f args st Q) (hF : DrawF P ops bef ord) (hsz : dstsIn nt ops = true) {ro : Option Nat} {k : Nat} :
    ∀ (fuel : Nat) {pre rest : List Nat} {seen : List Seen} {vals : Nat → AV} {env : Env} {M : Map} {st : St} {w : World} {a : Act} {listed : Array Bool},
      Inv P ops bef ord w0 B nt e0 pre rest seen vals env M st w a listed → evDraw P call ops bef rest seen (K .normal) env st → Ext M0 st0 wb M st w → cnt ops listed ≤ fuel →
      wpAnyIn (fen ro) k P .any ops (Post w0 B nt M0 st0 wb K) fuel listed a w
  | 0, _, _, _, _, _, _, _, _, _, listed, h, hd, hx, hcnt => by
    have hall := all_listed_of_cnt (Nat.le_zero.1 hcnt)
    refine ⟨?_, h.done hF hd hx hall⟩
    rw [List.eq_nil_iff_forall_not_mem]
    intro i hi
    rw [mem_ready] at hi
    obtain ⟨h1, o, ho, _⟩ := hi
    have := hall i (Array.getElem?_eq_some_iff.1 ho).1
    rw [getD_false_of h1] at this; cases this
  | fuel + 1, _, rest, _, _, _, M, st, w, a, listed, h, hd, hx, hcnt => by
    refine ⟨fun hr => h.done hF hd hx (all_listed_of_ready hF h.lsize hr), fun i hi => ?_⟩
    obtain ⟨hl, o, ho, haft⟩ := mem_ready.1 hi
    have hl := getD_false_of hl
    have hisz : i < ops.size := (Array.getElem?_eq_some_iff.1 ho).1
    have hil : i < listed.size := h.lsize ▸ hisz
    have hbi : ∀ j, j < ops.size → be bef i j = true → listed.getD j false = true := fun j hj hb => by
      obtain ⟨_, e, he, hbind, hh⟩ := hF.befs i o ho j hj hb
      have hon := haft e he hbind
      rcases hh with hh | hh
      · exact hh ▸ hon
      · exact h.closed e.on j hon hj hh
    have hcl : ∀ x j, (listed.setIfInBounds i true).getD x false = true → j < ops.size → be bef x j = true → (listed.setIfInBounds i true).getD j false = true := fun x j hxl hj hb => by
      rw [getD_set hil] at hxl ⊢
      rcases hxl with rfl | hxl
      · exact .inr (hbi j hj hb)
      · exact .inr (h.closed x j hxl hj hb)
    have hcnt' : cnt ops (listed.setIfInBounds i true) ≤ fuel := by have := cnt_set hisz h.lsize hl; omega
    obtain ⟨pre, rest, seen, vals, env, h, hd, hnorm⟩ := h.normal hF rest hd
    have hlsz : (listed.setIfInBounds i true).size = ops.size := by simpa using h.lsize
    have hdo : ∀ d, o.dst = some d → d < nt := fun d hdd => by
      have := Array.all_eq_true_iff_forall_mem.1 hsz o (Array.mem_of_getElem? ho)
      simpa [hdd] using this
    have hsize : ∀ v, nt ≤ (a.put o.dst v).tmps.size := fun v => by
      have := h.size
      cases o.dst <;> simpa [Act.put] using this
    have hdef : ∀ v, (a.put o.dst v).defers = a.defers := fun v => by cases o.dst <;> rfl
    unfold wpOpIn
    rw [ho]
    simp only
    by_cases hip : i ∈ pre
    · -- the evaluator has done it already
      obtain ⟨e, D, he, hD, hbD, hv⟩ := h.recs i o hip hl ho
      have hlook := fun t (ht : t ∈ o.looksAt ops) => h.looks hF ho hl hbi he (fun j hj => (hD j hj).2) hbD ht
      have next : ∀ v, VR M st.size (vals i) v → wpAnyIn (fen ro) k P .any ops (Post w0 B nt M0 st0 wb K) fuel (listed.setIfInBounds i true) (a.put o.dst v) w := fun v hvr => by
        refine evDraw_sound hS hc hF hsz fuel (pre := pre) (rest := rest) (seen := seen) (vals := vals) (env := env) ⟨h.split, h.srel, hsize v, (hdef v).symm ▸ h.marks, hlsz, fun j hj => ?_, hcl, h.env,
          act_put hF hsz h ho (fun _ _ => rfl) (Nat.le_refl _) (fun _ _ => rfl) hl hvr, fun j p hj hlj hp => ?_⟩ hd hx hcnt'
        · rcases (getD_set hil).1 hj with rfl | hj
          · exact hip
          · exact h.inpre j hj
        · refine h.recs j p hj ?_ hp
          cases hlj' : listed.getD j false with
          | false => rfl
          | true => rw [(getD_set hil).2 (.inr hlj')] at hlj; cases hlj
      rcases hv with ⟨hw, hv⟩ | ⟨hw, hr, ⟨s, hp⟩, _⟩
      · rw [wanted_sound hw (guard_of_looks hlook), if_neg (by simp)]
        refine ⟨fun _ _ => trivial, next undef ?_⟩
        rw [hv]; simp [VR, undefA, undef, VRs]
      · rw [wanted_sound hw (guard_of_looks hlook), if_pos rfl]
        obtain ⟨_, v, hrun, hvr⟩ := prim01_sound hr hp h.srel (opR_of_looks hlook)
        refine ⟨fun _ _ => trivial, ?_⟩
        show o.uponIn (fen ro) k P a _ _ ((o.semAt ro a.eval).run P w)
        have hsem : o.semAt ro a.eval = execOp a.eval o := Oper.semAt_eq ro _ o (fun c hc => by rw [hc] at hp; simp [primA] at hp)
        rw [hsem, hrun, Oper.uponIn_value]
        exact next v hvr
    · -- it is the evaluator's turn too
      have hir : i ∈ rest := by
        have := hF.all i hisz
        rw [h.split] at this
        exact (List.mem_append.1 this).resolve_left hip
      rcases hnorm with rfl | ⟨c, r, oc, rfl, hoc, hw, hr⟩
      · cases hir
      obtain ⟨hcsz, h1, h2⟩ := hF.split_at h.split
      obtain rfl : i = c := by
        rcases List.mem_cons.1 hir with e | hir
        · exact e
        · exfalso
          have hp := hF.order
          rw [h.split] at hp
          have := (List.rel_of_pairwise_cons (List.pairwise_append.1 hp).2.1 hir).2.2 oc hoc hr
          have := h.inpre c (hbi c hcsz this)
          exact (h1 c this).1 rfl
      rw [ho] at hoc
      obtain rfl := Option.some.inj hoc
      have hlook := fun t (ht : t ∈ o.looksAt ops) => h.looks hF ho hl hbi h.env (fun j hj => (h1 j hj).2) h2 ht
      rw [wanted_sound hw (guard_of_looks hlook), if_pos rfl]
      simp only [evDraw, ho, hw, if_neg hr] at hd
      refine evOp_sound hS hc hd h.srel (opR_of_looks hlook) fun x st' M' w' v hk hvr hs' hxx => ?_
      obtain ⟨hk, hstill⟩ := stillAll_spec hk
      have hvs : ∀ j ∈ pre, (if j = i then x else vals j) = vals j := fun j hj => if_neg (h1 j hj).1
      refine evDraw_sound hS hc hF hsz fuel (pre := pre ++ [i]) (rest := r) (vals := fun j => if j = i then x else vals j) ⟨by rw [h.split]; simp, hs', hsize v, ?_, hlsz, fun j hj => ?_, hcl, EnvIs.put hF h.env ho hip x,
        act_put hF hsz h ho (fun j hj => hvs j (h.inpre j hj)) hxx.size hxx.map hl (by rw [if_pos rfl]; exact hvr), fun j p hj hlj hp => ?_⟩ hk (hx.trans hxx) hcnt'
      · rw [hdef v]; exact h.marks.ext hxx
      · rcases (getD_set hil).1 hj with rfl | hj
        · simp
        · simp [h.inpre j hj]
      · have hji : j ≠ i := fun e => by
          subst e
          rw [(getD_set hil).2 (.inl rfl)] at hlj; cases hlj
        have hjp : j ∈ pre := by simpa [hji] using hj
        have hlj' : listed.getD j false = false := by
          cases hlj' : listed.getD j false with
          | false => rfl
          | true => rw [(getD_set hil).2 (.inr hlj')] at hlj; cases hlj
        obtain ⟨e, D, he, hD, hbD, hv⟩ := h.recs j p hjp hlj' hp
        refine ⟨e, D, he.upd fun y hy => hvs y (hD y hy).1, fun y hy => ⟨by simp [(hD y hy).1], (hD y hy).2⟩, hbD, ?_⟩
        have hvj := hvs j hjp
        rcases hv with ⟨hv1, hv2⟩ | ⟨hv1, hv2, ⟨s, hp1⟩, hv3⟩
        · exact .inl ⟨hv1, by simp only [hvj]; exact hv2⟩
        · refine .inr ⟨hv1, hv2, ?_, fun hr1 => ?_⟩
          · simp only [hvj]
            by_cases hr0 : rank P p.op = 0
            · exact ⟨_, (prim0_any hr0 hp1 st').2⟩
            · obtain ⟨q, hq, q1, q2, q3, q4⟩ := hv3 (by omega)
              have hkeep : (!((bef[i]?).getD 0).testBit q.i) = true := by
                rw [q1]
                cases hb : be bef i j with
                | false => unfold be at hb; rw [hb]; rfl
                | true => exact absurd (hbi j (Array.getElem?_eq_some_iff.1 hp).1 hb) (by rw [hlj']; simp)
              obtain ⟨s', hs2⟩ := hstill q (List.mem_filter.2 ⟨hq, hkeep⟩)
              rw [q2, q3, q4] at hs2
              exact ⟨s', hs2⟩
          · obtain ⟨q, hq, q1, q2, q3, q4⟩ := hv3 hr1
            refine ⟨q, List.mem_filter.2 ⟨hq, ?_⟩, q1, q2, q3, by simp only [hvj]; exact q4⟩
            rw [q1]
            cases hb : be bef i j with
            | false => unfold be at hb; rw [hb]; rfl
            | true => exact absurd (hbi j (Array.getElem?_eq_some_iff.1 hp).1 hb) (by rw [hlj']; simp)

/-- Any region. -/
theorem evRegion_sound (hS : Sane P) (hc : ∀ f args st Q, call f args st Q → CallOk P f args st Q) (hsz : dstsIn nt ops = true) {ro : Option Nat} {k id : Nat} {draw : Bool} {M : Map} {st : St} {w : World} {env : Env} {a : Act}
    (h : evRegion P call ops draw (K .normal) env st) (hf : FrameR w0 B M st w nt env a) (hx : Ext M0 st0 wb M st w) : (Code.region id ops draw).wpIn (fen ro) k P (Post w0 B nt M0 st0 wb K) a w := by
  unfold evRegion at h
  cases draw with
  | false =>
    refine wpIn_region (evOps_sound hS hc hsz _ ops.toList ?_ h hf hx)
    refine List.ext_getElem (by simp) fun i h1 h2 => ?_
    simp at h1
    simp [h1]
  | true =>
    simp only [if_true] at h
    split at h
    · rename_i hok
      have hF := DrawF.of hok
      refine wpIn_region_any hS.mixed ?_
      refine evDraw_sound hS hc hF hsz ops.size (pre := []) (seen := []) (vals := fun _ => .unk) (e0 := env) ⟨rfl, hf.srel.drew _, hf.size, hf.marks.ext (Ext.drew _ _ _ _), by simp, fun i hi => ?_, fun i j hi => ?_, fun t => ⟨fun j o hj => (nomatch hj), fun _ => rfl⟩,
        fun t => ⟨fun j o hj => ?_, fun _ => hf.erel t⟩, fun i o hi => nomatch hi⟩ h (hx.trans (Ext.drew _ _ _ _)) ?_
      · exfalso
        rcases Nat.lt_or_ge i ops.size with h' | h'
        · simp [h'] at hi
        · simp [h'] at hi
      · exfalso
        rcases Nat.lt_or_ge i ops.size with h' | h'
        · simp [h'] at hi
        · simp [h'] at hi
      · exfalso
        rcases Nat.lt_or_ge j ops.size with h' | h'
        · simp [h'] at hj
        · simp [h'] at hj
      · have := List.countP_le_length (p := fun i => !(Array.replicate ops.size false).getD i false) (l := List.range ops.size)
        simpa [cnt] using this
    · exact h.elim
end
end Go.Ab
