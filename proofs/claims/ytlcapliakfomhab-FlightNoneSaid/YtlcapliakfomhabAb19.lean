/- THE ABSTRACT EVALUATOR, 19: regions that draw their order. -/
import Derived.Test.YtlcapliakfomhabAb18
namespace Go.Ab
open Go.RowKit (Below)

mutual
theorem beqA_eq : ∀ (a b : AV), beqA a b = true → a = b
  | .bool a, b, h => by cases b <;> simp_all [beqA]
  | .int j a, b, h => by cases b <;> simp_all [beqA]
  | .str a, b, h => by cases b <;> simp_all [beqA]
  | .nilptr, b, h => by cases b <;> simp_all [beqA]
  | .nilslice, b, h => by cases b <;> simp_all [beqA]
  | .nilmap, b, h => by cases b <;> simp_all [beqA]
  | .zslice, b, h => by cases b <;> simp_all [beqA]
  | .nilfunc, b, h => by cases b <;> simp_all [beqA]
  | .ptr i o, b, h => by cases b <;> simp_all [beqA]
  | .slice i o l c k, b, h => by cases b <;> simp_all [beqA]
  | .eslice i k, b, h => by cases b <;> simp_all [beqA]
  | .map i, b, h => by cases b <;> simp_all [beqA]
  | .iter i, b, h => by cases b <;> simp_all [beqA]
  | .func f x y, b, h => by
    cases b <;> simp [beqA] at h
    rename_i g x' y'
    obtain ⟨⟨rfl, h1⟩, h2⟩ := h
    rw [beqL_eq x x' h1, beqL_eq y y' h2]
  | .agg x, b, h => by
    cases b <;> simp [beqA] at h
    rw [beqL_eq x _ h]
  | .tuple x, b, h => by
    cases b <;> simp [beqA] at h
    rw [beqL_eq x _ h]
  | .unk, b, h => by cases b <;> simp_all [beqA]
theorem beqL_eq : ∀ (a b : List AV), beqL a b = true → a = b
  | [], b, h => by cases b <;> simp_all [beqL]
  | x :: a, b, h => by
    cases b <;> simp [beqL] at h
    rw [beqA_eq x _ h.1, beqL_eq a _ h.2]
end

section
variable {P : Program} {M : Map} {st : St} {w0 w : World} {B : Nat} {ops : Array Oper} {bef : List Nat} {ord : List Nat}

def be (bef : List Nat) (i j : Nat) : Bool := ((bef[i]?).getD 0).testBit j

structure DrawF (P : Program) (ops : Array Oper) (bef : List Nat) (ord : List Nat) : Prop where
  all : ∀ i, i < ops.size → i ∈ ord
  lt : ∀ i ∈ ord, i < ops.size
  ahead : ∀ i o, ops[i]? = some o → ∀ e ∈ o.after, binding e = true → e.on < i ∧ be bef i e.on = true
  befs : ∀ i o, ops[i]? = some o → ∀ j, j < ops.size → be bef i j = true → j < i ∧ ∃ e ∈ o.after, binding e = true ∧ (e.on = j ∨ be bef e.on j = true)
  one : ∀ (i : Nat) (o : Oper) (j : Nat) (p : Oper) (d : Tmp), i ≠ j → ops[i]? = some o → ops[j]? = some p → o.dst = some d → p.dst ≠ some d ∧ (d ∈ p.looksAt ops → be bef i j = true ∨ be bef j i = true)
  self : ∀ (i : Nat) (o : Oper) (d : Tmp), ops[i]? = some o → o.dst = some d → d ∉ o.looksAt ops
  order : ord.Pairwise fun c x => x ≠ c ∧ be bef c x = false ∧ ∀ o, ops[c]? = some o → ¬ rank P o.op < 2 → be bef x c = true

theorem late_pairwise : ∀ {l : List Nat}, drawOk.late P ops bef l = true → l.Pairwise fun c x => x ≠ c ∧ be bef c x = false ∧ ∀ o, ops[c]? = some o → ¬ rank P o.op < 2 → be bef x c = true
  | [], _ => .nil
  | c :: r, h => by
    simp only [drawOk.late, Bool.and_eq_true] at h
    obtain ⟨⟨h1, h2⟩, h3⟩ := h
    refine .cons (fun x hx => ?_) (late_pairwise h3)
    have hx2 := List.all_eq_true.1 h2 x hx
    simp only [Bool.and_eq_true, Bool.not_eq_true'] at hx2
    refine ⟨fun e => ?_, hx2.1, fun o ho hr => ?_⟩
    · have := hx2.2; rw [e] at this; simp at this
    · rw [ho] at h1
      simp only [Bool.or_eq_true, decide_eq_true_eq] at h1
      exact List.all_eq_true.1 (h1.resolve_left hr) x hx

theorem DrawF.of (h : drawOk P ops bef ord = true) : DrawF P ops bef ord := by
  simp only [drawOk, Bool.and_eq_true] at h
  obtain ⟨⟨⟨⟨h1, h2⟩, h3⟩, h4⟩, h5⟩ := h
  have at4 : ∀ i o, ops[i]? = some o → i < ops.size ∧ _ := fun i o ho => ⟨(Array.getElem?_eq_some_iff.1 ho).1, (by
    have := List.all_eq_true.1 h4 i (List.mem_range.2 (Array.getElem?_eq_some_iff.1 ho).1)
    rw [ho] at this
    exact this)⟩
  refine ⟨fun i hi => ?_, fun i hi => ?_, fun i o ho e he hb => ?_, fun i o ho j hj hb => ?_, fun i o j p d hne ho hp hd => ?_, fun i o d ho hd => ?_, late_pairwise h5⟩
  · have := List.all_eq_true.1 h2 i (List.mem_range.2 hi); simpa using this
  · have := List.all_eq_true.1 h1 i hi; simpa using this
  · have h := (at4 i o ho).2
    simp only [Bool.and_eq_true] at h
    have := Array.all_eq_true_iff_forall_mem.1 h.1.1.1 e he
    simpa [hb, be] using this
  · have h := (at4 i o ho).2
    simp only [Bool.and_eq_true] at h
    have := List.all_eq_true.1 h.1.1.2 j (List.mem_range.2 hj)
    simp only [be] at hb
    rw [hb] at this
    simp only [Bool.not_true, Bool.false_or, Bool.and_eq_true, decide_eq_true_eq] at this
    refine ⟨this.1, ?_⟩
    obtain ⟨e, he, hh⟩ := Array.any_eq_true'.1 this.2
    simp only [Bool.and_eq_true, Bool.or_eq_true, beq_iff_eq] at hh
    exact ⟨e, he, hh.1, hh.2⟩
  · have h := (at4 i o ho).2
    simp only [Bool.and_eq_true] at h
    have := List.all_eq_true.1 h.1.2 j (List.mem_range.2 (at4 j p hp).1)
    rw [hp] at this
    have hij : (i == j) = false := by simpa using hne
    rw [hij, hd] at this
    simp only [Bool.false_or, Bool.and_eq_true, bne_iff_ne, Bool.or_eq_true, Bool.not_eq_true'] at this
    refine ⟨this.1, fun hl => ?_⟩
    rcases this.2 with (h' | h') | h'
    · simp [looks] at h'; exact absurd hl h'
    · exact .inl h'
    · exact .inr h'
  · have h := (at4 i o ho).2
    simp only [Bool.and_eq_true] at h
    have := h.2
    rw [hd] at this
    simpa [looks] using this

/-- A frame in the evaluator: what was written by those done; else as at first. -/
def EnvIs (ops : Array Oper) (e0 : Env) (vals : Nat → AV) (D : Nat → Prop) (e : Env) : Prop :=
  ∀ t, (∀ j o, D j → ops[j]? = some o → o.dst = some t → e.get t = vals j) ∧ ((∀ j o, D j → ops[j]? = some o → o.dst ≠ some t) → e.get t = e0.get t)
theorem EnvIs.upd {e0 e : Env} {vals vals' : Nat → AV} {D : Nat → Prop} (h : EnvIs ops e0 vals D e) (hv : ∀ j, D j → vals' j = vals j) : EnvIs ops e0 vals' D e :=
  fun t => ⟨fun j o hj ho hd => by rw [hv j hj]; exact (h t).1 j o hj ho hd, (h t).2⟩

def Rec (P : Program) (ops : Array Oper) (bef : List Nat) (e0 : Env) (pre : List Nat) (seen : List Seen) (vals : Nat → AV) (st : St) (i : Nat) (o : Oper) : Prop :=
  ∃ (e : Env) (D : Nat → Prop), EnvIs ops e0 vals D e ∧ (∀ j, D j → j ∈ pre ∧ be bef j i = false) ∧ (∀ j, j < ops.size → be bef i j = true → D j) ∧
    ((wantedA ops o e = some false ∧ vals i = undefA) ∨
     (wantedA ops o e = some true ∧ rank P o.op < 2 ∧ (∃ s, primA P e o.op st = some (vals i, s)) ∧ (rank P o.op = 1 → ∃ r ∈ seen, r.i = i ∧ r.o = o ∧ r.env = e ∧ r.v = vals i)))

structure Inv (P : Program) (ops : Array Oper) (bef : List Nat) (ord : List Nat) (w0 : World) (B nt : Nat) (e0 : Env) (pre rest : List Nat) (seen : List Seen) (vals : Nat → AV) (env : Env)
    (M : Map) (st : St) (w : World) (a : Act) (listed : Array Bool) : Prop where
  split : ord = pre ++ rest
  srel : SRel w0 M st w
  size : nt ≤ a.tmps.size
  marks : DR B M st w a.defers
  lsize : listed.size = ops.size
  inpre : ∀ i, listed.getD i false = true → i ∈ pre
  closed : ∀ i j, listed.getD i false = true → j < ops.size → be bef i j = true → listed.getD j false = true
  env : EnvIs ops e0 vals (· ∈ pre) env
  act : ∀ t, (∀ j o, listed.getD j false = true → ops[j]? = some o → o.dst = some t → VR M st.size (vals j) (a.tmps.getD t undef)) ∧
    ((∀ j o, listed.getD j false = true → ops[j]? = some o → o.dst ≠ some t) → VR M st.size (e0.get t) (a.tmps.getD t undef))
  recs : ∀ i o, i ∈ pre → listed.getD i false = false → ops[i]? = some o → Rec P ops bef e0 pre seen vals st i o

variable {nt : Nat} {e0 env : Env} {pre rest : List Nat} {seen : List Seen} {vals : Nat → AV} {a : Act} {listed : Array Bool}

theorem DrawF.split_at (hF : DrawF P ops bef ord) {i : Nat} {r : List Nat} (hs : ord = pre ++ i :: r) :
    i < ops.size ∧ (∀ j ∈ pre, j ≠ i ∧ be bef j i = false) ∧ (∀ j, j < ops.size → be bef i j = true → j ∈ pre) := by
  have hp := hF.order
  rw [hs] at hp
  have hi : i < ops.size := hF.lt i (by rw [hs]; simp)
  have h1 := List.pairwise_append.1 hp
  refine ⟨hi, fun j hj => ⟨fun e => (h1.2.2 j hj i (by simp)).1 e.symm, (h1.2.2 j hj i (by simp)).2.1⟩, fun j hj hb => ?_⟩
  have hmem := hF.all j hj
  rw [hs] at hmem
  simp only [List.mem_append, List.mem_cons] at hmem
  rcases hmem with h | h | h
  · exact h
  · subst h
    obtain ⟨o, ho⟩ : ∃ o, ops[j]? = some o := ⟨_, Array.getElem?_eq_getElem hj⟩
    exact absurd (hF.befs j o ho j hj hb).1 (by omega)
  · have := (List.rel_of_pairwise_cons h1.2.1 h).2.1
    rw [hb] at this; cases this

/-- A slot that was written by one more. -/
theorem EnvIs.put (hF : DrawF P ops bef ord) (h : EnvIs ops e0 vals (· ∈ pre) env) {i : Nat} {o : Oper} (ho : ops[i]? = some o) (hi : i ∉ pre) (v : AV) :
    EnvIs ops e0 (fun j => if j = i then v else vals j) (· ∈ pre ++ [i]) (env.put o.dst v) := by
  intro t
  refine ⟨fun j p hj hp hd => ?_, fun hno => ?_⟩
  · by_cases e : j = i
    · subst e
      rw [ho] at hp
      obtain rfl := Option.some.inj hp
      rw [hd, Env.get_put_same]
      simp
    · have hjp : j ∈ pre := by simpa [e] using hj
      simp only [e, if_false]
      have := (h t).1 j p hjp hp hd
      cases hod : o.dst with
      | none => exact this
      | some d =>
        have hdt : d ≠ t := fun e2 => (hF.one i o j p d (Ne.symm e) ho hp hod).1 (e2 ▸ hd)
        rw [Env.get_put_ne _ _ hdt]; exact this
  · have h1 := (h t).2 (fun j p hj hp => hno j p (by simp [hj]) hp)
    cases hod : o.dst with
    | none => exact h1
    | some d =>
      have hdt : d ≠ t := fun e2 => hno i o (by simp) ho (e2 ▸ hod)
      rw [Env.get_put_ne _ _ hdt]; exact h1

theorem Rec.upd {i : Nat} {o : Oper} {pre' : List Nat} {seen' : List Seen} {vals' : Nat → AV} (h : Rec P ops bef e0 pre seen vals st i o) (hp : ∀ j ∈ pre, j ∈ pre' ∧ vals' j = vals j) (hi : vals' i = vals i) (hseen : ∀ r ∈ seen, r ∈ seen') :
    Rec P ops bef e0 pre' seen' vals' st i o := by
  obtain ⟨e, D, h1, h2, h3, h4⟩ := h
  refine ⟨e, D, h1.upd fun j hj => (hp j (h2 j hj).1).2, fun j hj => ⟨(hp j (h2 j hj).1).1, (h2 j hj).2⟩, h3, ?_⟩
  rcases h4 with ⟨h4, h5⟩ | ⟨h4, h5, h6, h7⟩
  · exact .inl ⟨h4, by rw [hi]; exact h5⟩
  · refine .inr ⟨h4, h5, by rw [hi]; exact h6, fun h => ?_⟩
    obtain ⟨r, hr, h8⟩ := h7 h
    exact ⟨r, hseen r hr, by rw [hi]; exact h8⟩

/-- The evaluator goes ahead by one that changes nothing. -/
theorem Inv.ahead (hF : DrawF P ops bef ord) {i : Nat} {r : List Nat} (h : Inv P ops bef ord w0 B nt e0 pre (i :: r) seen vals env M st w a listed) {o : Oper} (ho : ops[i]? = some o) {v : AV} {seen' : List Seen} (hseen : ∀ r ∈ seen, r ∈ seen')
    (hv : (wantedA ops o env = some false ∧ v = undefA) ∨
     (wantedA ops o env = some true ∧ rank P o.op < 2 ∧ (∃ s, primA P env o.op st = some (v, s)) ∧ (rank P o.op = 1 → ∃ r ∈ seen', r.i = i ∧ r.o = o ∧ r.env = env ∧ r.v = v))) :
    Inv P ops bef ord w0 B nt e0 (pre ++ [i]) r seen' (fun j => if j = i then v else vals j) (env.put o.dst v) M st w a listed := by
  obtain ⟨hi, h1, h2⟩ := hF.split_at h.split
  have hni : i ∉ pre := fun hc => (h1 i hc).1 rfl
  have hvs : ∀ j ∈ pre, (if j = i then v else vals j) = vals j := fun j hj => if_neg (h1 j hj).1
  refine ⟨by rw [h.split]; simp, h.srel, h.size, h.marks, h.lsize, fun j hj => by simp [h.inpre j hj], h.closed, EnvIs.put hF h.env ho hni v, fun t => ⟨fun j p hj hp hd => ?_, (h.act t).2⟩, fun j p hj hl hp => ?_⟩
  · rw [hvs j (h.inpre j hj)]; exact (h.act t).1 j p hj hp hd
  · by_cases e : j = i
    · subst e
      rw [ho] at hp
      obtain rfl := Option.some.inj hp
      refine ⟨env, (· ∈ pre), h.env.upd hvs, fun k hk => ⟨by simp [hk], (h1 k hk).2⟩, h2, ?_⟩
      simpa using hv
    · have hjp : j ∈ pre := by simpa [e] using hj
      exact (h.recs j p hjp hl hp).upd (fun k hk => ⟨by simp [hk], hvs k hk⟩) (hvs j hjp) hseen

variable {call : CallP} {K : Env → St → Prop}
/-- The evaluator goes ahead as far as nothing changes. -/
theorem Inv.normal (hF : DrawF P ops bef ord) : ∀ (rest : List Nat) {pre : List Nat} {seen : List Seen} {vals : Nat → AV} {env : Env}, Inv P ops bef ord w0 B nt e0 pre rest seen vals env M st w a listed → evDraw P call ops bef rest seen K env st →
    ∃ pre' rest' seen' vals' env', Inv P ops bef ord w0 B nt e0 pre' rest' seen' vals' env' M st w a listed ∧ evDraw P call ops bef rest' seen' K env' st ∧
      (rest' = [] ∨ ∃ c r o, rest' = c :: r ∧ ops[c]? = some o ∧ wantedA ops o env' = some true ∧ ¬ rank P o.op < 2)
  | [], _, _, _, _, h, hd => ⟨_, _, _, _, _, h, hd, .inl rfl⟩
  | i :: r, pre, seen, vals, env, h, hd => by
    have hd0 := hd
    simp only [evDraw] at hd
    split at hd
    · exact hd.elim
    · rename_i o ho
      split at hd
      · exact hd.elim
      · rename_i hw
        exact Inv.normal hF r (h.ahead hF ho (fun r hr => hr) (.inl ⟨hw, rfl⟩)) hd
      · rename_i hw
        by_cases hr : rank P o.op < 2
        · rw [if_pos hr] at hd
          split at hd
          · rename_i v s hp
            refine Inv.normal hF r (h.ahead hF ho (seen' := if rank P o.op = 1 then { i, o, env, v } :: seen else seen) (fun x hx => ?_) (.inr ⟨hw, hr, ⟨s, hp⟩, fun h1 => ?_⟩)) hd
            · split
              · exact List.mem_cons_of_mem _ hx
              · exact hx
            · rw [if_pos h1]; exact ⟨_, List.mem_cons_self .., rfl, rfl, rfl, rfl⟩
          · exact hd.elim
        · exact ⟨_, _, _, _, _, h, hd0, .inr ⟨i, r, o, rfl, ho, hw, hr⟩⟩

/-- What an operation looks at is the same on both sides when it is its turn on the machine. -/
theorem Inv.looks (hF : DrawF P ops bef ord) (h : Inv P ops bef ord w0 B nt e0 pre rest seen vals env M st w a listed) {i : Nat} {o : Oper} (ho : ops[i]? = some o) (hl : listed.getD i false = false)
    (hb : ∀ j, j < ops.size → be bef i j = true → listed.getD j false = true) {e : Env} {D : Nat → Prop} (he : EnvIs ops e0 vals D e) (h1 : ∀ j, D j → be bef j i = false) (h2 : ∀ j, j < ops.size → be bef i j = true → D j)
    {t : Nat} (ht : t ∈ o.looksAt ops) : VR M st.size (e.get t) (a.tmps.getD t undef) := by
  have hi : i < ops.size := (Array.getElem?_eq_some_iff.1 ho).1
  by_cases hw : ∃ (j : Nat) (p : Oper), ops[j]? = some p ∧ p.dst = some t
  · obtain ⟨j, p, hp, hd⟩ := hw
    have hj : j < ops.size := (Array.getElem?_eq_some_iff.1 hp).1
    have hne : j ≠ i := fun e => by
      subst e
      rw [ho] at hp
      obtain rfl := Option.some.inj hp
      exact hF.self j o t ho hd ht
    have uniq : ∀ (k : Nat) (q : Oper), ops[k]? = some q → q.dst = some t → k = j := fun k q hq hqd => by
      by_cases e : k = j
      · exact e
      · exact absurd hqd (hF.one j p k q t (Ne.symm e) hp hq hd).1
    rcases (hF.one j p i o t hne hp ho hd).2 ht with hji | hij
    · have hnD : ∀ (k : Nat) (q : Oper), D k → ops[k]? = some q → q.dst ≠ some t := fun k q hk hq hqd => by
        have := uniq k q hq hqd
        subst this
        have := h1 k hk
        rw [hji] at this; cases this
      rw [(he t).2 hnD]
      refine (h.act t).2 fun k q hk hq hqd => ?_
      have := uniq k q hq hqd
      subst this
      have := h.closed k i hk hi hji
      rw [hl] at this; cases this
    · rw [(he t).1 j p (h2 j hj hij) hp hd]
      exact (h.act t).1 j p (hb j hj hij) hp hd
  · have hno : ∀ (k : Nat) (q : Oper), ops[k]? = some q → q.dst ≠ some t := fun k q hq hqd => hw ⟨k, q, hq, hqd⟩
    rw [(he t).2 fun k q _ hq => hno k q hq]
    exact (h.act t).2 fun k q _ hq => hno k q hq

theorem opR_of_looks {o : Oper} {e : Env} (h : ∀ t ∈ o.looksAt ops, VR M st.size (e.get t) (a.tmps.getD t undef)) : OpR M st.size e a o.op := by
  intro x hx
  cases x with
  | tmp t => exact h t (List.mem_append_left _ (List.mem_filterMap.2 ⟨.tmp t, by simpa using hx, rfl⟩))
  | const v => exact VR_ofVal _ _ v
  | global g => simp [Ab.opd, VR]
  | func f =>
    show VR M st.size (.func (.func f) [] []) (.func (.func f) #[] #[])
    simp only [VR]
    exact ⟨_, _, _, rfl, rfl, by simp [VRs], by simp [VRs]⟩
theorem guard_of_looks {o : Oper} {e : Env} (h : ∀ t ∈ o.looksAt ops, VR M st.size (e.get t) (a.tmps.getD t undef)) :
    ∀ j w t, o.guard = some (j, w) → (ops[j]?).bind (·.dst) = some t → VR M st.size (e.get t) (a.tmps.getD t undef) := fun j w t hg hd =>
  h t (List.mem_append_right _ (by rw [hg]; simp only; rw [hd]; simp))
end
end Go.Ab
