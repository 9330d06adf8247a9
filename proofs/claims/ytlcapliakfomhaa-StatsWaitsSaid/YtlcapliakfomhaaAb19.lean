/- THE ABSTRACT EVALUATOR, 19: regions that draw their order. -/
import Derived.Test.YtlcapliakfomhaaAb18
namespace Go.Ab
open Go.RowKit (Below)

mutual
theorem beqA_eq : ∀ (a b : AV), beqA a b = true → a = b
  | .bool a, b, h => by cases b <;> simp_all [beqA]
  | .int j a, b, h => by cases b <;> simp_all [beqA]
  | .str a, b, h => by cases b <;> simp_all [beqA]
  | .nilptr, b, h => by cases b <;> simp_all [beqA]
  | .nilslice, b, h => by cases b <;> simp_all [beqA]
  | .nilmap, b, h => by cases b <;> simp_all [beqA]
  | .zslice, b, h => by cases b <;> simp_all [beqA]
  | .nilfunc, b, h => by cases b <;> simp_all [beqA]
  | .ptr i o, b, h => by cases b <;> simp_all [beqA]
  | .slice i o l c k, b, h => by cases b <;> simp_all [beqA]
  | .eslice i k, b, h => by cases b <;> simp_all [beqA]
  | .map i, b, h => by cases b <;> simp_all [beqA]
  | .iter i, b, h => by cases b <;> simp_all [beqA]
  | .func f x y, b, h => by
    cases b <;> simp [beqA] at h
    rename_i g x' y'
    obtain ⟨⟨rfl, h1⟩, h2⟩ := h
    rw [beqL_eq x x' h1, beqL_eq y y' h2]
  | .agg x, b, h => by
    cases b <;> simp [beqA] at h
    rw [beqL_eq x _ h]
  | .tuple x, b, h => by
    cases b <;> simp [beqA] at h
    rw [beqL_eq x _ h]
  | .unk, b, h => by cases b <;> simp_all [beqA]
theorem beqL_eq : ∀ (a b : List AV), beqL a b = true → a = b
  | [], b, h => by cases b <;> simp_all [beqL]
  | x :: a, b, h => by
    cases b <;> simp [beqL] at h
    rw [beqA_eq x _ h.1, beqL_eq a _ h.2]
end

section
variable {P : Program} {M : Map} {st : St} {w0 w : World} {B : Nat} {ro rb : Option Nat} {ops : Array Oper} {bef : List Nat} {ord : List Nat}

def be (bef : List Nat) (i j : Nat) : Bool := ((bef[i]?).getD 0).testBit j

structure DrawF (P : Program) (ops : Array Oper) (bef : List Nat) (ord : List Nat) : Prop where
  all : ∀ i, i < ops.size → i ∈ ord
  lt : ∀ i ∈ ord, i < ops.size
  ahead : ∀ i o, ops[i]? = some o → ∀ e ∈ o.after, binding e = true → e.on < i ∧ be bef i e.on = true
  befs : ∀ i o, ops[i]? = some o → ∀ j, j < ops.size → be bef i j = true → j < i ∧ ∃ e ∈ o.after, binding e = true ∧ (e.on = j ∨ be bef e.on j = true)
  one : ∀ (i : Nat) (o : Oper) (j : Nat) (p : Oper) (d : Tmp), i ≠ j → ops[i]? = some o → ops[j]? = some p → o.dst = some d → p.dst ≠ some d ∧ (d ∈ p.looksAt ops → be bef i j = true ∨ be bef j i = true)
  self : ∀ (i : Nat) (o : Oper) (d : Tmp), ops[i]? = some o → o.dst = some d → d ∉ o.looksAt ops
  order : ord.Pairwise fun c x => x ≠ c ∧ be bef c x = false ∧ ∀ o, ops[c]? = some o → ¬ rank P o.op < 2 → be bef x c = true ∨ ∃ q, ops[x]? = some q ∧ isFloat P q = true

theorem late_pairwise : ∀ {l : List Nat}, drawOk.late P ops bef l = true → l.Pairwise fun c x => x ≠ c ∧ be bef c x = false ∧ ∀ o, ops[c]? = some o → ¬ rank P o.op < 2 → be bef x c = true ∨ ∃ q, ops[x]? = some q ∧ isFloat P q = true
  | [], _ => .nil
  | c :: r, h => by
    simp only [drawOk.late, Bool.and_eq_true] at h
    obtain ⟨⟨h1, h2⟩, h3⟩ := h
    refine .cons (fun x hx => ?_) (late_pairwise h3)
    have hx2 := List.all_eq_true.1 h2 x hx
    simp only [Bool.and_eq_true, Bool.not_eq_true'] at hx2
    refine ⟨fun e => ?_, hx2.1, fun o ho hr => ?_⟩
    · have := hx2.2; rw [e] at this; simp at this
    · rw [ho] at h1
      simp only [Bool.or_eq_true, decide_eq_true_eq] at h1
      have := List.all_eq_true.1 (h1.resolve_left hr) x hx
      simp only [Bool.or_eq_true] at this
      rcases this with h | h
      · exact .inl h
      · split at h
        · rename_i q hq; exact .inr ⟨q, hq, h⟩
        · cases h

theorem DrawF.of (h : drawOk P ops bef ord = true) : DrawF P ops bef ord := by
  simp only [drawOk, Bool.and_eq_true] at h
  obtain ⟨⟨⟨⟨h1, h2⟩, h3⟩, h4⟩, h5⟩ := h
  have at4 : ∀ i o, ops[i]? = some o → i < ops.size ∧ _ := fun i o ho => ⟨(Array.getElem?_eq_some_iff.1 ho).1, (by
    have := List.all_eq_true.1 h4 i (List.mem_range.2 (Array.getElem?_eq_some_iff.1 ho).1)
    rw [ho] at this
    exact this)⟩
  refine ⟨fun i hi => ?_, fun i hi => ?_, fun i o ho e he hb => ?_, fun i o ho j hj hb => ?_, fun i o j p d hne ho hp hd => ?_, fun i o d ho hd => ?_, late_pairwise h5⟩
  · have := List.all_eq_true.1 h2 i (List.mem_range.2 hi); simpa using this
  · have := List.all_eq_true.1 h1 i hi; simpa using this
  · have h := (at4 i o ho).2
    simp only [Bool.and_eq_true] at h
    have := Array.all_eq_true_iff_forall_mem.1 h.1.1.1 e he
    simpa [hb, be] using this
  · have h := (at4 i o ho).2
    simp only [Bool.and_eq_true] at h
    have := List.all_eq_true.1 h.1.1.2 j (List.mem_range.2 hj)
    simp only [be] at hb
    rw [hb] at this
    simp only [Bool.not_true, Bool.false_or, Bool.and_eq_true, decide_eq_true_eq] at this
    refine ⟨this.1, ?_⟩
    obtain ⟨e, he, hh⟩ := Array.any_eq_true'.1 this.2
    simp only [Bool.and_eq_true, Bool.or_eq_true, beq_iff_eq] at hh
    exact ⟨e, he, hh.1, hh.2⟩
  · have h := (at4 i o ho).2
    simp only [Bool.and_eq_true] at h
    have := List.all_eq_true.1 h.1.2 j (List.mem_range.2 (at4 j p hp).1)
    rw [hp] at this
    have hij : (i == j) = false := by simpa using hne
    rw [hij, hd] at this
    simp only [Bool.false_or, Bool.and_eq_true, bne_iff_ne, Bool.or_eq_true, Bool.not_eq_true'] at this
    refine ⟨this.1, fun hl => ?_⟩
    rcases this.2 with (h' | h') | h'
    · simp [looks] at h'; exact absurd hl h'
    · exact .inl h'
    · exact .inr h'
  · have h := (at4 i o ho).2
    simp only [Bool.and_eq_true] at h
    have := h.2
    rw [hd] at this
    simpa [looks] using this

/-- A frame in the evaluator: what was written by those done; else as at first. -/
def EnvIs (ops : Array Oper) (e0 : Env) (vals : Nat → AV) (D : Nat → Prop) (e : Env) : Prop :=
  ∀ t, (∀ j o, D j → ops[j]? = some o → o.dst = some t → e.get t = vals j) ∧ ((∀ j o, D j → ops[j]? = some o → o.dst ≠ some t) → e.get t = e0.get t)
theorem EnvIs.upd {e0 e : Env} {vals vals' : Nat → AV} {D : Nat → Prop} (h : EnvIs ops e0 vals D e) (hv : ∀ j, D j → vals' j = vals j) : EnvIs ops e0 vals' D e :=
  fun t => ⟨fun j o hj ho hd => by rw [hv j hj]; exact (h t).1 j o hj ho hd, (h t).2⟩

def Rec (P : Program) (ops : Array Oper) (bef : List Nat) (e0 : Env) (pre : List Nat) (seen : List Seen) (vals : Nat → AV) (st : St) (i : Nat) (o : Oper) : Prop :=
  ∃ (e : Env) (D : Nat → Prop), EnvIs ops e0 vals D e ∧ (∀ j, D j → j ∈ pre ∧ be bef j i = false) ∧ (∀ j, j < ops.size → be bef i j = true → D j) ∧
    ((wantedA ops o e = some false ∧ vals i = undefA) ∨
     (wantedA ops o e = some true ∧ rank P o.op < 2 ∧ (∃ s, primA P e o.op st = some (vals i, s)) ∧ (rank P o.op = 1 → ∃ r ∈ seen, r.i = i ∧ r.o = o ∧ r.env = e ∧ r.v = vals i)))

/-- A new variable that the machine has laid, and the evaluator not yet: its block. -/
def Early (P : Program) (ops : Array Oper) (w0 wb : World) (eb : Nat → Nat) (M : Map) (st : St) (w : World) (a : Act) (i : Nat) : Prop :=
  ∃ o t z c e, ops[i]? = some o ∧ o.op = .alloc t ∧ o.guard = none ∧ zeros P t 1 = some z ∧ w.heap[eb i]? = some (.cells c e (0, 0)) ∧ (∀ (M : Map) (n : Nat), VRs M n z c.toList) ∧ wb.heap.size ≤ eb i ∧ w0.heap.size ≤ eb i ∧
    (∀ id, id < st.size → (M id).b ≠ eb i) ∧ ∀ d, o.dst = some d → a.tmps.getD d undef = .pointer (some ⟨eb i, 0, none⟩)

structure Inv (P : Program) (ops : Array Oper) (bef : List Nat) (ord : List Nat) (w0 : World) (B : Nat) (ro rb : Option Nat) (nt : Nat) (M0 : Map) (st0 : St) (wb : World) (e0 : Env) (pre rest : List Nat) (seen : List Seen) (vals : Nat → AV) (eb : Nat → Nat) (env : Env)
    (M : Map) (st : St) (w : World) (a : Act) (listed : Array Bool) : Prop where
  split : ord = pre ++ rest
  srel : SRel w0 M st w
  size : nt ≤ a.tmps.size
  marks : DR B M st w a.defers st.dfs
  plain : st.dfs ≠ none → rb = none
  base : B ≤ w.heap.size
  ring : Ring ro rb M st
  lsize : listed.size = ops.size
  ext : Ext M0 st0 wb M st w
  inpre : ∀ i, listed.getD i false = true → i ∈ pre ∨ Early P ops w0 wb eb M st w a i
  inj : ∀ i j, listed.getD i false = true → listed.getD j false = true → i ∉ pre → j ∉ pre → eb i = eb j → i = j
  closed : ∀ i j, listed.getD i false = true → j < ops.size → be bef i j = true → listed.getD j false = true
  env : EnvIs ops e0 vals (· ∈ pre) env
  act : ∀ t, (∀ j o, listed.getD j false = true → j ∈ pre → ops[j]? = some o → o.dst = some t → VR M st.size (vals j) (a.tmps.getD t undef)) ∧
    ((∀ j o, listed.getD j false = true → ops[j]? = some o → o.dst ≠ some t) → VR M st.size (e0.get t) (a.tmps.getD t undef))
  recs : ∀ i o, i ∈ pre → listed.getD i false = false → ops[i]? = some o → Rec P ops bef e0 pre seen vals st i o

variable {nt : Nat} {e0 env : Env} {pre rest : List Nat} {seen : List Seen} {vals : Nat → AV} {eb : Nat → Nat} {M0 : Map} {st0 : St} {wb : World} {a : Act} {listed : Array Bool}

theorem DrawF.split_at (hF : DrawF P ops bef ord) {i : Nat} {r : List Nat} (hs : ord = pre ++ i :: r) :
    i < ops.size ∧ (∀ j ∈ pre, j ≠ i ∧ be bef j i = false) ∧ (∀ j, j < ops.size → be bef i j = true → j ∈ pre) := by
  have hp := hF.order
  rw [hs] at hp
  have hi : i < ops.size := hF.lt i (by rw [hs]; simp)
  have h1 := List.pairwise_append.1 hp
  refine ⟨hi, fun j hj => ⟨fun e => (h1.2.2 j hj i (by simp)).1 e.symm, (h1.2.2 j hj i (by simp)).2.1⟩, fun j hj hb => ?_⟩
  have hmem := hF.all j hj
  rw [hs] at hmem
  simp only [List.mem_append, List.mem_cons] at hmem
  rcases hmem with h | h | h
  · exact h
  · subst h
    obtain ⟨o, ho⟩ : ∃ o, ops[j]? = some o := ⟨_, Array.getElem?_eq_getElem hj⟩
    exact absurd (hF.befs j o ho j hj hb).1 (by omega)
  · have := (List.rel_of_pairwise_cons h1.2.1 h).2.1
    rw [hb] at this; cases this

/-- A slot that was written by one more. -/
theorem EnvIs.put (hF : DrawF P ops bef ord) (h : EnvIs ops e0 vals (· ∈ pre) env) {i : Nat} {o : Oper} (ho : ops[i]? = some o) (hi : i ∉ pre) (v : AV) :
    EnvIs ops e0 (fun j => if j = i then v else vals j) (· ∈ pre ++ [i]) (env.put o.dst v) := by
  intro t
  refine ⟨fun j p hj hp hd => ?_, fun hno => ?_⟩
  · by_cases e : j = i
    · subst e
      rw [ho] at hp
      obtain rfl := Option.some.inj hp
      rw [hd, Env.get_put_same]
      simp
    · have hjp : j ∈ pre := by simpa [e] using hj
      simp only [e, if_false]
      have := (h t).1 j p hjp hp hd
      cases hod : o.dst with
      | none => exact this
      | some d =>
        have hdt : d ≠ t := fun e2 => (hF.one i o j p d (Ne.symm e) ho hp hod).1 (e2 ▸ hd)
        rw [Env.get_put_ne _ _ hdt]; exact this
  · have h1 := (h t).2 (fun j p hj hp => hno j p (by simp [hj]) hp)
    cases hod : o.dst with
    | none => exact h1
    | some d =>
      have hdt : d ≠ t := fun e2 => hno i o (by simp) ho (e2 ▸ hod)
      rw [Env.get_put_ne _ _ hdt]; exact h1

theorem Rec.upd {i : Nat} {o : Oper} {pre' : List Nat} {seen' : List Seen} {vals' : Nat → AV} (h : Rec P ops bef e0 pre seen vals st i o) (hp : ∀ j ∈ pre, j ∈ pre' ∧ vals' j = vals j) (hi : vals' i = vals i) (hseen : ∀ r ∈ seen, r ∈ seen') :
    Rec P ops bef e0 pre' seen' vals' st i o := by
  obtain ⟨e, D, h1, h2, h3, h4⟩ := h
  refine ⟨e, D, h1.upd fun j hj => (hp j (h2 j hj).1).2, fun j hj => ⟨(hp j (h2 j hj).1).1, (h2 j hj).2⟩, h3, ?_⟩
  rcases h4 with ⟨h4, h5⟩ | ⟨h4, h5, h6, h7⟩
  · exact .inl ⟨h4, by rw [hi]; exact h5⟩
  · refine .inr ⟨h4, h5, by rw [hi]; exact h6, fun h => ?_⟩
    obtain ⟨r, hr, h8⟩ := h7 h
    exact ⟨r, hseen r hr, by rw [hi]; exact h8⟩

/-- The evaluator goes ahead by one that changes nothing. -/
theorem Inv.ahead (hF : DrawF P ops bef ord) {i : Nat} {r : List Nat} (h : Inv P ops bef ord w0 B ro rb nt M0 st0 wb e0 pre (i :: r) seen vals eb env M st w a listed) {o : Oper} (ho : ops[i]? = some o) {v : AV} {seen' : List Seen} (hseen : ∀ r ∈ seen, r ∈ seen')
    (hv : (wantedA ops o env = some false ∧ v = undefA) ∨
     (wantedA ops o env = some true ∧ rank P o.op < 2 ∧ (∃ s, primA P env o.op st = some (v, s)) ∧ (rank P o.op = 1 → ∃ r ∈ seen', r.i = i ∧ r.o = o ∧ r.env = env ∧ r.v = v))) :
    Inv P ops bef ord w0 B ro rb nt M0 st0 wb e0 (pre ++ [i]) r seen' (fun j => if j = i then v else vals j) eb (env.put o.dst v) M st w a listed := by
  obtain ⟨hi, h1, h2⟩ := hF.split_at h.split
  have hni : i ∉ pre := fun hc => (h1 i hc).1 rfl
  have hli : listed.getD i false = false := by
    cases hl : listed.getD i false with
    | false => rfl
    | true =>
      rcases h.inpre i hl with hp | ⟨o', t, z, c, e, ho', hop, hg, _⟩
      · exact absurd hp hni
      · rw [ho] at ho'
        obtain rfl := Option.some.inj ho'
        rcases hv with ⟨hw, _⟩ | ⟨_, hr, _⟩
        · simp [wantedA, hg] at hw
        · rw [hop] at hr; simp [rank] at hr
  have hvs : ∀ j ∈ pre, (if j = i then v else vals j) = vals j := fun j hj => if_neg (h1 j hj).1
  refine ⟨by rw [h.split]; simp, h.srel, h.size, h.marks, h.plain, h.base, h.ring, h.lsize, h.ext, fun j hj => (h.inpre j hj).imp (fun h => by simp [h]) id, fun j k hj hk hjp hkp => h.inj j k hj hk (fun h => hjp (by simp [h])) (fun h => hkp (by simp [h])), h.closed, EnvIs.put hF h.env ho hni v,
    fun t => ⟨fun j p hj hjp hp hd => ?_, (h.act t).2⟩, fun j p hj hl hp => ?_⟩
  · have hji : j ≠ i := fun e => by rw [e, hli] at hj; cases hj
    have hjp : j ∈ pre := by simpa [hji] using hjp
    rw [hvs j hjp]; exact (h.act t).1 j p hj hjp hp hd
  · by_cases e : j = i
    · subst e
      rw [ho] at hp
      obtain rfl := Option.some.inj hp
      refine ⟨env, (· ∈ pre), h.env.upd hvs, fun k hk => ⟨by simp [hk], (h1 k hk).2⟩, h2, ?_⟩
      simpa using hv
    · have hjp : j ∈ pre := by simpa [e] using hj
      exact (h.recs j p hjp hl hp).upd (fun k hk => ⟨by simp [hk], hvs k hk⟩) (hvs j hjp) hseen

variable {call : CallP} {K : Env → St → Prop}
theorem stillAll_spec {K : Prop} : ∀ {l : List Seen}, stillAll P st l K → K ∧ ∀ r ∈ l, ∃ s, primA P r.env r.o.op st = some (r.v, s)
  | [], h => ⟨h, fun _ h => by cases h⟩
  | r :: l, h => by
    simp only [stillAll, still] at h
    split at h
    · rename_i v s hp
      split at h
      · rename_i hb
        obtain ⟨h1, h2⟩ := stillAll_spec h
        refine ⟨h1, fun x hx => ?_⟩
        rcases List.mem_cons.1 hx with rfl | hx
        · rw [← beqA_eq _ _ hb]; exact ⟨s, hp⟩
        · exact h2 x hx
      · exact h.elim
    · exact h.elim

theorem DRs.pushed {p : Place} {o : AO} {c : Array Value} {e : TypeId} {fz : Nat × Nat} (hp : w.heap[p.b]? = some (.cells c e fz)) : ∀ {ds : List Deferred} {l : List AV}, DRs B M st w ds l → DRs B (Mput M st.size p) (st.push o) w ds l
  | [], _, h => h
  | d :: ds, _, .inl ⟨⟨r, h1, h2, h3, h4, h5⟩, h⟩ => .inl ⟨⟨r, h1, h2, h3, fun i hi e => by
      by_cases ei : i = st.size
      · subst ei; rw [Mput_same] at e; rw [e, h3] at hp; cases hp
      · rw [Mput_lt _ _ _ i (by simp at hi; omega)] at e; exact h4 i (by simp at hi; omega) e, h5⟩, DRs.pushed hp h⟩
  | d :: ds, _, .inr ⟨g, f1, c1, l', c2, e, h1, h2, h3, h⟩ => .inr ⟨g, f1, c1, l', c2, e, h1, h2.mono (by simp) (Mput_lt _ _ _), h3.mono (by simp) (Mput_lt _ _ _), DRs.pushed hp h⟩

/-- What was read before is so still. -/
theorem Rec.on {i j : Nat} {o p : Oper} {st' : St} {v : AV} (hj : Rec P ops bef e0 pre seen vals st j p) (hni : ∀ k ∈ pre, k ≠ i) (hjp : j ∈ pre) (hbe : be bef i j = false)
    (hstill : ∀ r ∈ seen.filter (fun r => !(((bef[i]?).getD 0).testBit r.i)), ∃ s, primA P r.env r.o.op st' = some (r.v, s)) :
    Rec P ops bef e0 (pre ++ [i]) (seen.filter fun r => !(((bef[i]?).getD 0).testBit r.i)) (fun j => if j = i then v else vals j) st' j p := by
  obtain ⟨e, D, he, hD, hbD, hv⟩ := hj
  have hvs : ∀ k ∈ pre, (if k = i then v else vals k) = vals k := fun k hk => if_neg (hni k hk)
  refine ⟨e, D, he.upd fun y hy => hvs y (hD y hy).1, fun y hy => ⟨by simp [(hD y hy).1], (hD y hy).2⟩, hbD, ?_⟩
  have hvj := hvs j hjp
  have hkeep : ∀ q : Seen, q.i = j → (!((bef[i]?).getD 0).testBit q.i) = true := fun q hq => by
    rw [hq]; unfold be at hbe; rw [hbe]; rfl
  rcases hv with ⟨hv1, hv2⟩ | ⟨hv1, hv2, ⟨s, hp1⟩, hv3⟩
  · exact .inl ⟨hv1, by simp only [hvj]; exact hv2⟩
  · refine .inr ⟨hv1, hv2, ?_, fun hr1 => ?_⟩
    · simp only [hvj]
      by_cases hr0 : rank P p.op = 0
      · exact ⟨_, (prim0_any hr0 hp1 st').2⟩
      · obtain ⟨q, hq, q1, q2, q3, q4⟩ := hv3 (by omega)
        obtain ⟨s', hs2⟩ := hstill q (List.mem_filter.2 ⟨hq, hkeep q q1⟩)
        rw [q2, q3, q4] at hs2
        exact ⟨s', hs2⟩
    · obtain ⟨q, hq, q1, q2, q3, q4⟩ := hv3 hr1
      exact ⟨q, List.mem_filter.2 ⟨hq, hkeep q q1⟩, q1, q2, q3, by simp only [hvj]; exact q4⟩

/-- The evaluator goes ahead over a new variable that the machine has laid. -/
theorem Inv.early (hF : DrawF P ops bef ord) {i : Nat} {r : List Nat} (h : Inv P ops bef ord w0 B ro rb nt M0 st0 wb e0 pre (i :: r) seen vals eb env M st w a listed) {o : Oper} (ho : ops[i]? = some o) (hl : listed.getD i false = true)
    (hd : evDraw P call ops bef (i :: r) seen K env st) : ∃ seen' M' st', Inv P ops bef ord w0 B ro rb nt M0 st0 wb e0 (pre ++ [i]) r seen' (fun j => if j = i then .ptr st.size 0 else vals j) eb (env.put o.dst (.ptr st.size 0)) M' st' w a listed ∧
      evDraw P call ops bef r seen' K (env.put o.dst (.ptr st.size 0)) st' := by
  obtain ⟨hi, h1, h2⟩ := hF.split_at h.split
  have hni : i ∉ pre := fun hc => (h1 i hc).1 rfl
  obtain ⟨o', t, z, c, e, ho', hop, hg, hz, hheap, hzr, hwb, hw0, hown, hslot⟩ := (h.inpre i hl).resolve_left hni
  rw [ho] at ho'
  obtain rfl := Option.some.inj ho'
  have hr : ¬ rank P o.op < 2 := by rw [hop]; simp [rank]
  have hw : wantedA ops o env = some true := by simp [wantedA, hg]
  simp only [evDraw, ho, hw, if_neg hr] at hd
  unfold evOp at hd
  rw [hop] at hd
  simp only [primA, hz, newCells] at hd
  obtain ⟨hk, hstill⟩ := stillAll_spec hd
  have hlt : eb i < w.heap.size := (Array.getElem?_eq_some_iff.1 hheap).1
  have hs' : SRel w0 (Mput M st.size ⟨eb i, 0, c.size⟩) (st.push (.cells true z)) w := by
    refine h.srel.push (.cells true z) ⟨eb i, 0, c.size⟩ (Foll.refl w) (fun _ _ => rfl) ⟨c, e, (0, 0), hheap, fun k x hx => ?_, fun _ => ⟨hw0, rfl, .inl rfl⟩, fun h => by cases h⟩ (fun _ j hj _ => hown j hj) hlt
    obtain ⟨y, hy, hv⟩ := (hzr (Mput M st.size ⟨eb i, 0, c.size⟩) (st.size + 1)).get hx
    exact ⟨y, by simpa using hy, hv⟩
  have hM := Mput_lt M st.size ⟨eb i, 0, c.size⟩
  have hvs : ∀ j ∈ pre, (if j = i then (.ptr st.size 0 : AV) else vals j) = vals j := fun j hj => if_neg (h1 j hj).1
  refine ⟨_, Mput M st.size ⟨eb i, 0, c.size⟩, st.push (.cells true z), ⟨by rw [h.split]; simp, hs', h.size, ?_, h.plain, h.base, ⟨h.ring.1, fun l hl => ⟨by have := (h.ring.2 l hl).1; simp; omega, by rw [hM l (h.ring.2 l hl).1]; exact (h.ring.2 l hl).2⟩⟩, h.lsize, ?_, fun j hj => ?_,
    fun j k hj hk hjp hkp => h.inj j k hj hk (fun h => hjp (by simp [h])) (fun h => hkp (by simp [h])), h.closed, EnvIs.put hF h.env ho hni _, fun t => ⟨fun j p hj hjp hp hd => ?_, fun hno => ((h.act t).2 hno).mono (by simp) hM⟩, fun j p hj hlj hp => ?_⟩, hk⟩
  · have := h.marks
    cases hdf : st.dfs with
    | none => rw [hdf] at this; show DR B _ _ w a.defers st.dfs; rw [hdf]; exact this
    | some l => rw [hdf] at this; show DR B _ _ w a.defers st.dfs; rw [hdf]; exact DRs.pushed hheap this
  · refine ⟨Nat.le_trans h.ext.size (by simp), fun j hj => ?_, h.ext.heap, h.ext.frame, fun j hj hj' => ?_⟩
    · rw [hM j (Nat.lt_of_lt_of_le hj h.ext.size)]; exact h.ext.map j hj
    · by_cases ej : j = st.size
      · subst ej; rw [Mput_same]; exact .inl hwb
      · rw [hM j (by simp at hj'; omega)]; exact h.ext.fresh j hj (by simp at hj'; omega)
  · rcases h.inpre j hj with hp | ⟨o2, t2, z2, c2, e2, q1, q2, q3, q4, q5, q6, q7, q8, q9, q10⟩
    · exact .inl (by simp [hp])
    · by_cases ej : j = i
      · exact .inl (by simp [ej])
      · by_cases hjp : j ∈ pre
        · exact .inl (by simp [hjp])
        · refine .inr ⟨o2, t2, z2, c2, e2, q1, q2, q3, q4, q5, q6, q7, q8, fun id hid e => ?_, q10⟩
          by_cases ei : id = st.size
          · subst ei
            rw [Mput_same] at e
            exact ej (h.inj j i hj hl hjp hni e.symm)
          · rw [hM id (by simp at hid; omega)] at e
            exact q9 id (by simp at hid; omega) e
  · by_cases ej : j = i
    · subst ej
      rw [ho] at hp
      obtain rfl := Option.some.inj hp
      rw [if_pos rfl, hslot t hd]
      simp only [VR, Mput_same, St.size_push]
      exact ⟨by omega, by simp⟩
    · have hjp : j ∈ pre := by simpa [ej] using hjp
      rw [hvs j hjp]
      exact ((h.act t).1 j p hj hjp hp hd).mono (by simp) hM
  · have hji : j ≠ i := fun e => by rw [e, hl] at hlj; cases hlj
    have hjp : j ∈ pre := by simpa [hji] using hj
    refine (h.recs j p hjp hlj hp).on (o := o) (fun k hk => (h1 k hk).1) hjp ?_ hstill
    cases hb : be bef i j with
    | false => rfl
    | true =>
      have := h.closed i j hl (Array.getElem?_eq_some_iff.1 hp).1 hb
      rw [hlj] at this; cases this

/-- The evaluator goes ahead as far as nothing changes, or what changes the machine has done. -/
theorem Inv.normal (hF : DrawF P ops bef ord) : ∀ (rest : List Nat) {pre : List Nat} {seen : List Seen} {vals : Nat → AV} {env : Env} {M : Map} {st : St}, Inv P ops bef ord w0 B ro rb nt M0 st0 wb e0 pre rest seen vals eb env M st w a listed → evDraw P call ops bef rest seen K env st →
    ∃ pre' rest' seen' vals' env' M' st', Inv P ops bef ord w0 B ro rb nt M0 st0 wb e0 pre' rest' seen' vals' eb env' M' st' w a listed ∧ evDraw P call ops bef rest' seen' K env' st' ∧ (∀ j ∈ pre, j ∈ pre') ∧
      (rest' = [] ∨ ∃ c r o, rest' = c :: r ∧ ops[c]? = some o ∧ wantedA ops o env' = some true ∧ ¬ rank P o.op < 2 ∧ listed.getD c false = false)
  | [], _, _, _, _, _, _, h, hd => ⟨_, _, _, _, _, _, _, h, hd, fun _ h => h, .inl rfl⟩
  | i :: r, pre, seen, vals, env, M, st, h, hd => by
    have hd0 := hd
    simp only [evDraw] at hd
    split at hd
    · exact hd.elim
    · rename_i o ho
      cases hl : listed.getD i false with
      | true =>
        obtain ⟨seen', M', st', h', hd'⟩ := h.early hF ho hl hd0
        obtain ⟨p, r', s', v', e', M2, st2, g1, g2, g3, g4⟩ := Inv.normal hF r h' hd'
        exact ⟨p, r', s', v', e', M2, st2, g1, g2, fun j hj => g3 j (by simp [hj]), g4⟩
      | false =>
        split at hd
        · exact hd.elim
        · rename_i hw
          obtain ⟨p, r', s', v', e', M2, st2, g1, g2, g3, g4⟩ := Inv.normal hF r (h.ahead hF ho (fun r hr => hr) (.inl ⟨hw, rfl⟩)) hd
          exact ⟨p, r', s', v', e', M2, st2, g1, g2, fun j hj => g3 j (by simp [hj]), g4⟩
        · rename_i hw
          by_cases hr : rank P o.op < 2
          · rw [if_pos hr] at hd
            split at hd
            · rename_i v s hp
              obtain ⟨p, r', s', v', e', M2, st2, g1, g2, g3, g4⟩ := Inv.normal hF r (h.ahead hF ho (seen' := if rank P o.op = 1 then { i, o, env, v } :: seen else seen) (fun x hx => by
                split
                · exact List.mem_cons_of_mem _ hx
                · exact hx) (.inr ⟨hw, hr, ⟨s, hp⟩, fun h1 => by rw [if_pos h1]; exact ⟨_, List.mem_cons_self .., rfl, rfl, rfl, rfl⟩⟩)) hd
              exact ⟨p, r', s', v', e', M2, st2, g1, g2, fun j hj => g3 j (by simp [hj]), g4⟩
            · exact hd.elim
          · exact ⟨_, _, _, _, _, _, _, h, hd0, fun _ h => h, .inr ⟨i, r, o, rfl, ho, hw, hr, hl⟩⟩

/-- What an operation looks at is the same on both sides when it is its turn on the machine. -/
theorem Inv.looks (hF : DrawF P ops bef ord) (h : Inv P ops bef ord w0 B ro rb nt M0 st0 wb e0 pre rest seen vals eb env M st w a listed) {i : Nat} {o : Oper} (ho : ops[i]? = some o) (hl : listed.getD i false = false)
    (hb : ∀ j, j < ops.size → be bef i j = true → listed.getD j false = true) {e : Env} {D : Nat → Prop} (he : EnvIs ops e0 vals D e) (h0 : ∀ j, D j → j ∈ pre) (h1 : ∀ j, D j → be bef j i = false) (h2 : ∀ j, j < ops.size → be bef i j = true → D j)
    {t : Nat} (ht : t ∈ o.looksAt ops) : VR M st.size (e.get t) (a.tmps.getD t undef) := by
  have hi : i < ops.size := (Array.getElem?_eq_some_iff.1 ho).1
  by_cases hw : ∃ (j : Nat) (p : Oper), ops[j]? = some p ∧ p.dst = some t
  · obtain ⟨j, p, hp, hd⟩ := hw
    have hj : j < ops.size := (Array.getElem?_eq_some_iff.1 hp).1
    have hne : j ≠ i := fun e => by
      subst e
      rw [ho] at hp
      obtain rfl := Option.some.inj hp
      exact hF.self j o t ho hd ht
    have uniq : ∀ (k : Nat) (q : Oper), ops[k]? = some q → q.dst = some t → k = j := fun k q hq hqd => by
      by_cases e : k = j
      · exact e
      · exact absurd hqd (hF.one j p k q t (Ne.symm e) hp hq hd).1
    rcases (hF.one j p i o t hne hp ho hd).2 ht with hji | hij
    · have hnD : ∀ (k : Nat) (q : Oper), D k → ops[k]? = some q → q.dst ≠ some t := fun k q hk hq hqd => by
        have := uniq k q hq hqd
        subst this
        have := h1 k hk
        rw [hji] at this; cases this
      rw [(he t).2 hnD]
      refine (h.act t).2 fun k q hk hq hqd => ?_
      have := uniq k q hq hqd
      subst this
      have := h.closed k i hk hi hji
      rw [hl] at this; cases this
    · rw [(he t).1 j p (h2 j hj hij) hp hd]
      exact (h.act t).1 j p (hb j hj hij) (h0 j (h2 j hj hij)) hp hd
  · have hno : ∀ (k : Nat) (q : Oper), ops[k]? = some q → q.dst ≠ some t := fun k q hq hqd => hw ⟨k, q, hq, hqd⟩
    rw [(he t).2 fun k q _ hq => hno k q hq]
    exact (h.act t).2 fun k q _ hq => hno k q hq

theorem opR_of_looks {o : Oper} {e : Env} (h : ∀ t ∈ o.looksAt ops, VR M st.size (e.get t) (a.tmps.getD t undef)) : OpR M st.size e a o.op := by
  intro x hx
  cases x with
  | tmp t => exact h t (List.mem_append_left _ (List.mem_filterMap.2 ⟨.tmp t, by simpa using hx, rfl⟩))
  | const v => exact VR_ofVal _ _ v
  | global g => simp [Ab.opd, VR]
  | func f =>
    show VR M st.size (.func (.func f) [] []) (.func (.func f) #[] #[])
    simp only [VR]
    exact ⟨_, _, _, rfl, rfl, by simp [VRs], by simp [VRs]⟩
theorem guard_of_looks {o : Oper} {e : Env} (h : ∀ t ∈ o.looksAt ops, VR M st.size (e.get t) (a.tmps.getD t undef)) :
    ∀ j w t, o.guard = some (j, w) → (ops[j]?).bind (·.dst) = some t → VR M st.size (e.get t) (a.tmps.getD t undef) := fun j w t hg hd =>
  h t (List.mem_append_right _ (by rw [hg]; simp only; rw [hd]; simp))
end
end Go.Ab
