/- THE ABSTRACT EVALUATOR, 30: long closed runs in pieces: what was shown of a call in one store is used where it is met. -/
import Derived.Test.YtkjdkaaekpammabGreatAb28
namespace Go.Ab
/-- Whose call, in a store of how many objects, and what is known of it. -/
abbrev Cut := Nat × Nat × Spec
def findCut (g : Nat) (st : St) : List Cut → Option Spec
  | [] => none
  | c :: r => match Nat.beq c.1 g with
    | true => match Nat.beq c.2.1 st.objs.length with
      | true => some c.2.2
      | false => findCut g st r
    | false => findCut g st r
def callT (P : Program) (T : List Cut) (m : Nat) : Nat → CallP
  | 0 => fun _ _ _ _ => False
  | n + 1 => fun f args st Q => match f with
    | .func g => match findCut g st T with
      | some s => s args st Q
      | none => match P.funcs[g]? with
        | some fn => match fn.body with
          | some c => evBody P (callT P T m n) (LoopF m) fn c args st Q
          | none => False
        | none => False
    | .yield l => evRound P (callT P T m n) (LoopF m) l args st Q
    | _ => False
/-- What is known of a call: these arguments, this store, this answer, this store behind. -/
def known (A : List AV) (S : OS) (r : AV) (S' : OS) : Spec := fun args st Q => (args = A ∧ st.objs = S) ∧ Q r ⟨S', some []⟩
/-- What nobody needs is forgotten. -/
def forget : List Bool → OS → OS
  | true :: m, o :: s => o :: forget m s
  | false :: m, _ :: s => .dead :: forget m s
  | [], s => s
  | _, [] => []
/-- Objects set. -/
def upd (o : OS) : List (Nat × AO) → OS
  | [] => o
  | (i, x) :: r => upd (o.set i x) r
theorem forget_get : ∀ (m : List Bool) (o : OS) (i : Nat), ((forget m o)[i]?).getD .dead = .dead ∨ ((forget m o)[i]?).getD .dead = (o[i]?).getD .dead
  | true :: m, x :: s, 0 => by simp [forget]
  | true :: m, x :: s, i + 1 => by simpa [forget] using forget_get m s i
  | false :: m, x :: s, 0 => by simp [forget]
  | false :: m, x :: s, i + 1 => by simpa [forget] using forget_get m s i
  | [], s, i => by simp [forget]
  | true :: _, [], i => by simp [forget]
  | false :: _, [], i => by simp [forget]
theorem forget_len : ∀ (m : List Bool) (o : OS), (forget m o).length = o.length
  | true :: m, x :: s => by simp [forget, forget_len m s]
  | false :: m, x :: s => by simp [forget, forget_len m s]
  | [], s => by simp [forget]
  | true :: _, [] => by simp [forget]
  | false :: _, [] => by simp [forget]
section
variable {P : Program}
def HoldsT (P : Program) (T : List Cut) : Prop := ∀ c ∈ T, ∀ args st (Q Q' : AV → St → Prop), (∀ v s, Q v s → Q' v s) → c.2.2 args st Q → CallOk P (.func c.1) args st Q'
theorem findCut_mem {g : Nat} {st : St} : ∀ {T : List Cut} {s : Spec}, findCut g st T = some s → ∃ k, (g, k, s) ∈ T
  | [], s, h => by simp [findCut] at h
  | (a, b, c) :: r, s, h => by
    unfold findCut at h
    split at h
    · rename_i ha
      split at h
      · cases h
        have := Nat.eq_of_beq_eq_true ha
        simp only at this
        subst this
        exact ⟨b, by simp⟩
      · obtain ⟨k, hk⟩ := findCut_mem h; exact ⟨k, by simp [hk]⟩
    · obtain ⟨k, hk⟩ := findCut_mem h; exact ⟨k, by simp [hk]⟩
theorem CallOk.of_callT (hS : Sane P) {T : List Cut} (hT : HoldsT P T) {m : Nat} : ∀ n, CM (callT P T m n) (CallOk P)
  | 0 => fun _ _ _ _ _ _ h => h.elim
  | n + 1 => fun f args st Q Q' hQ h => by
    simp only [callT] at h
    split at h
    · split at h
      · rename_i s hs
        obtain ⟨k, hk⟩ := findCut_mem hs
        exact hT _ hk args st Q Q' hQ h
      · refine evCall_sound hS (call := CallOk P) (fun _ _ _ _ h => h) ?_
        unfold evCall
        split at h
        · simp only [*]
          split at h
          · simp only [*]
            exact evBody_mono (CallOk.of_callT hS hT n) (LoopF_mono m) (fun _ _ h => .inl (hQ _ _ h)) h
          · exact h.elim
        · exact h.elim
    · refine evCall_sound hS (call := CallOk P) (fun _ _ _ _ h => h) ?_
      unfold evCall
      exact evRound_mono (CallOk.of_callT hS hT n) (LoopF_mono m) hQ h
    · exact h.elim
theorem SRel.forget {w0 : World} {M : Map} {o : OS} {d : Option (List AV)} {w : World} (h : SRel w0 M ⟨o, d⟩ w) (m : List Bool) (d' : Option (List AV)) : SRel w0 M ⟨forget m o, d'⟩ w := by
  have hl := forget_len m o
  refine ⟨h.below, fun id hid => ?_, fun i j hi hj h1 h2 => ?_, fun i hi => h.bnd i (by simpa [St.size, hl] using hi)⟩
  · have hid' : id < St.size ⟨o, d⟩ := by simpa [St.size, hl] using hid
    have ho := h.objs id hid'
    have e : St.size ⟨Ab.forget m o, d'⟩ = St.size ⟨o, d⟩ := by simp [St.size, hl]
    rw [e]
    show ORel _ M _ (((Ab.forget m o)[id]?).getD .dead) (M id) w
    rcases forget_get m o id with hd | hd
    · rw [hd]; exact trivial
    · rw [hd]; exact ho
  · have hi' : i < St.size ⟨o, d⟩ := by simpa [St.size, hl] using hi
    have hj' : j < St.size ⟨o, d⟩ := by simpa [St.size, hl] using hj
    have key : ∀ k, (St.get ⟨Ab.forget m o, d'⟩ k).own = true → (St.get ⟨o, d⟩ k).own = true := by
      intro k hk
      rcases forget_get m o k with hd | hd
      · have : St.get ⟨Ab.forget m o, d'⟩ k = .dead := hd
        rw [this] at hk; simp [AO.own] at hk
      · have : St.get ⟨Ab.forget m o, d'⟩ k = St.get ⟨o, d⟩ k := hd
        rwa [this] at hk
    exact h.inj i j hi' hj' (key i h1) (key j h2)
/-- A piece. -/
theorem CallOk.piece (hS : Sane P) {T : List Cut} (hT : HoldsT P T) {g : Nat} {A : List AV} {S S' : OS} {r : AV} {m : List Bool} {a b : Nat} {X : Prop} (hX : X)
    (h : callT P T a b (.func g) A ⟨S, some []⟩ (fun v s => v = r ∧ forget m s.objs = S') = X) : ∀ args st (Q Q' : AV → St → Prop), (∀ v s, Q v s → Q' v s) → known A S r S' args st Q → CallOk P (.func g) args st Q' := by
  rintro args ⟨o, d⟩ Q Q' hQ ⟨⟨rfl, rfl⟩, hq⟩
  have h := CallOk.of_callT hS hT b (.func g) args ⟨o, some []⟩ _ _ (fun _ _ h => h) (h.symm ▸ hX)
  have hQ' := hQ _ _ hq
  refine ⟨h.1, fun w0 M w args' hs ha => ?_⟩
  have hs0 : SRel w0 M ⟨o, some []⟩ w := ⟨hs.below, hs.objs, hs.inj, hs.bnd⟩
  have post : ∀ e w', CallPost w0 M ⟨o, some []⟩ w (fun v s => v = r ∧ Ab.forget m s.objs = S') e w' → CallPost w0 M ⟨o, d⟩ w Q' e w' := by
    rintro e w' ⟨v, x, st', M', h1, ⟨h2, h3⟩, h4, h5, h6⟩
    obtain ⟨o', d'⟩ := st'
    subst h2
    simp only at h3
    subst h3
    have hl := forget_len m o'
    refine ⟨v, x, ⟨Ab.forget m o', some []⟩, M', h1, hQ', by simpa [St.size, hl] using h4, h5.forget m _, ⟨by simpa [St.size, hl] using h6.size, h6.map, h6.heap, h6.frame, fun i hi hi' => h6.fresh i hi (by simpa [St.size, hl] using hi')⟩⟩
  exact ⟨(h.2 w0 M w args' hs0 ha).1.mono post, fun u => ((h.2 w0 M w args' hs0 ha).2 u).mono fun e u' w' hp => ⟨hp.1, post e w' hp.2⟩⟩
theorem HoldsT.nil : HoldsT P [] := fun c h => by cases h
theorem HoldsT.cons {g k : Nat} {s : Spec} {T : List Cut} (h : ∀ args st (Q Q' : AV → St → Prop), (∀ v s, Q v s → Q' v s) → s args st Q → CallOk P (.func g) args st Q') (hT : HoldsT P T) : HoldsT P ((g, k, s) :: T) := by
  intro c hc
  rcases List.mem_cons.1 hc with rfl | hc
  · exact h
  · exact hT c hc
/-- A closed call whose pieces are known. -/
theorem Go.alone' (hS : Sane P) {f : Nat} {args : List AV} {r : AV} {o : OS} {K : AV → OS → Prop} (ha : args.all AV.flat = true) (hr : r.flat = true) (h : CallOk P (.func f) args ⟨[], some []⟩ fun v _ => v = r) (hK : K r o) : Go P f args o K := by
  refine ⟨h.1, fun w0 M w args' hs hargs => ?_⟩
  have hs0 : SRel w0 M ⟨[], some []⟩ w := ⟨hs.below, fun id hid => by simp [St.size] at hid, fun i j hi => by simp [St.size] at hi, fun i hi => by simp [St.size] at hi⟩
  have ha0 : VRs M (St.size ⟨[], some []⟩) args args'.toList := VRs.flat (M := M) (M' := M) (n := (mk o).size) AV.flat (fun x v hx hv => hv.flat hx) ha hargs
  have post : ∀ e w', CallPost w0 M ⟨[], some []⟩ w (fun v _ => v = r) e w' → CallPost w0 M (mk o) w (fun v s => K v s.objs) e w' := by
    rintro e w' ⟨v, x, st', M', rfl, rfl, hv, hs', hx⟩
    have hframe : ∀ b, b < w.heap.size → w'.heap[b]? = w.heap[b]? := fun b hb => hx.frame b hb fun i hi => by simp [St.size] at hi
    refine ⟨v, x, mk o, M, rfl, hK, hv.flat hr, ⟨hs'.below, fun id hid => (hs.objs id hid).of_block (hframe _ (hs.bnd id hid)), hs.inj, fun i hi => Nat.lt_of_lt_of_le (hs.bnd i hi) hx.heap⟩, ⟨Nat.le_refl _, fun _ _ => rfl, hx.heap, fun b hb _ => hframe b hb, fun i h h' => by omega⟩⟩
  exact ⟨(h.2 w0 M w args' hs0 ha0).1.mono post, fun u => ((h.2 w0 M w args' hs0 ha0).2 u).mono fun e u' w' hp => ⟨hp.1, post e w' hp.2⟩⟩
end
end Go.Ab
