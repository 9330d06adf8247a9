/- THE ABSTRACT EVALUATOR, 17: what holds more follows; the meaning of a call unfolds; it may be evaluated with fuel. -/
import Derived.Test.YtlcapliakfomhaaAb2
namespace Go.Ab

/-- Of calls: with a weaker condition behind. -/
def CM (call call' : CallP) : Prop := ∀ f args st (Q Q' : AV → St → Prop), (∀ v s, Q v s → Q' v s) → call f args st Q → call' f args st Q'
def LM (L L' : LoopP) : Prop := ∀ (F F' : (List AV → St → Prop) → List AV → St → Prop),
  (∀ X X' : List AV → St → Prop, (∀ v s, X v s → X' v s) → ∀ v s, F X v s → F' X' v s) → ∀ v s, L F v s → L' F' v s

theorem allP_iff {α : Type} {K : α → Prop} : ∀ {l : List α}, allP K l ↔ ∀ x ∈ l, K x
  | [] => by simp [allP]
  | [a] => by simp [allP]
  | a :: b :: r => by
    simp only [allP, List.mem_cons, forall_eq_or_imp]
    rw [allP_iff (l := b :: r)]
    simp

section
variable {P : Program} {call call' : CallP} {L L' : LoopP}
theorem evOp_mono (hc : CM call call') {K K' : AV → St → Prop} (hK : ∀ v s, K v s → K' v s) {env : Env} {o : Oper} {st : St} : evOp P call env o st K → evOp P call' env o st K' := by
  unfold evOp
  split
  · split
    · exact hc _ _ _ _ _ fun _ _ => hK _ _
    · exact hc _ _ _ _ _ fun _ _ => hK _ _
    · exact id
  · split
    · intro h; rw [allP_iff] at h ⊢; exact fun x hx => hK _ _ (h x hx)
    · exact id
  · split
    · split
      · exact hK _ _
      · exact id
    · exact id
  · split
    · exact hK _ _
    · exact id

theorem evOps_mono (hc : CM call call') {ops : Array Oper} {K K' : Env → St → Prop} (hK : ∀ v s, K v s → K' v s) : ∀ {l : List Oper} {env : Env} {st : St}, evOps P call ops l K env st → evOps P call' ops l K' env st
  | [], _, _ => hK _ _
  | o :: rest, env, st => by
    unfold evOps
    split
    · exact evOp_mono hc fun v s => evOps_mono hc hK
    · exact evOps_mono hc hK
    · exact id

theorem stillAll_mono {st : St} {K K' : Prop} (hK : K → K') : ∀ {l : List Seen}, stillAll P st l K → stillAll P st l K'
  | [] => hK
  | r :: l => by
    unfold stillAll still
    split
    · split
      · exact stillAll_mono hK
      · exact id
    · exact id

theorem evDraw_mono (hc : CM call call') {ops : Array Oper} {bef : List Nat} {K K' : Env → St → Prop} (hK : ∀ v s, K v s → K' v s) :
    ∀ {l : List Nat} {seen : List Seen} {env : Env} {st : St}, evDraw P call ops bef l seen K env st → evDraw P call' ops bef l seen K' env st
  | [], _, _, _ => hK _ _
  | i :: rest, seen, env, st => by
    unfold evDraw
    split
    · exact id
    · split
      · exact id
      · exact evDraw_mono hc hK
      · split
        · split
          · exact evDraw_mono hc hK
          · exact id
        · exact evOp_mono hc fun v s => stillAll_mono (evDraw_mono hc hK)

theorem evRegion_mono (hc : CM call call') {ops : Array Oper} {d : Bool} {K K' : Env → St → Prop} (hK : ∀ v s, K v s → K' v s) {env : Env} {st : St} :
    evRegion P call ops d K env st → evRegion P call' ops d K' env st := by
  unfold evRegion
  split
  · simp only
    split
    · exact evDraw_mono hc hK
    · exact id
  · exact evOps_mono hc hK

theorem evCode_mono (hc : CM call call') (hL : LM L L') {rv : Nat} {ro : Option Nat} : ∀ (c : Code) {K K' : X → Env → St → Prop} (_ : ∀ x v s, K x v s → K' x v s) {lv : Nat} {ex : List (Nat × Nat)} {env : Env} {st : St},
    evCode P call L rv ro c K lv ex env st → evCode P call' L' rv ro c K' lv ex env st
  | .skip, _, _, hK, _, _, _, _ => hK _ _ _
  | .label _, _, _, hK, _, _, _, _ => hK _ _ _
  | .region _ ops draw, _, _, hK, _, _, _, _ => evRegion_mono hc (hK _)
  | .seq a b, _, _, hK, _, _, _, _ => by
    simp only [evCode]
    refine evCode_mono hc hL a fun x e s => ?_
    cases x
    · exact evCode_mono hc hL b hK
    · exact hK _ _ _
    · exact hK _ _ _
  | .cond c a b, _, _, hK, _, _, _, _ => by
    simp only [evCode]
    split
    · exact evCode_mono hc hL a hK
    · exact evCode_mono hc hL b hK
    · exact id
  | .block id b, _, _, hK, _, _, _, _ => by
    simp only [evCode]
    refine evCode_mono hc hL b fun x e s => ?_
    cases x
    · exact hK _ _ _
    · simp only; split <;> exact hK _ _ _
    · exact hK _ _ _
  | .loop b, _, _, hK, _, _, _, _ => by
    simp only [evCode]
    refine hL _ _ (fun X X' hX v s => ?_) _ _
    refine evCode_mono hc hL b fun x e s => ?_
    cases x
    · exact hX _ _
    · exact hK _ _ _
    · exact hK _ _ _
  | .scope b, _, _, hK, _, _, _, _ => by simp only [evCode]; exact evCode_mono hc hL b hK
  | .exit id, _, _, hK, _, _, _, _ => hK _ _ _
  | .ret, _, _, hK, _, _, _, _ => hK _ _ _
  | .goto _, _, _, _, _, _, _, _ => id
  | .rangeFunc .., _, _, hK, _, _, _, _ => by
    simp only [evCode]
    split
    · split
      · refine hc _ _ _ _ _ fun v s => ?_
        split
        · exact id
        · split
          · exact hK _ _ _
          · exact hK _ _ _
          · exact hK _ _ _
          · exact id
        · exact id
      · exact id
    · exact id
  | .refuse _, _, _, _, _, _, _, _ => id

theorem Ret.mono {st : St} {Q Q' : AV → St → Prop} (hQ : ∀ v s, Q v s → Q' v s) {v : AV} {s : St} : Ret st Q v s → Ret st Q' v s
  | .inl h => .inl (hQ _ _ h)
  | .inr ⟨a, b, h⟩ => .inr ⟨a, b, hQ _ _ h⟩

theorem evDefers_mono (hc : CM call call') {K K' : St → Prop} (hK : ∀ s, K s → K' s) : ∀ {l : List AV} {st : St}, evDefers call l st K → evDefers call' l st K'
  | [], _ => hK _
  | d :: r, st => by
    unfold evDefers
    split
    · exact hc _ _ _ _ _ fun _ _ => evDefers_mono hc hK
    · exact id

theorem evBody_mono (hc : CM call call') (hL : LM L L') {fn : Func} {c : Code} {args : List AV} {st : St} {Q Q' : AV → St → Prop} (hQ : ∀ v s, Q v s → Q' v s) :
    evBody P call L fn c args st Q → evBody P call' L' fn c args st Q' := by
  unfold evBody
  refine evCode_mono hc hL c fun x e s => ?_
  have key : ∀ s : St, (match resA P fn.results.toList e s with | some vs => Q (answer vs) (s.as (some [])) | none => False) → (match resA P fn.results.toList e s with | some vs => Q' (answer vs) (s.as (some [])) | none => False) := by
    intro s
    split
    · exact hQ _ _
    · exact id
  cases x <;> simp only
  · exact evDefers_mono hc key
  · exact id
  · exact evDefers_mono hc key

theorem endRoundA_mono {l : Nat} {Q Q' : AV → St → Prop} (hQ : ∀ v s, Q v s → Q' v s) {x : X} {st : St} : endRoundA l Q x st → endRoundA l Q' x st := by
  unfold endRoundA
  split
  · cases x <;> exact hQ _ _
  · exact id
theorem evRound_mono (hc : CM call call') (hL : LM L L') {l : Nat} {args : List AV} {st : St} {Q Q' : AV → St → Prop} (hQ : ∀ v s, Q v s → Q' v s) :
    evRound P call L l args st Q → evRound P call' L' l args st Q' := by
  unfold evRound
  split
  · split
    · refine evCode_mono hc hL _ fun x e s => ?_
      cases x <;> simp only
      · split
        · exact evCode_mono hc hL _ fun x e s => endRoundA_mono hQ
        · exact id
      · exact id
      · exact id
    · exact id
  · exact id

theorem evCall_mono (hc : CM call call') (hL : LM L L') {f : Fn} {args : List AV} {st : St} {Q Q' : AV → St → Prop} (hQ : ∀ v s, Q v s → Q' v s) :
    evCall P call L f args st Q → evCall P call' L' f args st Q' := by
  unfold evCall
  split
  · split
    · split
      · exact evBody_mono hc hL fun _ _ => Ret.mono hQ
      · exact id
    · exact id
  · exact evRound_mono hc hL hQ
  · exact id
end

theorem Lfp_mono : LM Lfp Lfp := fun _ _ h v s hl Y hY => hl Y fun _ _ hF => hY _ _ (h Y Y (fun _ _ h => h) _ _ hF)

/-- With a weaker condition behind. -/
theorem Run.mono {P : Program} : CM (Run P) (Run P) := by
  intro f args st Q Q' hQ h Y hY
  have key := h (fun f args st Q => ∀ Q', (∀ v s, Q v s → Q' v s) → Y f args st Q') (fun f args st Q h Q' hQ => hY _ _ _ _ (evCall_mono (fun f args st Q Q' hQ h => h Q' hQ) Lfp_mono hQ h))
  exact key Q' hQ
/-- A call means what its function's code does. -/
theorem Run.of {P : Program} {f : Fn} {args : List AV} {st : St} {Q : AV → St → Prop} (h : evCall P (Run P) Lfp f args st Q) : Run P f args st Q := by
  intro Y hY
  exact hY _ _ _ _ (evCall_mono (call := Run P) (call' := Y) (fun f args st Q Q' hQ h => Run.mono f args st Q Q' hQ h Y hY) Lfp_mono (fun _ _ h => h) h)
/-- A loop means what its round does. -/
theorem Lfp.of {F : (List AV → St → Prop) → List AV → St → Prop} (hF : ∀ X X' : List AV → St → Prop, (∀ v s, X v s → X' v s) → ∀ v s, F X v s → F X' v s) {vals : List AV} {st : St}
    (h : F (Lfp F) vals st) : Lfp F vals st := by
  intro Y hY
  exact hY _ _ (hF _ _ (fun v s h => h Y hY) _ _ h)

/-! With fuel: for the kernel. -/
def LoopF (n : Nat) : LoopP := fun F => Nat.rec (fun _ _ => False) (fun _ ih => F ih) n
/-- An answer without a place leaves no store behind: where nothing that stood may have turned, that is so. -/
def callF (P : Program) (m : Nat) : Nat → CallP
  | 0 => fun _ _ _ _ => False
  | n + 1 => fun f args st Q => match f with
    | .func f => match P.funcs[f]? with
      | some fn => match fn.body with
        | some c => evBody P (callF P m n) (LoopF m) fn c args st Q
        | none => False
      | none => False
    | .yield l => evRound P (callF P m n) (LoopF m) l args st Q
    | _ => False

theorem LoopF_mono (n : Nat) : LM (LoopF n) Lfp := by
  intro F F' hF
  have step : ∀ n v s, LoopF n F v s → Lfp F' v s := by
    intro n
    induction n with
    | zero => exact fun _ _ h => h.elim
    | succ n ih => exact fun v s h Y hY => hY _ _ (hF (LoopF n F) Y (fun v s h => ih v s h Y hY) v s h)
  exact step n

theorem Run.of_callF {P : Program} {m : Nat} : ∀ n, CM (callF P m n) (Run P)
  | 0 => fun _ _ _ _ _ _ h => h.elim
  | n + 1 => fun f args st Q Q' hQ h => by
    refine Run.mono _ _ _ _ _ hQ (Run.of ?_)
    unfold evCall
    simp only [callF] at h
    split at h
    · split at h
      · simp only [*]
        split at h
        · simp only [*]
          exact evBody_mono (Run.of_callF n) (LoopF_mono m) (fun _ _ h => .inl h) h
        · exact h.elim
      · exact h.elim
    · exact evRound_mono (Run.of_callF n) (LoopF_mono m) (fun _ _ h => h) h
    · exact h.elim
end Go.Ab
