/- THE ABSTRACT EVALUATOR, 24: with fuel, some functions by what was shown of them. -/
import Derived.Test.YtlcapliakfomhaaAb23
namespace Go.Ab
/-- A function's contract: arguments, store, what is wanted behind. -/
abbrev Spec := List AV → St → (AV → St → Prop) → Prop
def callS (P : Program) (S : Nat → Option Spec) (m : Nat) : Nat → CallP
  | 0 => fun _ _ _ _ => False
  | n + 1 => fun f args st Q => match f with
    | .func g => match S g with
      | some s => s args st Q
      | none => match P.funcs[g]? with
        | some fn => match fn.body with
          | some c => evBody P (callS P S m n) (LoopF m) fn c args st Q
          | none => False
        | none => False
    | .yield l => evRound P (callS P S m n) (LoopF m) l args st Q
    | _ => False
def Holds (P : Program) (S : Nat → Option Spec) : Prop := ∀ g s, S g = some s → ∀ args st (Q Q' : AV → St → Prop), (∀ v s, Q v s → Q' v s) → s args st Q → Run P (.func g) args st Q'

theorem Run.of_callS {P : Program} {S : Nat → Option Spec} (hS : Holds P S) {m : Nat} : ∀ n, CM (callS P S m n) (Run P)
  | 0 => fun _ _ _ _ _ _ h => h.elim
  | n + 1 => fun f args st Q Q' hQ h => by
    simp only [callS] at h
    split at h
    · split at h
      · rename_i s hs
        exact hS _ s hs _ _ _ _ hQ h
      · refine Run.mono _ _ _ _ _ hQ (Run.of ?_)
        unfold evCall
        split at h
        · simp only [*]
          split at h
          · simp only [*]
            exact evBody_mono (Run.of_callS hS n) (LoopF_mono m) (fun _ _ h => .inl h) h
          · exact h.elim
        · exact h.elim
    · refine Run.mono _ _ _ _ _ hQ (Run.of ?_)
      unfold evCall
      exact evRound_mono (Run.of_callS hS n) (LoopF_mono m) (fun _ _ h => h) h
    · exact h.elim
end Go.Ab
