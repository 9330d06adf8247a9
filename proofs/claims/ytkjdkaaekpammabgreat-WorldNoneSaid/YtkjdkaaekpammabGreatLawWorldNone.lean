/- WorldNone: for every input that can be read the law answers true, and each argument reads as it did. Nothing else is asked of the input. -/
import Derived.Test.YtkjdkaaekpammabGreatRows
import Derived.Test.YtkjdkaaekpammabGreatRunWorldNone
import Derived.WalkKit
import Derived.ProofKit
import Derived.OpenShut
import Derived.ShutString
import Derived.ChangeOld
import Derived.Below
import Derived.SizedLaws
import Derived.ClosedOfChecked
import Derived.JoinedOf
namespace Go.Proofs.YtkjdkaaekpammabGreat.worldNone
open Go.ChangeShapes Go.WideShapes Go.ChangeAt Go.RowKit
theorem own : ownKnob Tryz.prog.godebug = none := by kernel_rfl
theorem allSpec : Go.ClosedOfChecked.AllSpec Tryz.prog := Go.ClosedOfChecked.allSpec_of (src := Tryz.checked.src) Tryz.checked.wellFormed (by kernel_rfl)
theorem laidOut : laidOutB Tryz.prog = true := Go.ClosedOfChecked.laidOutB_of allSpec (by kernel_rfl)
theorem laidOut' : laidOutB Tryz.pinned.checked.prog = true := laidOut
theorem mapsR : mapsRowed Tryz.pinned.checked.prog = true := Go.ClosedOfChecked.mapsRowed_of allSpec
set_option maxHeartbeats 0 in
theorem closed : joinedFacts Tryz.pinned.checked.prog 3 Tryz.f3 Rows.worldNoneSpec Rows.worldNoneRow = true := by
  unfold joinedFacts
  simp only [Bool.and_eq_true]
  repeat' apply And.intro
  all_goals first | with_reducible exact laidOut' | with_reducible exact mapsR | as_aux_lemma => kernel_rfl
theorem types : [29].all (Ab.okT Tryz.prog 9) = true := by kernel_rfl
set_option maxRecDepth 100000 in
theorem lifted (os : Os) (started : os.Started) (H : Type) (enc : TypeId × Value → H) :
    ReturnsInHanded {} Tryz.checked os 3 .any (Rows.worldNoneSpec.pre6 enc Tryz.prog Tryz.f3 Rows.worldNoneRow.domain false) (Rows.worldNoneSpec.post enc Tryz.prog Tryz.f3 false true false false) := by
  refine returnsInHanded_of_change_sized (C := Tryz.checked) own started (by kernel_rfl) Tryz.func3
    (ChangeSpec.witness6 (enc := enc) (C := Tryz.checked) false ⟨#[], #[.agg #[.int .i64 0, .int .i64 0, .int .i64 0, .int .u64 0, .int .i64 0, .int .i64 0, .int .i64 0, .slice none 0 0]], []⟩ 8 (by kernel_rfl) (by kernel_rfl) (by kernel_rfl) (by kernel_rfl)) ?_
  intro W base args ds gs before hval0 hW hcnd hsz0 _
  have hval : ∀ (j : Nat) t v, Tryz.f3.params[j]? = some t → args[j]? = some v → Value.okWide Tryz.prog W .any base t v := hval0
  have hW' := hW
  obtain ⟨p, q, hA0, hV, rfl, hfz, hnd⟩ := hW
  have hA : DataW.TrodAll enc Tryz.prog W 0 (fun _ => true) true Tryz.f3.params.toList args.toList ds p := hA0
  rw [Tryz.params3] at hA hval
  have hrun := RunWorldNone.runs (Ab.trodAll_has 9 _ _ _ _ hA types)
  have hcall := Ab.law_ok (f := 3) 9 hA types (fun j t v ht hv => ⟨_, _, hval j t v (by simpa using ht) hv⟩) hrun
  clear hrun
  obtain ⟨v0, vs0, d0, ds0, p0, q0, hargs, rfl, rfl, h0, r0⟩ := trodAll_cons hA
  obtain ⟨rfl, rfl, rfl⟩ := trodAll_nil r0
  obtain rfl : args = #[v0] := by cases args; simp_all
  obtain ⟨rfl, rfl⟩ := trodVars_none hV
  have lt0 : ∀ x ∈ p0, x.block < W.heap.size := by obtain ⟨m, hm⟩ := h0; exact DataW.trod_lt m _ _ _ hm
  refine hcall.mono fun e W' ⟨he, bel⟩ => ?_
  subst he
  exact ⟨_, rfl, _, _, _, [], _, [], hW', trodAll_mk1 (shut_bool Tryz.underlying4 _), (trodAll_cons_mk (Below.trod laidOut (by kernel_rfl) (of_decide_eq_true (by kernel_rfl)) h0 bel lt0) trodAll_mk0), rfl, bel.frame _, fun h => by cases h⟩
theorem over : Rows.worldNoneRow.holds Tryz.pinned (OpenSpec.ofChange Rows.worldNoneSpec) :=
  OpenClaim.holds_of_wide 3 Tryz.f3 rfl rfl rfl rfl rfl rfl rfl ⟨rfl, rfl, rfl, rfl, rfl⟩ rfl rfl rfl rfl rfl (by kernel_rfl) Tryz.func3 closed
    (of_decide_eq_true (by kernel_rfl)) (by unfold Func.isWrapper; first | (rw [if_pos (by decide +kernel)]; kernel_rfl) | (rw [if_neg (by decide +kernel)]; exact ⟨rfl, rfl⟩))
    (fun os started H enc _ => lifted os started H enc)
theorem proved : Rows.WorldNoneSaid := over
#print axioms proved
end Go.Proofs.YtkjdkaaekpammabGreat.worldNone
namespace Go.Proofs.YtkjdkaaekpammabGreat
/-- The row, under a short name, for the claim. -/
theorem worldNone_holds : Rows.WorldNoneSaid := worldNone.proved
end Go.Proofs.YtkjdkaaekpammabGreat

