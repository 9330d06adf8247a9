/- AuditNone: its call, whatever the number. -/
import Derived.Test.YtledkogmmijmcabGreatT1
import Derived.Test.YtledkogmmijmcabGreatAb28
set_option linter.all false
namespace Go.Proofs.YtledkogmmijmcabGreat
open Go Go.Ab
theorem lives_eq : callF Tryz.prog 1000 100 (.func n_twainlaw39_lives) [] ⟨[], some []⟩ (fun v _ => v = .bool true) = (AV.bool true = AV.bool true) := by kernel_rfl
theorem run_lives {o : OS} {K : AV → OS → Prop} (hK : K (.bool true) o) : Go Tryz.prog n_twainlaw39_lives [] o K :=
  Go.alone sane rfl rfl (Run.of_eq rfl lives_eq) hK
theorem ops_eq (s : Int) : callF Tryz.prog 1000 100 (.func n_history_Ops) [.nilslice, .int .i64 s] ⟨[], some []⟩ (fun v _ => v = .nilslice) = (AV.nilslice = AV.nilslice) := by kernel_rfl
theorem run_ops {s : Int} {o : OS} {K : AV → OS → Prop} (hK : K .nilslice o) : Go Tryz.prog n_history_Ops [.nilslice, .int .i64 s] o K :=
  Go.alone sane rfl rfl (Run.of_eq rfl (ops_eq s)) hK
abbrev none16 : List AV := [.int .u8 0, .int .u8 0, .int .u8 0, .int .u8 0, .int .u8 0, .int .u8 0, .int .u8 0, .int .u8 0, .int .u8 0, .int .u8 0, .int .u8 0, .int .u8 0, .int .u8 0, .int .u8 0, .int .u8 0, .int .u8 0]
theorem right_eq : callF Tryz.prog 1000 100 (.func n_register_Right) [.nilslice, .agg none16] ⟨[], some []⟩ (fun v _ => v = .tuple [.bool true, .int .i64 0]) = (AV.tuple [.bool true, .int .i64 0] = AV.tuple [.bool true, .int .i64 0]) := by kernel_rfl
theorem run_right {o : OS} {K : AV → OS → Prop} (hK : K (.tuple [.bool true, .int .i64 0]) o) : Go Tryz.prog n_register_Right [.nilslice, .agg none16] o K :=
  Go.alone sane rfl rfl (Run.of_eq rfl right_eq) hK
abbrev stN : OS := [AO.cells true [.int .i64 (0 : Int), .int .i64 (0 : Int), .int .i64 (0 : Int), .int .i64 (0 : Int), .int .i64 (0 : Int), .nilptr, .nilptr, .int .u64 (0 : Int), .nilptr, .nilptr, .int .u64 (0 : Int), .nilptr, .nilslice], AO.cells true [.nilptr, .ptr 0 0]]
theorem check_nil : callF Tryz.prog 1000 100 (.func n_audit_Check) [.nilptr] ⟨stN, some []⟩ (fun v s => v = .int .i64 1 ∧ s.objs.take stN.length = stN) = (AV.int .i64 1 = AV.int .i64 1 ∧ stN = stN) := by kernel_rfl
theorem check_zero : callF Tryz.prog 1000 100 (.func n_audit_Check) [.ptr 0 0] ⟨stN, some []⟩ (fun v s => v = .int .i64 1 ∧ s.objs.take stN.length = stN) = (AV.int .i64 1 = AV.int .i64 1 ∧ stN = stN) := by kernel_rfl
theorem alike_nil : callF Tryz.prog 1000 100 (.func n_audit_Alike) [.nilptr] ⟨stN, some []⟩ (fun v s => v = .bool true ∧ s.objs.take stN.length = stN) = (AV.bool true = AV.bool true ∧ stN = stN) := by kernel_rfl
theorem alike_zero : callF Tryz.prog 1000 100 (.func n_audit_Alike) [.ptr 0 0] ⟨stN, some []⟩ (fun v s => v = .bool true ∧ s.objs.take stN.length = stN) = (AV.bool true = AV.bool true ∧ stN = stN) := by kernel_rfl

theorem linear_loop {n : Nat} {o : OS} {R : AV → OS → Prop} {N : Int} (hN : N ≤ 256) (hR : R (.bool true) o) : ∀ (m : Nat) (k : Int), (N - k).toNat < m → 0 ≤ k → lp m (audit_Linear_L26 (GoF Tryz.prog) n R (audit_Linear_J2 (GoF Tryz.prog) n R)) [.nilslice, .int .i64 N, .int .i64 k] o := by
  intro m
  induction m with
  | zero => intro k h; omega
  | succ m ih =>
    intro k hm hk
    rw [lp_succ]
    refine ⟨_, _, _, rfl, ?_⟩
    rw [cnd_dec]
    split
    · refine run_ops (run_right ⟨_, _, rfl, ?_⟩)
      rw [jp_eq, cnd_beq, if_pos rfl]
      refine ⟨_, _, _, _, rfl, ?_⟩
      rw [Bool.not_true, cnd_false]
      exact bnd_of (wrap_id (by omega) (by omega)) (ih (k + 1) (by omega) (by omega))
    · exact ⟨rfl, hR⟩
theorem run_Linear {s : Int} {o : OS} {K : AV → OS → Prop} (hK : K (.bool true) o) : Go Tryz.prog n_audit_Linear [.nilslice, .int .i64 s] o K := by
  refine audit_Linear_go 300 ?_
  unfold audit_Linear
  rw [jp_eq]
  refine bnd_of rfl ?_
  exact linear_loop (by split <;> omega) (rt_in hK) 300 0 (by split <;> omega) (by omega)

theorem round {n : Nat} {R : AV → OS → Prop} {a0 x : Int} {v : AV} {X : List AV → OS → Prop} (h1 : callF Tryz.prog 1000 100 (.func n_audit_Check) [v] ⟨stN, some []⟩ (fun v s => v = .int .i64 1 ∧ s.objs.take stN.length = stN) = (AV.int .i64 1 = AV.int .i64 1 ∧ stN = stN))
    (h2 : callF Tryz.prog 1000 100 (.func n_audit_Alike) [v] ⟨stN, some []⟩ (fun v s => v = .bool true ∧ s.objs.take stN.length = stN) = (AV.bool true = AV.bool true ∧ stN = stN))
    (hv : ldO false 1 (ixp 1 (.slice 1 0 2 2 0) x) stN = some v) (h0 : 0 ≤ x) (hx : x < 2) (hX : X [.int .i64 a0, .slice 1 0 2 2 0, .int .i64 2, .int .i64 (x + 1)] stN) :
    twainlaw39_AuditNone_L42 (GoF Tryz.prog) n R (twainlaw39_AuditNone_J16 (GoF Tryz.prog) n R) X [.int .i64 a0, .slice 1 0 2 2 0, .int .i64 2, .int .i64 x] stN := by
  refine ⟨_, _, _, _, rfl, ?_⟩
  rw [cnd_dec, if_pos hx]
  refine ⟨⟨h0, hx⟩, _, hv, ?_⟩
  rw [jp_eq]
  refine Go.here sane rfl (Run.of_eq ⟨rfl, rfl⟩ h1) ⟨_, rfl, ?_⟩
  rw [cnd_bne, if_pos rfl]
  refine Go.here sane rfl (Run.of_eq ⟨rfl, rfl⟩ h2) ⟨_, rfl, ?_⟩
  refine ⟨_, _, _, _, _, rfl, ?_⟩
  rw [Bool.not_true, cnd_false]
  exact bnd_of (wrap_id (by omega) (by omega)) hX
/-- THE LAW's CALL. -/
theorem run_AuditNone {a0 : Int} : Go Tryz.prog n_twainlaw39_AuditNone [.int .i64 a0] [] fun v _ => v = .bool true := by
  refine twainlaw39_AuditNone_go 3 ?_
  refine ⟨rfl, rfl, rfl, rfl, rfl, rfl, bnd_of rfl ⟨rfl, rfl, bnd_of rfl ?_⟩⟩
  rw [jp_eq]
  refine ⟨rfl, ?_⟩
  rw [lp_succ]
  refine round check_nil alike_nil rfl (by omega) (by omega) ?_
  rw [lp_succ]
  refine round (x := 1) check_zero alike_zero rfl (by omega) (by omega) ?_
  rw [lp_succ]
  refine ⟨_, _, _, _, rfl, ?_⟩
  rw [cnd_dec, if_neg (by omega)]
  refine ⟨_, rfl, ?_⟩
  rw [jp_eq]
  refine run_Linear ⟨_, rfl, ?_⟩
  rw [cnd_true]
  exact run_lives ⟨_, rfl, _, rfl, rt_in rfl⟩
namespace RunAuditNone
theorem runs {H : Type} {ds : List (DataW H)} (x0 : hasTs Tryz.prog 9 [3] ds) : CallOk Tryz.prog (.func 3) (layArgs Tryz.prog [3] ds { objs := [] }).1 (layArgs Tryz.prog [3] ds { objs := [] }).2 fun v _ => v = .bool true := by
  obtain ⟨d, r, e0, hd, x1⟩ := hasTs_cons x0
  obtain rfl := hasTs_nil x1
  obtain ⟨n, rfl, _⟩ := hasT_int Tryz.underlying3 hd
  subst e0
  have agg : tyAgg Tryz.prog 3 = .some false := by kernel_rfl
  simp only [layArgs, layArg, agg, lay_int, List.head?_cons, Option.getD_some]
  exact run_AuditNone
end RunAuditNone
end Go.Proofs.YtledkogmmijmcabGreat
