/- T1: functions of the program in the typed form, printed by a program of our own (wip/laws/Print.lean.txt). -/
import Derived.Test.YtledkogmmijmcabGreatT0
set_option linter.all false
set_option maxRecDepth 100000
set_option autoImplicit false
namespace Go.Proofs.YtledkogmmijmcabGreat
open Go Go.Ab
/-! twain/twainlaw39.AuditNone -/
abbrev twainlaw39_AuditNone_J8 (call : CallO) (n : Nat) (R : AV → OS → Prop) : List AV → OS → Prop := fun vals5 o6 =>
∃ b7 : Bool, vals5 = [.bool b7] ∧
R (AV.bool b7) o6

abbrev twainlaw39_AuditNone_J16 (call : CallO) (n : Nat) (R : AV → OS → Prop) : List AV → OS → Prop := fun vals2 o3 =>
∃ x4 : Int, vals2 = [.int .i64 x4] ∧
jp (twainlaw39_AuditNone_J8 call n R) fun j9 =>
call (.func n_audit_Linear) [.nilslice, .int .i64 x4] o3 fun v10 o11 =>
∃ b12 : Bool, v10 = .bool b12 ∧
cnd b12 (
call (.func n_twainlaw39_lives) [] o11 fun v13 o14 =>
∃ b15 : Bool, v13 = .bool b15 ∧
j9 [.bool b15] o14) (
j9 [.bool false] o11)

abbrev twainlaw39_AuditNone_J34 (call : CallO) (n : Nat) (R : AV → OS → Prop) (X18 : List AV → OS → Prop) : List AV → OS → Prop := fun vals26 o27 =>
∃ x28 : Int, ∃ v29 : AV, ∃ x30 : Int, ∃ x31 : Int, ∃ b32 : Bool, vals26 = [.int .i64 x28, v29, .int .i64 x30, .int .i64 x31, .bool b32] ∧
cnd b32 (
R (AV.bool false) o27) (
bnd (IntKind.wrap .i64 (x31 + (1 : Int))) fun x33 =>
X18 [.int .i64 x28, v29, .int .i64 x30, .int .i64 x33] o27)

abbrev twainlaw39_AuditNone_L42 (call : CallO) (n : Nat) (R : AV → OS → Prop) (j17 : List AV → OS → Prop) : (List AV → OS → Prop) → List AV → OS → Prop := fun X18 vals19 o20 =>
∃ x21 : Int, ∃ v22 : AV, ∃ x23 : Int, ∃ x24 : Int, vals19 = [.int .i64 x21, v22, .int .i64 x23, .int .i64 x24] ∧
cnd (decide (x24 < x23)) (
(0 ≤ x24 ∧ x24 < alen v22) ∧
∃ v25 : AV, ldO false 1 (ixp 1 v22 x24) o20 = some (v25) ∧
jp (twainlaw39_AuditNone_J34 call n R X18) fun j35 =>
call (.func n_audit_Check) [v25] o20 fun v36 o37 =>
∃ x38 : Int, v36 = .int .i64 x38 ∧
cnd (x38 != (1 : Int)) (
j35 [.int .i64 x21, v22, .int .i64 x23, .int .i64 x24, .bool true] o37) (
call (.func n_audit_Alike) [v25] o37 fun v39 o40 =>
∃ b41 : Bool, v39 = .bool b41 ∧
j35 [.int .i64 x21, v22, .int .i64 x23, .int .i64 x24, .bool (!b41)] o40)) (
j17 [.int .i64 x21] o20)

abbrev twainlaw39_AuditNone (call : CallO) (n : Nat) (R : AV → OS → Prop) (a0 : Int) (o : OS) : Prop :=
AV.one .nilptr = true ∧
AV.one .nilptr = true ∧
AV.one .nilptr = true ∧
AV.one .nilptr = true ∧
AV.one .nilptr = true ∧
AV.one .nilslice = true ∧
bnd (o ++ [AO.cells true [.int .i64 (0 : Int), .int .i64 (0 : Int), .int .i64 (0 : Int), .int .i64 (0 : Int), .int .i64 (0 : Int), .nilptr, .nilptr, .int .u64 (0 : Int), .nilptr, .nilptr, .int .u64 (0 : Int), .nilptr, .nilslice]]) fun o0 =>
AV.one .nilptr = true ∧
AV.one (AV.ptr (List.length o) 0) = true ∧
bnd (o0 ++ [AO.cells true [.nilptr, (AV.ptr (List.length o) 0)]]) fun o1 =>
jp (twainlaw39_AuditNone_J16 call n R) fun j17 =>
AV.isS (AV.slice (List.length o0) 0 2 2 0) = true ∧
lp n (twainlaw39_AuditNone_L42 call n R j17) [.int .i64 a0, (AV.slice (List.length o0) 0 2 2 0), .int .i64 (alen (AV.slice (List.length o0) 0 2 2 0)), .int .i64 (0 : Int)] o1

theorem twainlaw39_AuditNone_eq (call : CallO) (n : Nat) (R : AV → OS → Prop) (a0 : Int) (o : OS) : gFun Tryz.prog call n 3 [.int .i64 a0] o R = twainlaw39_AuditNone call n R a0 o := by kernel_rfl
theorem twainlaw39_AuditNone_go (n : Nat) {a0 : Int} {o : OS} {K : AV → OS → Prop} (h : twainlaw39_AuditNone (GoF Tryz.prog) n (rt o K) a0 o) : Go Tryz.prog n_twainlaw39_AuditNone [.int .i64 a0] o K :=
  Go.of sane (n := n) ((twainlaw39_AuditNone_eq (GoF Tryz.prog) n (rt o K) a0 o).mpr h)

/-! twain/audit.Linear -/
abbrev audit_Linear_J2 (call : CallO) (n : Nat) (R : AV → OS → Prop) : List AV → OS → Prop := fun vals0 o1 =>
vals0 = [] ∧
R (AV.bool true) o1

abbrev audit_Linear_J24 (call : CallO) (n : Nat) (R : AV → OS → Prop) (X5 : List AV → OS → Prop) : List AV → OS → Prop := fun vals17 o18 =>
∃ v19 : AV, ∃ x20 : Int, ∃ x21 : Int, ∃ b22 : Bool, vals17 = [v19, .int .i64 x20, .int .i64 x21, .bool b22] ∧
cnd b22 (
R (AV.bool false) o18) (
bnd (IntKind.wrap .i64 (x21 + (1 : Int))) fun x23 =>
X5 [v19, .int .i64 x20, .int .i64 x23] o18)

abbrev audit_Linear_L26 (call : CallO) (n : Nat) (R : AV → OS → Prop) (j3 : List AV → OS → Prop) : (List AV → OS → Prop) → List AV → OS → Prop := fun X5 vals6 o7 =>
∃ v8 : AV, ∃ x9 : Int, ∃ x10 : Int, vals6 = [v8, .int .i64 x9, .int .i64 x10] ∧
cnd (decide (x10 < x9)) (
call (.func n_history_Ops) [v8, .int .i64 x10] o7 fun v11 o12 =>
call (.func n_register_Right) [v11, .agg [.int .u8 (0 : Int), .int .u8 (0 : Int), .int .u8 (0 : Int), .int .u8 (0 : Int), .int .u8 (0 : Int), .int .u8 (0 : Int), .int .u8 (0 : Int), .int .u8 (0 : Int), .int .u8 (0 : Int), .int .u8 (0 : Int), .int .u8 (0 : Int), .int .u8 (0 : Int), .int .u8 (0 : Int), .int .u8 (0 : Int), .int .u8 (0 : Int), .int .u8 (0 : Int)]] o12 fun v13 o14 =>
∃ b15 : Bool, ∃ x16 : Int, v13 = .tuple [.bool b15, .int .i64 x16] ∧
jp (audit_Linear_J24 call n R X5) fun j25 =>
cnd (x16 == (0 : Int)) (
j25 [v8, .int .i64 x9, .int .i64 x10, .bool (!b15)] o14) (
j25 [v8, .int .i64 x9, .int .i64 x10, .bool false] o14)) (
j3 [] o7)

abbrev audit_Linear (call : CallO) (n : Nat) (R : AV → OS → Prop) (a0 : AV) (a1 : Int) (o : OS) : Prop :=
jp (audit_Linear_J2 call n R) fun j3 =>
bnd ((if (256 : Int) < a1 then (256 : Int) else a1)) fun x4 =>
lp n (audit_Linear_L26 call n R j3) [a0, .int .i64 x4, .int .i64 (0 : Int)] o

theorem audit_Linear_eq (call : CallO) (n : Nat) (R : AV → OS → Prop) (a0 : AV) (a1 : Int) (o : OS) : gFun Tryz.prog call n 6 [a0, .int .i64 a1] o R = audit_Linear call n R a0 a1 o := by kernel_rfl
theorem audit_Linear_go (n : Nat) {a0 : AV} {a1 : Int} {o : OS} {K : AV → OS → Prop} (h : audit_Linear (GoF Tryz.prog) n (rt o K) a0 a1 o) : Go Tryz.prog n_audit_Linear [a0, .int .i64 a1] o K :=
  Go.of sane (n := n) ((audit_Linear_eq (GoF Tryz.prog) n (rt o K) a0 a1 o).mpr h)

end Go.Proofs.YtledkogmmijmcabGreat
