/- T1: functions of the program in the typed form, printed by a program of our own (wip/laws/Print.lean.txt). -/
import Derived.Test.YtkjdkaaekpammabGreatT0
set_option linter.all false
set_option maxRecDepth 100000
set_option autoImplicit false
namespace Go.Proofs.YtkjdkaaekpammabGreat
open Go Go.Ab
/-! twain/twainlaw34.WorldNone -/
abbrev twainlaw34_WorldNone_J8 (call : CallO) (n : Nat) (R : AV → OS → Prop) : List AV → OS → Prop := fun vals3 o4 =>
vals3 = [] ∧
call (.func n_twainlaw34_lives) [] o4 fun v5 o6 =>
∃ b7 : Bool, v5 = .bool b7 ∧
R (AV.bool b7) o6

abbrev twainlaw34_WorldNone_J38 (call : CallO) (n : Nat) (R : AV → OS → Prop) (X10 : List AV → OS → Prop) : List AV → OS → Prop := fun vals30 o31 =>
∃ v32 : AV, ∃ v33 : AV, ∃ x34 : Int, ∃ x35 : Int, ∃ b36 : Bool, vals30 = [v32, v33, .int .i64 x34, .int .i64 x35, .bool b36] ∧
cnd b36 (
R (AV.bool false) o31) (
bnd (IntKind.wrap .i64 (x35 + (1 : Int))) fun x37 =>
X10 [v32, v33, .int .i64 x34, .int .i64 x37] o31)

abbrev twainlaw34_WorldNone_L61 (call : CallO) (n : Nat) (R : AV → OS → Prop) (j9 : List AV → OS → Prop) : (List AV → OS → Prop) → List AV → OS → Prop := fun X10 vals11 o12 =>
∃ v13 : AV, ∃ v14 : AV, ∃ x15 : Int, ∃ x16 : Int, vals11 = [v13, v14, .int .i64 x15, .int .i64 x16] ∧
cnd (decide (x16 < x15)) (
(0 ≤ x16 ∧ x16 < alen v14) ∧
∃ v17 : AV, ldO false 1 (ixp 1 v14 x16) o12 = some (v17) ∧
∃ x18 : Int, ∃ x19 : Int, ∃ x20 : Int, ∃ x21 : Int, ∃ x22 : Int, ∃ x23 : Int, ∃ x24 : Int, ∃ v25 : AV, ldO true 8 v13 o12 = some (.agg [.int .i64 x18, .int .i64 x19, .int .i64 x20, .int .u64 x21, .int .i64 x22, .int .i64 x23, .int .i64 x24, v25]) ∧
call (.func n_world_World_Do) [v17, .agg [.int .i64 x18, .int .i64 x19, .int .i64 x20, .int .u64 x21, .int .i64 x22, .int .i64 x23, .int .i64 x24, v25]] o12 fun v26 o27 =>
∃ x28 : Int, ∃ x29 : Int, v26 = .tuple [.int .i64 x28, .int .i64 x29] ∧
jp (twainlaw34_WorldNone_J38 call n R X10) fun j39 =>
cnd (x28 != (0 : Int)) (
j39 [v13, v14, .int .i64 x15, .int .i64 x16, .bool true] o27) (
cnd (x29 != (1 : Int)) (
j39 [v13, v14, .int .i64 x15, .int .i64 x16, .bool true] o27) (
AV.isP v13 = true ∧
∃ x40 : Int, ldO false 1 (padd 1 v13) o27 = some (.int .i64 x40) ∧
call (.func n_world_World_Node) [v17, .int .i64 x40] o27 fun v41 o42 =>
∃ b43 : Bool, nilP2 v41 .nilptr = some b43 ∧
cnd (!b43) (
j39 [v13, v14, .int .i64 x15, .int .i64 x16, .bool true] o42) (
AV.isP v13 = true ∧
∃ x44 : Int, ldO false 1 (padd 1 v13) o42 = some (.int .i64 x44) ∧
call (.func n_world_World_Disk) [v17, .int .i64 x44] o42 fun v45 o46 =>
∃ b47 : Bool, nilP2 v45 .nilptr = some b47 ∧
cnd (!b47) (
j39 [v13, v14, .int .i64 x15, .int .i64 x16, .bool true] o46) (
call (.func n_world_World_Net) [v17] o46 fun v48 o49 =>
∃ b50 : Bool, nilP2 v48 .nilptr = some b50 ∧
cnd (!b50) (
j39 [v13, v14, .int .i64 x15, .int .i64 x16, .bool true] o49) (
call (.func n_world_World_Events) [v17] o49 fun v51 o52 =>
AV.isS v51 = true ∧
cnd ((alen v51) != (0 : Int)) (
j39 [v13, v14, .int .i64 x15, .int .i64 x16, .bool true] o52) (
call (.func n_world_World_Config) [v17] o52 fun v53 o54 =>
∃ x55 : Int, ∃ x56 : Int, ∃ x57 : Int, ∃ x58 : Int, ∃ x59 : Int, v53 = .agg [.int .i64 x55, .int .i64 x56, .int .i64 x57, .int .i64 x58, .int .i64 x59] ∧
∃ b60 : Bool, binA Tryz.prog .neq 32 (AV.agg [.int .i64 x55, .int .i64 x56, .int .i64 x57, .int .i64 x58, .int .i64 x59]) (AV.agg [.int .i64 (0 : Int), .int .i64 (0 : Int), .int .i64 (0 : Int), .int .i64 (0 : Int), .int .i64 (0 : Int)]) = some (.bool b60) ∧
j39 [v13, v14, .int .i64 x15, .int .i64 x16, .bool b60] o54))))))) (
j9 [] o12)

abbrev twainlaw34_WorldNone (call : CallO) (n : Nat) (R : AV → OS → Prop) (a0x0 : Int) (a0x1 : Int) (a0x2 : Int) (a0x3 : Int) (a0x4 : Int) (a0x5 : Int) (a0x6 : Int) (a0x7 : AV) (o : OS) : Prop :=
AV.one a0x7 = true ∧
bnd (o ++ [AO.cells true [.int .i64 a0x0, .int .i64 a0x1, .int .i64 a0x2, .int .u64 a0x3, .int .i64 a0x4, .int .i64 a0x5, .int .i64 a0x6, a0x7]]) fun o0 =>
AV.one .nilptr = true ∧
AV.one .nilptr = true ∧
AV.one .nilptr = true ∧
AV.one .nilptr = true ∧
AV.one .nilptr = true ∧
AV.one .nilslice = true ∧
bnd (o0 ++ [AO.cells true [.int .i64 (0 : Int), .int .i64 (0 : Int), .int .i64 (0 : Int), .int .i64 (0 : Int), .int .i64 (0 : Int), .nilptr, .nilptr, .int .u64 (0 : Int), .nilptr, .nilptr, .int .u64 (0 : Int), .nilptr, .nilslice]]) fun o1 =>
AV.one .nilptr = true ∧
AV.one (AV.ptr (List.length o0) 0) = true ∧
bnd (o1 ++ [AO.cells true [.nilptr, (AV.ptr (List.length o0) 0)]]) fun o2 =>
jp (twainlaw34_WorldNone_J8 call n R) fun j9 =>
AV.isS (AV.slice (List.length o1) 0 2 2 0) = true ∧
lp n (twainlaw34_WorldNone_L61 call n R j9) [(AV.ptr (List.length o) 0), (AV.slice (List.length o1) 0 2 2 0), .int .i64 (alen (AV.slice (List.length o1) 0 2 2 0)), .int .i64 (0 : Int)] o2

theorem twainlaw34_WorldNone_eq (call : CallO) (n : Nat) (R : AV → OS → Prop) (a0x0 : Int) (a0x1 : Int) (a0x2 : Int) (a0x3 : Int) (a0x4 : Int) (a0x5 : Int) (a0x6 : Int) (a0x7 : AV) (o : OS) : gFun Tryz.prog call n 3 [.agg [.int .i64 a0x0, .int .i64 a0x1, .int .i64 a0x2, .int .u64 a0x3, .int .i64 a0x4, .int .i64 a0x5, .int .i64 a0x6, a0x7]] o R = twainlaw34_WorldNone call n R a0x0 a0x1 a0x2 a0x3 a0x4 a0x5 a0x6 a0x7 o := by kernel_rfl
theorem twainlaw34_WorldNone_go (n : Nat) {a0x0 : Int} {a0x1 : Int} {a0x2 : Int} {a0x3 : Int} {a0x4 : Int} {a0x5 : Int} {a0x6 : Int} {a0x7 : AV} {o : OS} {K : AV → OS → Prop} (h : twainlaw34_WorldNone (GoF Tryz.prog) n (rt o K) a0x0 a0x1 a0x2 a0x3 a0x4 a0x5 a0x6 a0x7 o) : Go Tryz.prog n_twainlaw34_WorldNone [.agg [.int .i64 a0x0, .int .i64 a0x1, .int .i64 a0x2, .int .u64 a0x3, .int .i64 a0x4, .int .i64 a0x5, .int .i64 a0x6, a0x7]] o K :=
  Go.of sane (n := n) ((twainlaw34_WorldNone_eq (GoF Tryz.prog) n (rt o K) a0x0 a0x1 a0x2 a0x3 a0x4 a0x5 a0x6 a0x7 o).mpr h)

/-! (*twain/world.World).Do -/
abbrev world_World_Do_J11 (call : CallO) (n : Nat) (R : AV → OS → Prop) : List AV → OS → Prop := fun vals9 o10 =>
vals9 = [] ∧
R (AV.tuple [.int .i64 (0 : Int), .int .i64 (0 : Int)]) o10

abbrev world_World_Do (call : CallO) (n : Nat) (R : AV → OS → Prop) (a0 : AV) (a1x0 : Int) (a1x1 : Int) (a1x2 : Int) (a1x3 : Int) (a1x4 : Int) (a1x5 : Int) (a1x6 : Int) (a1x7 : AV) (o : OS) : Prop :=
AV.one a1x7 = true ∧
bnd (o ++ [AO.cells true [.int .i64 a1x0, .int .i64 a1x1, .int .i64 a1x2, .int .u64 a1x3, .int .i64 a1x4, .int .i64 a1x5, .int .i64 a1x6, a1x7]]) fun o0 =>
call (.func n_world_World_is) [a0] o0 fun v1 o2 =>
∃ b3 : Bool, v1 = .bool b3 ∧
cnd (!b3) (
R (AV.tuple [.int .i64 (0 : Int), .int .i64 (1 : Int)]) o2) (
AV.isP (AV.ptr (List.length o) 0) = true ∧
∃ x4 : Int, ldO false 1 (padd 1 (AV.ptr (List.length o) 0)) o2 = some (.int .i64 x4) ∧
call (.func n_world_World_has) [a0, .int .i64 x4] o2 fun v5 o6 =>
∃ b7 : Bool, v5 = .bool b7 ∧
cnd (!b7) (
R (AV.tuple [.int .i64 (0 : Int), .int .i64 (2 : Int)]) o6) (
AV.isP (AV.ptr (List.length o) 0) = true ∧
∃ x8 : Int, ldO false 1 (padd 1 (AV.ptr (List.length o) 0)) o6 = some (.int .i64 x8) ∧
AV.nnil a0 = true ∧
AV.isP a0 = true ∧
AV.isP (padd 5 a0) = true ∧
(0 ≤ x8 ∧ x8 < ((2 : Nat) : Int)) ∧
jp (world_World_Do_J11 call n R) fun j12 =>
AV.isP (AV.ptr (List.length o) 0) = true ∧
∃ x13 : Int, ldO false 1 (padd 0 (AV.ptr (List.length o) 0)) o6 = some (.int .i64 x13) ∧
cnd (x13 == (0 : Int)) (
∃ x14 : Int, ∃ x15 : Int, ∃ x16 : Int, ∃ x17 : Int, ∃ x18 : Int, ∃ x19 : Int, ∃ x20 : Int, ∃ v21 : AV, ldO true 8 (AV.ptr (List.length o) 0) o6 = some (.agg [.int .i64 x14, .int .i64 x15, .int .i64 x16, .int .u64 x17, .int .i64 x18, .int .i64 x19, .int .i64 x20, v21]) ∧
call (.func n_world_World_submit) [a0, .agg [.int .i64 x14, .int .i64 x15, .int .i64 x16, .int .u64 x17, .int .i64 x18, .int .i64 x19, .int .i64 x20, v21]] o6 fun v22 o23 =>
∃ x24 : Int, ∃ x25 : Int, v22 = .tuple [.int .i64 x24, .int .i64 x25] ∧
R (AV.tuple [.int .i64 x24, .int .i64 x25]) o23) (
cnd (x13 == (1 : Int)) (
AV.isP (AV.ptr (List.length o) 0) = true ∧
∃ x26 : Int, ldO false 1 (padd 1 (AV.ptr (List.length o) 0)) o6 = some (.int .i64 x26) ∧
call (.func n_world_World_call) [a0, .int .i64 x26, .func (Fn.func 15) [] []] o6 fun v27 o28 =>
j12 [] o28) (
cnd (x13 == (2 : Int)) (
∃ x29 : Int, ∃ x30 : Int, ∃ x31 : Int, ∃ x32 : Int, ∃ x33 : Int, ∃ x34 : Int, ∃ x35 : Int, ∃ v36 : AV, ldO true 8 (AV.ptr (List.length o) 0) o6 = some (.agg [.int .i64 x29, .int .i64 x30, .int .i64 x31, .int .u64 x32, .int .i64 x33, .int .i64 x34, .int .i64 x35, v36]) ∧
call (.func n_world_World_deliver) [a0, .agg [.int .i64 x29, .int .i64 x30, .int .i64 x31, .int .u64 x32, .int .i64 x33, .int .i64 x34, .int .i64 x35, v36]] o6 fun v37 o38 =>
∃ x39 : Int, v37 = .int .i64 x39 ∧
R (AV.tuple [.int .i64 (0 : Int), .int .i64 x39]) o38) (
cnd (x13 == (3 : Int)) (
AV.nnil a0 = true ∧
AV.isP a0 = true ∧
∃ v40 : AV, ldO false 1 (padd 11 a0) o6 = some (v40) ∧
AV.isP (AV.ptr (List.length o) 0) = true ∧
∃ x41 : Int, ldO false 1 (padd 1 (AV.ptr (List.length o) 0)) o6 = some (.int .i64 x41) ∧
AV.isP (AV.ptr (List.length o) 0) = true ∧
∃ x42 : Int, ldO false 1 (padd 2 (AV.ptr (List.length o) 0)) o6 = some (.int .i64 x42) ∧
call (.func n_net_Net_Take) [v40, .int .i64 x41, .int .i64 x42] o6 fun v43 o44 =>
∃ v45 : AV, ∃ x46 : Int, v43 = .tuple [v45, .int .i64 x46] ∧
R (AV.tuple [.int .i64 (0 : Int), .int .i64 x46]) o44) (
cnd (x13 == (4 : Int)) (
AV.nnil a0 = true ∧
AV.isP a0 = true ∧
∃ v47 : AV, ldO false 1 (padd 11 a0) o6 = some (v47) ∧
AV.isP (AV.ptr (List.length o) 0) = true ∧
∃ x48 : Int, ldO false 1 (padd 1 (AV.ptr (List.length o) 0)) o6 = some (.int .i64 x48) ∧
AV.isP (AV.ptr (List.length o) 0) = true ∧
∃ x49 : Int, ldO false 1 (padd 2 (AV.ptr (List.length o) 0)) o6 = some (.int .i64 x49) ∧
call (.func n_net_Net_Double) [v47, .int .i64 x48, .int .i64 x49] o6 fun v50 o51 =>
∃ x52 : Int, v50 = .int .i64 x52 ∧
R (AV.tuple [.int .i64 (0 : Int), .int .i64 x52]) o51) (
cnd (x13 == (5 : Int)) (
AV.isP (AV.ptr (List.length o) 0) = true ∧
∃ x53 : Int, ldO false 1 (padd 1 (AV.ptr (List.length o) 0)) o6 = some (.int .i64 x53) ∧
call (.func n_world_World_start) [a0, .int .i64 x53] o6 fun v54 o55 =>
∃ x56 : Int, v54 = .int .i64 x56 ∧
R (AV.tuple [.int .i64 (0 : Int), .int .i64 x56]) o55) (
cnd (x13 == (6 : Int)) (
AV.isP (AV.ptr (List.length o) 0) = true ∧
∃ x57 : Int, ldO false 1 (padd 1 (AV.ptr (List.length o) 0)) o6 = some (.int .i64 x57) ∧
AV.isP (AV.ptr (List.length o) 0) = true ∧
∃ x58 : Int, ldO false 1 (padd 3 (AV.ptr (List.length o) 0)) o6 = some (.int .u64 x58) ∧
AV.nnil (padd (Int.toNat x8 * 3) (padd 5 a0)) = true ∧
AV.isP (padd (Int.toNat x8 * 3) (padd 5 a0)) = true ∧
∃ v59 : AV, ldO false 1 (padd 0 (padd (Int.toNat x8 * 3) (padd 5 a0))) o6 = some (v59) ∧
call (.func n_node_Node_Status) [v59] o6 fun v60 o61 =>
∃ x62 : Int, v60 = .int .i64 x62 ∧
∃ x63 : Int, ldO false 1 (padd 3 (AV.ptr (List.length o) 0)) o61 = some (.int .u64 x63) ∧
(AV.int .u64 x63) = (AV.int .u64 x58) ∧
beqA (AV.int .u64 x63) (AV.int .u64 x63) = true ∧
∃ x64 : Int, ldO false 1 (padd 1 (AV.ptr (List.length o) 0)) o61 = some (.int .i64 x64) ∧
(AV.int .i64 x64) = (AV.int .i64 x57) ∧
beqA (AV.int .i64 x64) (AV.int .i64 x64) = true ∧
call (.func n_world_World_falls) [a0, .int .i64 x57, .int .u64 x58, .bool (x62 != (0 : Int))] o61 fun v65 o66 =>
j12 [] o66) (
cnd (x13 == (7 : Int)) (
AV.nnil (padd (Int.toNat x8 * 3) (padd 5 a0)) = true ∧
AV.isP (padd (Int.toNat x8 * 3) (padd 5 a0)) = true ∧
∃ v67 : AV, ldO false 1 (padd 1 (padd (Int.toNat x8 * 3) (padd 5 a0))) o6 = some (v67) ∧
AV.isP (AV.ptr (List.length o) 0) = true ∧
∃ x68 : Int, ldO false 1 (padd 2 (AV.ptr (List.length o) 0)) o6 = some (.int .i64 x68) ∧
call (.func n_disk_Disk_Fuse) [v67, .int .i64 x68] o6 fun v69 o70 =>
AV.isP (AV.ptr (List.length o) 0) = true ∧
∃ x71 : Int, ldO false 1 (padd 3 (AV.ptr (List.length o) 0)) o70 = some (.int .u64 x71) ∧
AV.nnil (padd (Int.toNat x8 * 3) (padd 5 a0)) = true ∧
AV.isP (padd (Int.toNat x8 * 3) (padd 5 a0)) = true ∧
∃ o72 : OS, stO (padd 2 (padd (Int.toNat x8 * 3) (padd 5 a0))) [.int .u64 x71] o70 = some o72 ∧
j12 [] o72) (
R (AV.tuple [.int .i64 (0 : Int), .int .i64 (2 : Int)]) o6))))))))))

theorem world_World_Do_eq (call : CallO) (n : Nat) (R : AV → OS → Prop) (a0 : AV) (a1x0 : Int) (a1x1 : Int) (a1x2 : Int) (a1x3 : Int) (a1x4 : Int) (a1x5 : Int) (a1x6 : Int) (a1x7 : AV) (o : OS) : gFun Tryz.prog call n 4 [a0, .agg [.int .i64 a1x0, .int .i64 a1x1, .int .i64 a1x2, .int .u64 a1x3, .int .i64 a1x4, .int .i64 a1x5, .int .i64 a1x6, a1x7]] o R = world_World_Do call n R a0 a1x0 a1x1 a1x2 a1x3 a1x4 a1x5 a1x6 a1x7 o := by kernel_rfl
theorem world_World_Do_go (n : Nat) {a0 : AV} {a1x0 : Int} {a1x1 : Int} {a1x2 : Int} {a1x3 : Int} {a1x4 : Int} {a1x5 : Int} {a1x6 : Int} {a1x7 : AV} {o : OS} {K : AV → OS → Prop} (h : world_World_Do (GoF Tryz.prog) n (rt o K) a0 a1x0 a1x1 a1x2 a1x3 a1x4 a1x5 a1x6 a1x7 o) : Go Tryz.prog n_world_World_Do [a0, .agg [.int .i64 a1x0, .int .i64 a1x1, .int .i64 a1x2, .int .u64 a1x3, .int .i64 a1x4, .int .i64 a1x5, .int .i64 a1x6, a1x7]] o K :=
  Go.of sane (n := n) ((world_World_Do_eq (GoF Tryz.prog) n (rt o K) a0 a1x0 a1x1 a1x2 a1x3 a1x4 a1x5 a1x6 a1x7 o).mpr h)

/-! (*twain/world.World).Node -/

abbrev world_World_Node (call : CallO) (n : Nat) (R : AV → OS → Prop) (a0 : AV) (a1 : Int) (o : OS) : Prop :=
call (.func n_world_World_has) [a0, .int .i64 a1] o fun v0 o1 =>
∃ b2 : Bool, v0 = .bool b2 ∧
cnd (!b2) (
R .nilptr o1) (
AV.nnil a0 = true ∧
AV.isP a0 = true ∧
AV.isP (padd 5 a0) = true ∧
(0 ≤ a1 ∧ a1 < ((2 : Nat) : Int)) ∧
AV.isP (padd (Int.toNat a1 * 3) (padd 5 a0)) = true ∧
∃ v3 : AV, ldO false 1 (padd 0 (padd (Int.toNat a1 * 3) (padd 5 a0))) o1 = some (v3) ∧
R v3 o1)

theorem world_World_Node_eq (call : CallO) (n : Nat) (R : AV → OS → Prop) (a0 : AV) (a1 : Int) (o : OS) : gFun Tryz.prog call n 5 [a0, .int .i64 a1] o R = world_World_Node call n R a0 a1 o := by kernel_rfl
theorem world_World_Node_go (n : Nat) {a0 : AV} {a1 : Int} {o : OS} {K : AV → OS → Prop} (h : world_World_Node (GoF Tryz.prog) n (rt o K) a0 a1 o) : Go Tryz.prog n_world_World_Node [a0, .int .i64 a1] o K :=
  Go.of sane (n := n) ((world_World_Node_eq (GoF Tryz.prog) n (rt o K) a0 a1 o).mpr h)

/-! (*twain/world.World).Disk -/

abbrev world_World_Disk (call : CallO) (n : Nat) (R : AV → OS → Prop) (a0 : AV) (a1 : Int) (o : OS) : Prop :=
call (.func n_world_World_has) [a0, .int .i64 a1] o fun v0 o1 =>
∃ b2 : Bool, v0 = .bool b2 ∧
cnd (!b2) (
R .nilptr o1) (
AV.nnil a0 = true ∧
AV.isP a0 = true ∧
AV.isP (padd 5 a0) = true ∧
(0 ≤ a1 ∧ a1 < ((2 : Nat) : Int)) ∧
AV.isP (padd (Int.toNat a1 * 3) (padd 5 a0)) = true ∧
∃ v3 : AV, ldO false 1 (padd 1 (padd (Int.toNat a1 * 3) (padd 5 a0))) o1 = some (v3) ∧
R v3 o1)

theorem world_World_Disk_eq (call : CallO) (n : Nat) (R : AV → OS → Prop) (a0 : AV) (a1 : Int) (o : OS) : gFun Tryz.prog call n 6 [a0, .int .i64 a1] o R = world_World_Disk call n R a0 a1 o := by kernel_rfl
theorem world_World_Disk_go (n : Nat) {a0 : AV} {a1 : Int} {o : OS} {K : AV → OS → Prop} (h : world_World_Disk (GoF Tryz.prog) n (rt o K) a0 a1 o) : Go Tryz.prog n_world_World_Disk [a0, .int .i64 a1] o K :=
  Go.of sane (n := n) ((world_World_Disk_eq (GoF Tryz.prog) n (rt o K) a0 a1 o).mpr h)

/-! (*twain/world.World).Net -/

abbrev world_World_Net (call : CallO) (n : Nat) (R : AV → OS → Prop) (a0 : AV) (o : OS) : Prop :=
call (.func n_world_World_is) [a0] o fun v0 o1 =>
∃ b2 : Bool, v0 = .bool b2 ∧
cnd (!b2) (
R .nilptr o1) (
AV.nnil a0 = true ∧
AV.isP a0 = true ∧
∃ v3 : AV, ldO false 1 (padd 11 a0) o1 = some (v3) ∧
R v3 o1)

theorem world_World_Net_eq (call : CallO) (n : Nat) (R : AV → OS → Prop) (a0 : AV) (o : OS) : gFun Tryz.prog call n 7 [a0] o R = world_World_Net call n R a0 o := by kernel_rfl
theorem world_World_Net_go (n : Nat) {a0 : AV} {o : OS} {K : AV → OS → Prop} (h : world_World_Net (GoF Tryz.prog) n (rt o K) a0 o) : Go Tryz.prog n_world_World_Net [a0] o K :=
  Go.of sane (n := n) ((world_World_Net_eq (GoF Tryz.prog) n (rt o K) a0 o).mpr h)

/-! (*twain/world.World).Events -/
abbrev world_World_Events_J6 (call : CallO) (n : Nat) (R : AV → OS → Prop) : List AV → OS → Prop := fun vals3 o4 =>
∃ v5 : AV, vals3 = [v5] ∧
R v5 o4

abbrev world_World_Events_L54 (call : CallO) (n : Nat) (R : AV → OS → Prop) (j7 : List AV → OS → Prop) : (List AV → OS → Prop) → List AV → OS → Prop := fun X9 vals10 o11 =>
∃ v12 : AV, ∃ v13 : AV, ∃ x14 : Int, ∃ x15 : Int, vals10 = [v12, v13, .int .i64 x14, .int .i64 x15] ∧
cnd (decide (x15 < x14)) (
(0 ≤ x15 ∧ x15 < alen v13) ∧
∃ x16 : Int, ∃ x17 : Int, ∃ x18 : Int, ∃ x19 : Int, ∃ x20 : Int, ∃ x21 : Int, ∃ v22 : AV, ∃ v23 : AV, ldO true 8 (ixp 8 v13 x15) o11 = some (.agg [.int .i64 x16, .int .i64 x17, .int .i64 x18, .int .i64 x19, .int .i64 x20, .int .i64 x21, v22, v23]) ∧
bnd (o11 ++ [AO.cells true [.int .i64 (0 : Int), .int .i64 (0 : Int), .int .i64 (0 : Int), .int .i64 (0 : Int), .int .i64 (0 : Int), .int .i64 (0 : Int), .nilslice, .nilslice]]) fun o24 =>
AV.one v22 = true ∧
AV.one v23 = true ∧
∃ o25 : OS, stO (AV.ptr (List.length o11) 0) [.int .i64 x16, .int .i64 x17, .int .i64 x18, .int .i64 x19, .int .i64 x20, .int .i64 x21, v22, v23] o24 = some o25 ∧
AV.isP (AV.ptr (List.length o11) 0) = true ∧
∃ x26 : Int, ∃ x27 : Int, ∃ x28 : Int, ∃ v29 : AV, ldO true 4 (padd 3 (AV.ptr (List.length o11) 0)) o25 = some (.agg [.int .i64 x26, .int .i64 x27, .int .i64 x28, v29]) ∧
AV.isP (AV.ptr (List.length o11) 0) = true ∧
∃ v30 : AV, ldO false 1 (padd 7 (AV.ptr (List.length o11) 0)) o25 = some (v30) ∧
call (.func n_world_own) [.agg [.int .i64 x26, .int .i64 x27, .int .i64 x28, v29]] o25 fun v31 o32 =>
∃ x33 : Int, ∃ x34 : Int, ∃ x35 : Int, ∃ v36 : AV, v31 = .agg [.int .i64 x33, .int .i64 x34, .int .i64 x35, v36] ∧
∃ v37 : AV, ldO false 1 (padd 7 (AV.ptr (List.length o11) 0)) o32 = some (v37) ∧
v37 = v30 ∧
beqA v37 v37 = true ∧
AV.isP (AV.ptr (List.length o11) 0) = true ∧
call (.func n_slices_Clone__bytebyte) [v30] o32 fun v38 o39 =>
AV.one v36 = true ∧
∃ o40 : OS, stO (padd 3 (AV.ptr (List.length o11) 0)) [.int .i64 x33, .int .i64 x34, .int .i64 x35, v36] o39 = some o40 ∧
AV.isP (AV.ptr (List.length o11) 0) = true ∧
AV.one v38 = true ∧
∃ o41 : OS, stO (padd 7 (AV.ptr (List.length o11) 0)) [v38] o40 = some o41 ∧
∃ x42 : Int, ∃ x43 : Int, ∃ x44 : Int, ∃ x45 : Int, ∃ x46 : Int, ∃ x47 : Int, ∃ v48 : AV, ∃ v49 : AV, ldO true 8 (AV.ptr (List.length o11) 0) o41 = some (.agg [.int .i64 x42, .int .i64 x43, .int .i64 x44, .int .i64 x45, .int .i64 x46, .int .i64 x47, v48, v49]) ∧
AV.one v48 = true ∧
AV.one v49 = true ∧
bnd (o41 ++ [AO.cells true [.int .i64 x42, .int .i64 x43, .int .i64 x44, .int .i64 x45, .int .i64 x46, .int .i64 x47, v48, v49]]) fun o50 =>
∃ (v51 : AV) (o52 : OS), appO 8 96 v12 (AV.slice (List.length o41) 0 1 1 0) o50 = some (v51, o52) ∧
bnd (IntKind.wrap .i64 (x15 + (1 : Int))) fun x53 =>
X9 [v51, v13, .int .i64 x14, .int .i64 x53] o52) (
j7 [v12] o11)

abbrev world_World_Events (call : CallO) (n : Nat) (R : AV → OS → Prop) (a0 : AV) (o : OS) : Prop :=
call (.func n_world_World_is) [a0] o fun v0 o1 =>
∃ b2 : Bool, v0 = .bool b2 ∧
cnd (!b2) (
R .nilslice o1) (
jp (world_World_Events_J6 call n R) fun j7 =>
AV.nnil a0 = true ∧
AV.isP a0 = true ∧
∃ v8 : AV, ldO false 1 (padd 12 a0) o1 = some (v8) ∧
AV.isS v8 = true ∧
lp n (world_World_Events_L54 call n R j7) [.nilslice, v8, .int .i64 (alen v8), .int .i64 (0 : Int)] o1)

theorem world_World_Events_eq (call : CallO) (n : Nat) (R : AV → OS → Prop) (a0 : AV) (o : OS) : gFun Tryz.prog call n 8 [a0] o R = world_World_Events call n R a0 o := by kernel_rfl
theorem world_World_Events_go (n : Nat) {a0 : AV} {o : OS} {K : AV → OS → Prop} (h : world_World_Events (GoF Tryz.prog) n (rt o K) a0 o) : Go Tryz.prog n_world_World_Events [a0] o K :=
  Go.of sane (n := n) ((world_World_Events_eq (GoF Tryz.prog) n (rt o K) a0 o).mpr h)

/-! (*twain/world.World).Config -/

abbrev world_World_Config (call : CallO) (n : Nat) (R : AV → OS → Prop) (a0 : AV) (o : OS) : Prop :=
bnd (o ++ [AO.cells true [.int .i64 (0 : Int), .int .i64 (0 : Int), .int .i64 (0 : Int), .int .i64 (0 : Int), .int .i64 (0 : Int)]]) fun o0 =>
call (.func n_world_World_is) [a0] o0 fun v1 o2 =>
∃ b3 : Bool, v1 = .bool b3 ∧
cnd (!b3) (
∃ o4 : OS, stO (AV.ptr (List.length o) 0) [.int .i64 (0 : Int), .int .i64 (0 : Int), .int .i64 (0 : Int), .int .i64 (0 : Int), .int .i64 (0 : Int)] o2 = some o4 ∧
∃ x5 : Int, ∃ x6 : Int, ∃ x7 : Int, ∃ x8 : Int, ∃ x9 : Int, ldO true 5 (AV.ptr (List.length o) 0) o4 = some (.agg [.int .i64 x5, .int .i64 x6, .int .i64 x7, .int .i64 x8, .int .i64 x9]) ∧
R (AV.agg [.int .i64 x5, .int .i64 x6, .int .i64 x7, .int .i64 x8, .int .i64 x9]) o4) (
AV.nnil a0 = true ∧
AV.isP a0 = true ∧
∃ x10 : Int, ∃ x11 : Int, ∃ x12 : Int, ∃ x13 : Int, ∃ x14 : Int, ldO true 5 (padd 0 a0) o2 = some (.agg [.int .i64 x10, .int .i64 x11, .int .i64 x12, .int .i64 x13, .int .i64 x14]) ∧
∃ o15 : OS, stO (AV.ptr (List.length o) 0) [.int .i64 x10, .int .i64 x11, .int .i64 x12, .int .i64 x13, .int .i64 x14] o2 = some o15 ∧
∃ x16 : Int, ∃ x17 : Int, ∃ x18 : Int, ∃ x19 : Int, ∃ x20 : Int, ldO true 5 (AV.ptr (List.length o) 0) o15 = some (.agg [.int .i64 x16, .int .i64 x17, .int .i64 x18, .int .i64 x19, .int .i64 x20]) ∧
R (AV.agg [.int .i64 x16, .int .i64 x17, .int .i64 x18, .int .i64 x19, .int .i64 x20]) o15)

theorem world_World_Config_eq (call : CallO) (n : Nat) (R : AV → OS → Prop) (a0 : AV) (o : OS) : gFun Tryz.prog call n 9 [a0] o R = world_World_Config call n R a0 o := by kernel_rfl
theorem world_World_Config_go (n : Nat) {a0 : AV} {o : OS} {K : AV → OS → Prop} (h : world_World_Config (GoF Tryz.prog) n (rt o K) a0 o) : Go Tryz.prog n_world_World_Config [a0] o K :=
  Go.of sane (n := n) ((world_World_Config_eq (GoF Tryz.prog) n (rt o K) a0 o).mpr h)

/-! (*twain/world.World).is -/
abbrev world_World_is_J3 (call : CallO) (n : Nat) (R : AV → OS → Prop) : List AV → OS → Prop := fun vals0 o1 =>
∃ b2 : Bool, vals0 = [.bool b2] ∧
R (AV.bool b2) o1

abbrev world_World_is (call : CallO) (n : Nat) (R : AV → OS → Prop) (a0 : AV) (o : OS) : Prop :=
jp (world_World_is_J3 call n R) fun j4 =>
∃ b5 : Bool, nilP2 a0 .nilptr = some b5 ∧
cnd (!b5) (
AV.nnil a0 = true ∧
AV.isP a0 = true ∧
∃ v6 : AV, ldO false 1 (padd 11 a0) o = some (v6) ∧
∃ b7 : Bool, nilP2 v6 .nilptr = some b7 ∧
j4 [.bool (!b7)] o) (
j4 [.bool false] o)

theorem world_World_is_eq (call : CallO) (n : Nat) (R : AV → OS → Prop) (a0 : AV) (o : OS) : gFun Tryz.prog call n 11 [a0] o R = world_World_is call n R a0 o := by kernel_rfl
theorem world_World_is_go (n : Nat) {a0 : AV} {o : OS} {K : AV → OS → Prop} (h : world_World_is (GoF Tryz.prog) n (rt o K) a0 o) : Go Tryz.prog n_world_World_is [a0] o K :=
  Go.of sane (n := n) ((world_World_is_eq (GoF Tryz.prog) n (rt o K) a0 o).mpr h)

/-! (*twain/world.World).has -/
abbrev world_World_has_J3 (call : CallO) (n : Nat) (R : AV → OS → Prop) : List AV → OS → Prop := fun vals0 o1 =>
∃ b2 : Bool, vals0 = [.bool b2] ∧
R (AV.bool b2) o1

abbrev world_World_has (call : CallO) (n : Nat) (R : AV → OS → Prop) (a0 : AV) (a1 : Int) (o : OS) : Prop :=
jp (world_World_has_J3 call n R) fun j4 =>
call (.func n_world_World_is) [a0] o fun v5 o6 =>
∃ b7 : Bool, v5 = .bool b7 ∧
cnd b7 (
cnd (decide (a1 ≥ (0 : Int))) (
j4 [.bool (decide (a1 < (2 : Int)))] o6) (
j4 [.bool false] o6)) (
j4 [.bool false] o6)

theorem world_World_has_eq (call : CallO) (n : Nat) (R : AV → OS → Prop) (a0 : AV) (a1 : Int) (o : OS) : gFun Tryz.prog call n 12 [a0, .int .i64 a1] o R = world_World_has call n R a0 a1 o := by kernel_rfl
theorem world_World_has_go (n : Nat) {a0 : AV} {a1 : Int} {o : OS} {K : AV → OS → Prop} (h : world_World_has (GoF Tryz.prog) n (rt o K) a0 a1 o) : Go Tryz.prog n_world_World_has [a0, .int .i64 a1] o K :=
  Go.of sane (n := n) ((world_World_has_eq (GoF Tryz.prog) n (rt o K) a0 a1 o).mpr h)

end Go.Proofs.YtkjdkaaekpammabGreat
