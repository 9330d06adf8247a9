/- T1: functions of the program in the typed form, printed by a program of our own (wip/laws/Print.lean.txt). -/
import Derived.Test.YtkjdkaaekpammaaGreatT0
set_option linter.all false
set_option maxRecDepth 100000
set_option autoImplicit false
namespace Go.Proofs.YtkjdkaaekpammaaGreat
open Go Go.Ab
/-! twain/twainlaw32.NodeNone -/
abbrev twainlaw32_NodeNone_J15 (call : CallO) (n : Nat) (R : AV → OS → Prop) : List AV → OS → Prop := fun vals10 o11 =>
vals10 = [] ∧
call (.func n_twainlaw32_lives) [] o11 fun v12 o13 =>
∃ b14 : Bool, v12 = .bool b14 ∧
R (AV.bool b14) o13

abbrev twainlaw32_NodeNone_J48 (call : CallO) (n : Nat) (R : AV → OS → Prop) (X17 : List AV → OS → Prop) : List AV → OS → Prop := fun vals40 o41 =>
∃ v42 : AV, ∃ v43 : AV, ∃ x44 : Int, ∃ x45 : Int, ∃ b46 : Bool, vals40 = [v42, v43, .int .i64 x44, .int .i64 x45, .bool b46] ∧
cnd b46 (
R (AV.bool false) o41) (
bnd (IntKind.wrap .i64 (x45 + (1 : Int))) fun x47 =>
X17 [v42, v43, .int .i64 x44, .int .i64 x47] o41)

abbrev twainlaw32_NodeNone_L80 (call : CallO) (n : Nat) (R : AV → OS → Prop) (j16 : List AV → OS → Prop) : (List AV → OS → Prop) → List AV → OS → Prop := fun X17 vals18 o19 =>
∃ v20 : AV, ∃ v21 : AV, ∃ x22 : Int, ∃ x23 : Int, vals18 = [v20, v21, .int .i64 x22, .int .i64 x23] ∧
cnd (decide (x23 < x22)) (
(0 ≤ x23 ∧ x23 < alen v21) ∧
∃ v24 : AV, ldO false 1 (ixp 1 v21 x23) o19 = some (v24) ∧
AV.isP v20 = true ∧
∃ x25 : Int, ∃ x26 : Int, ∃ x27 : Int, ∃ v28 : AV, ldO true 4 (padd 3 v20) o19 = some (.agg [.int .i64 x25, .int .i64 x26, .int .i64 x27, v28]) ∧
call (.func n_node_Node_Submit) [v24, .agg [.int .i64 x25, .int .i64 x26, .int .i64 x27, v28]] o19 fun v29 o30 =>
∃ x31 : Int, ∃ x32 : Int, v29 = .tuple [.int .i64 x31, .int .i64 x32] ∧
AV.isP v20 = true ∧
∃ v33 : AV, ldO false 1 (padd 19 v20) o30 = some (v33) ∧
call (.func n_node_Node_Take) [v24, v33] o30 fun v34 o35 =>
call (.func n_node_Node_Tick) [v24] o35 fun v36 o37 =>
call (.func n_node_Node_Stop) [v24] o37 fun v38 o39 =>
jp (twainlaw32_NodeNone_J48 call n R X17) fun j49 =>
cnd (x31 != (0 : Int)) (
j49 [v20, v21, .int .i64 x22, .int .i64 x23, .bool true] o39) (
cnd (x32 != (1 : Int)) (
j49 [v20, v21, .int .i64 x22, .int .i64 x23, .bool true] o39) (
call (.func n_node_Node_Start) [v24] o39 fun v50 o51 =>
∃ x52 : Int, v50 = .int .i64 x52 ∧
cnd (x52 != (1 : Int)) (
j49 [v20, v21, .int .i64 x22, .int .i64 x23, .bool true] o51) (
call (.func n_node_Node_Status) [v24] o51 fun v53 o54 =>
∃ x55 : Int, v53 = .int .i64 x55 ∧
cnd (x55 != (0 : Int)) (
j49 [v20, v21, .int .i64 x22, .int .i64 x23, .bool true] o54) (
call (.func n_node_Node_Poll) [v24] o54 fun v56 o57 =>
AV.isS v56 = true ∧
call (.func n_node_Node_Mail) [v24] o57 fun v58 o59 =>
AV.isS v58 = true ∧
bnd (IntKind.wrap .i64 ((alen v56) + (alen v58))) fun x60 =>
call (.func n_node_Node_Requests) [v24] o59 fun v61 o62 =>
AV.isS v61 = true ∧
bnd (IntKind.wrap .i64 (x60 + (alen v61))) fun x63 =>
call (.func n_node_Node_Flying) [v24] o62 fun v64 o65 =>
AV.isS v64 = true ∧
bnd (IntKind.wrap .i64 (x63 + (alen v64))) fun x66 =>
call (.func n_node_Node_Unacked) [v24] o65 fun v67 o68 =>
∃ x69 : Int, v67 = .int .i64 x69 ∧
bnd (IntKind.wrap .i64 (x66 + x69)) fun x70 =>
cnd (x70 != (0 : Int)) (
j49 [v20, v21, .int .i64 x22, .int .i64 x23, .bool true] o68) (
call (.func n_node_Node_Boot) [v24] o68 fun v71 o72 =>
∃ x73 : Int, v71 = .int .u32 x73 ∧
cnd (x73 != (0 : Int)) (
j49 [v20, v21, .int .i64 x22, .int .i64 x23, .bool true] o72) (
call (.func n_node_Node_Peer) [v24] o72 fun v74 o75 =>
∃ x76 : Int, v74 = .int .u32 x76 ∧
cnd (x76 != (0 : Int)) (
j49 [v20, v21, .int .i64 x22, .int .i64 x23, .bool true] o75) (
call (.func n_node_Node_Left) [v24] o75 fun v77 o78 =>
∃ x79 : Int, v77 = .int .u64 x79 ∧
j49 [v20, v21, .int .i64 x22, .int .i64 x23, .bool (x79 != (0 : Int))] o78)))))))) (
j16 [] o19)

abbrev twainlaw32_NodeNone_J81 (call : CallO) (n : Nat) (R : AV → OS → Prop) : List AV → OS → Prop := fun vals1 o2 =>
∃ v3 : AV, ∃ b4 : Bool, vals1 = [v3, .bool b4] ∧
cnd b4 (
call (.func n_twainlaw32_lives) [] o2 fun v5 o6 =>
∃ b7 : Bool, v5 = .bool b7 ∧
R (AV.bool b7) o6) (
AV.one .nilptr = true ∧
AV.one .nilptr = true ∧
AV.one .nilslice = true ∧
AV.one .nilptr = true ∧
AV.one .nilptr = true ∧
AV.one .nilptr = true ∧
AV.one .nilslice = true ∧
AV.one .nilslice = true ∧
bnd (o2 ++ [AO.cells true [.int .i64 (0 : Int), .int .i64 (0 : Int), .int .i64 (0 : Int), .int .i64 (0 : Int), .int .i64 (0 : Int), .int .i64 (0 : Int), .nilptr, .nilptr, .int .i64 (0 : Int), .bool false, .int .i64 (0 : Int), .int .i64 (0 : Int), .int .i64 (0 : Int), .int .i64 (0 : Int), .int .u64 (0 : Int), .bool false, .nilslice, .nilptr, .nilptr, .nilptr, .nilslice, .nilslice]]) fun o8 =>
AV.one .nilptr = true ∧
AV.one (AV.ptr (List.length o2) 0) = true ∧
bnd (o8 ++ [AO.cells true [.nilptr, (AV.ptr (List.length o2) 0)]]) fun o9 =>
jp (twainlaw32_NodeNone_J15 call n R) fun j16 =>
AV.isS (AV.slice (List.length o8) 0 2 2 0) = true ∧
lp n (twainlaw32_NodeNone_L80 call n R j16) [v3, (AV.slice (List.length o8) 0 2 2 0), .int .i64 (alen (AV.slice (List.length o8) 0 2 2 0)), .int .i64 (0 : Int)] o9)

abbrev twainlaw32_NodeNone (call : CallO) (n : Nat) (R : AV → OS → Prop) (a0x0 : Int) (a0x1 : Int) (a0x2 : Int) (a0x3 : Int) (a0x4 : Int) (a0x5 : Int) (a0x6 : AV) (a0x7 : Int) (a0x8 : Int) (a0x9 : Int) (a0x10 : Int) (a0x11 : Int) (a0x12 : AV) (a0x13 : Int) (a0x14 : Int) (a0x15 : Int) (a0x16 : Int) (a0x17 : Bool) (a0x18 : AV) (a0x19 : AV) (o : OS) : Prop :=
AV.one a0x6 = true ∧
AV.one a0x12 = true ∧
AV.one a0x18 = true ∧
AV.one a0x19 = true ∧
bnd (o ++ [AO.cells true [.int .i64 a0x0, .int .i64 a0x1, .int .u64 a0x2, .int .i64 a0x3, .int .i64 a0x4, .int .i64 a0x5, a0x6, .int .u32 a0x7, .int .u32 a0x8, .int .i64 a0x9, .int .i64 a0x10, .int .i64 a0x11, a0x12, .int .i64 a0x13, .int .i64 a0x14, .int .i64 a0x15, .int .u64 a0x16, .bool a0x17, a0x18, a0x19]]) fun o0 =>
jp (twainlaw32_NodeNone_J81 call n R) fun j82 =>
AV.isP (AV.ptr (List.length o) 0) = true ∧
AV.isP (padd 3 (AV.ptr (List.length o) 0)) = true ∧
∃ v83 : AV, ldO false 1 (padd 3 (padd 3 (AV.ptr (List.length o) 0))) o0 = some (v83) ∧
AV.isS v83 = true ∧
cnd (decide ((alen v83) > (300 : Int))) (
j82 [(AV.ptr (List.length o) 0), .bool true] o0) (
AV.isP (AV.ptr (List.length o) 0) = true ∧
∃ v84 : AV, ldO false 1 (padd 19 (AV.ptr (List.length o) 0)) o0 = some (v84) ∧
AV.isS v84 = true ∧
j82 [(AV.ptr (List.length o) 0), .bool (decide ((alen v84) > (300 : Int)))] o0)

theorem twainlaw32_NodeNone_eq (call : CallO) (n : Nat) (R : AV → OS → Prop) (a0x0 : Int) (a0x1 : Int) (a0x2 : Int) (a0x3 : Int) (a0x4 : Int) (a0x5 : Int) (a0x6 : AV) (a0x7 : Int) (a0x8 : Int) (a0x9 : Int) (a0x10 : Int) (a0x11 : Int) (a0x12 : AV) (a0x13 : Int) (a0x14 : Int) (a0x15 : Int) (a0x16 : Int) (a0x17 : Bool) (a0x18 : AV) (a0x19 : AV) (o : OS) : gFun Tryz.prog call n 3 [.agg [.int .i64 a0x0, .int .i64 a0x1, .int .u64 a0x2, .int .i64 a0x3, .int .i64 a0x4, .int .i64 a0x5, a0x6, .int .u32 a0x7, .int .u32 a0x8, .int .i64 a0x9, .int .i64 a0x10, .int .i64 a0x11, a0x12, .int .i64 a0x13, .int .i64 a0x14, .int .i64 a0x15, .int .u64 a0x16, .bool a0x17, a0x18, a0x19]] o R = twainlaw32_NodeNone call n R a0x0 a0x1 a0x2 a0x3 a0x4 a0x5 a0x6 a0x7 a0x8 a0x9 a0x10 a0x11 a0x12 a0x13 a0x14 a0x15 a0x16 a0x17 a0x18 a0x19 o := by kernel_rfl
theorem twainlaw32_NodeNone_go (n : Nat) {a0x0 : Int} {a0x1 : Int} {a0x2 : Int} {a0x3 : Int} {a0x4 : Int} {a0x5 : Int} {a0x6 : AV} {a0x7 : Int} {a0x8 : Int} {a0x9 : Int} {a0x10 : Int} {a0x11 : Int} {a0x12 : AV} {a0x13 : Int} {a0x14 : Int} {a0x15 : Int} {a0x16 : Int} {a0x17 : Bool} {a0x18 : AV} {a0x19 : AV} {o : OS} {K : AV → OS → Prop} (h : twainlaw32_NodeNone (GoF Tryz.prog) n (rt o K) a0x0 a0x1 a0x2 a0x3 a0x4 a0x5 a0x6 a0x7 a0x8 a0x9 a0x10 a0x11 a0x12 a0x13 a0x14 a0x15 a0x16 a0x17 a0x18 a0x19 o) : Go Tryz.prog n_twainlaw32_NodeNone [.agg [.int .i64 a0x0, .int .i64 a0x1, .int .u64 a0x2, .int .i64 a0x3, .int .i64 a0x4, .int .i64 a0x5, a0x6, .int .u32 a0x7, .int .u32 a0x8, .int .i64 a0x9, .int .i64 a0x10, .int .i64 a0x11, a0x12, .int .i64 a0x13, .int .i64 a0x14, .int .i64 a0x15, .int .u64 a0x16, .bool a0x17, a0x18, a0x19]] o K :=
  Go.of sane (n := n) ((twainlaw32_NodeNone_eq (GoF Tryz.prog) n (rt o K) a0x0 a0x1 a0x2 a0x3 a0x4 a0x5 a0x6 a0x7 a0x8 a0x9 a0x10 a0x11 a0x12 a0x13 a0x14 a0x15 a0x16 a0x17 a0x18 a0x19 o).mpr h)

/-! (*twain/node.Node).Submit -/
abbrev node_Node_Submit_J50 (call : CallO) (n : Nat) (R : AV → OS → Prop) : List AV → OS → Prop := fun vals30 o31 =>
∃ v32 : AV, ∃ v33 : AV, ∃ x34 : Int, ∃ b35 : Bool, vals30 = [v32, v33, .int .i64 x34, .bool b35] ∧
cnd b35 (
R (AV.tuple [.int .i64 (0 : Int), .int .i64 (6 : Int)]) o31) (
AV.nnil v32 = true ∧
AV.isP v32 = true ∧
AV.isP (padd 7 v32) = true ∧
∃ x36 : Int, ldO false 1 (padd 3 (padd 7 v32)) o31 = some (.int .i64 x36) ∧
bnd (IntKind.wrap .i64 (x36 + (1 : Int))) fun x37 =>
AV.nnil v32 = true ∧
AV.isP v32 = true ∧
AV.isP (padd 7 v32) = true ∧
∃ o38 : OS, stO (padd 3 (padd 7 v32)) [.int .i64 x37] o31 = some o38 ∧
AV.nnil v32 = true ∧
AV.isP v32 = true ∧
AV.isP (padd 7 v32) = true ∧
∃ v39 : AV, ldO false 1 (padd 11 (padd 7 v32)) o38 = some (v39) ∧
∃ x40 : Int, ∃ x41 : Int, ∃ x42 : Int, ∃ v43 : AV, ldO true 4 v33 o38 = some (.agg [.int .i64 x40, .int .i64 x41, .int .i64 x42, v43]) ∧
call (.func n_table_Table_Add) [v39, .int .i64 x34, .agg [.int .i64 x40, .int .i64 x41, .int .i64 x42, v43]] o38 fun v44 o45 =>
∃ x46 : Int, v44 = .int .i64 x46 ∧
call (.func n_node_Node_step) [v32, .func (Fn.func 30) [] []] o45 fun v47 o48 =>
∃ x49 : Int, v47 = .int .i64 x49 ∧
R (AV.tuple [.int .i64 x34, .int .i64 (0 : Int)]) o48)

abbrev node_Node_Submit (call : CallO) (n : Nat) (R : AV → OS → Prop) (a0 : AV) (a1x0 : Int) (a1x1 : Int) (a1x2 : Int) (a1x3 : AV) (o : OS) : Prop :=
AV.one a1x3 = true ∧
bnd (o ++ [AO.cells true [.int .i64 a1x0, .int .i64 a1x1, .int .i64 a1x2, a1x3]]) fun o0 =>
call (.func n_node_Node_is) [a0] o0 fun v1 o2 =>
∃ b3 : Bool, v1 = .bool b3 ∧
cnd (!b3) (
R (AV.tuple [.int .i64 (0 : Int), .int .i64 (1 : Int)]) o2) (
call (.func n_node_Node_up) [a0] o2 fun v4 o5 =>
∃ b6 : Bool, v4 = .bool b6 ∧
cnd (!b6) (
R (AV.tuple [.int .i64 (0 : Int), .int .i64 (3 : Int)]) o5) (
AV.nnil a0 = true ∧
AV.isP a0 = true ∧
∃ x7 : Int, ∃ x8 : Int, ∃ x9 : Int, ∃ x10 : Int, ∃ x11 : Int, ldO true 5 (padd 0 a0) o5 = some (.agg [.int .i64 x7, .int .i64 x8, .int .i64 x9, .int .i64 x10, .int .i64 x11]) ∧
∃ x12 : Int, ∃ x13 : Int, ∃ x14 : Int, ∃ v15 : AV, ldO true 4 (AV.ptr (List.length o) 0) o5 = some (.agg [.int .i64 x12, .int .i64 x13, .int .i64 x14, v15]) ∧
call (.func n_request_Check) [.agg [.int .i64 x7, .int .i64 x8, .int .i64 x9, .int .i64 x10, .int .i64 x11], .agg [.int .i64 x12, .int .i64 x13, .int .i64 x14, v15]] o5 fun v16 o17 =>
∃ x18 : Int, v16 = .int .i64 x18 ∧
cnd (x18 != (0 : Int)) (
R (AV.tuple [.int .i64 (0 : Int), .int .i64 x18]) o17) (
AV.nnil a0 = true ∧
AV.isP a0 = true ∧
AV.isP (padd 7 a0) = true ∧
∃ v19 : AV, ldO false 1 (padd 0 (padd 7 a0)) o17 = some (v19) ∧
AV.nnil a0 = true ∧
AV.isP a0 = true ∧
AV.isP (padd 7 a0) = true ∧
∃ x20 : Int, ldO false 1 (padd 3 (padd 7 a0)) o17 = some (.int .i64 x20) ∧
bnd (IntKind.wrap .i64 (x20 + (1 : Int))) fun x21 =>
call (.func n_session_Session_My) [v19] o17 fun v22 o23 =>
∃ x24 : Int, v22 = .int .u32 x24 ∧
∃ x25 : Int, ldO false 1 (padd 3 (padd 7 a0)) o23 = some (.int .i64 x25) ∧
(AV.int .i64 x25) = (AV.int .i64 x20) ∧
beqA (AV.int .i64 x25) (AV.int .i64 x25) = true ∧
call (.func n_num_Ticket) [.int .u32 x24, .int .i64 x21] o23 fun v26 o27 =>
∃ x28 : Int, ∃ b29 : Bool, v26 = .tuple [.int .i64 x28, .bool b29] ∧
jp (node_Node_Submit_J50 call n R) fun j51 =>
AV.nnil a0 = true ∧
AV.isP a0 = true ∧
AV.isP (padd 7 a0) = true ∧
∃ v52 : AV, ldO false 1 (padd 11 (padd 7 a0)) o27 = some (v52) ∧
call (.func n_table_Table_Full) [v52] o27 fun v53 o54 =>
∃ b55 : Bool, v53 = .bool b55 ∧
cnd b55 (
j51 [a0, (AV.ptr (List.length o) 0), .int .i64 x28, .bool true] o54) (
AV.nnil a0 = true ∧
AV.isP a0 = true ∧
AV.isP (padd 7 a0) = true ∧
∃ v56 : AV, ldO false 1 (padd 0 (padd 7 a0)) o54 = some (v56) ∧
call (.func n_session_Session_Full) [v56] o54 fun v57 o58 =>
∃ b59 : Bool, v57 = .bool b59 ∧
cnd b59 (
j51 [a0, (AV.ptr (List.length o) 0), .int .i64 x28, .bool true] o58) (
j51 [a0, (AV.ptr (List.length o) 0), .int .i64 x28, .bool (!b29)] o58)))))

theorem node_Node_Submit_eq (call : CallO) (n : Nat) (R : AV → OS → Prop) (a0 : AV) (a1x0 : Int) (a1x1 : Int) (a1x2 : Int) (a1x3 : AV) (o : OS) : gFun Tryz.prog call n 5 [a0, .agg [.int .i64 a1x0, .int .i64 a1x1, .int .i64 a1x2, a1x3]] o R = node_Node_Submit call n R a0 a1x0 a1x1 a1x2 a1x3 o := by kernel_rfl
theorem node_Node_Submit_go (n : Nat) {a0 : AV} {a1x0 : Int} {a1x1 : Int} {a1x2 : Int} {a1x3 : AV} {o : OS} {K : AV → OS → Prop} (h : node_Node_Submit (GoF Tryz.prog) n (rt o K) a0 a1x0 a1x1 a1x2 a1x3 o) : Go Tryz.prog n_node_Node_Submit [a0, .agg [.int .i64 a1x0, .int .i64 a1x1, .int .i64 a1x2, a1x3]] o K :=
  Go.of sane (n := n) ((node_Node_Submit_eq (GoF Tryz.prog) n (rt o K) a0 a1x0 a1x1 a1x2 a1x3 o).mpr h)

/-! (*twain/node.Node).Take -/

abbrev node_Node_Take (call : CallO) (n : Nat) (R : AV → OS → Prop) (a0 : AV) (a1 : AV) (o : OS) : Prop :=
AV.one a0 = true ∧
bnd (o ++ [AO.cells true [a0]]) fun o0 =>
AV.one a1 = true ∧
bnd (o0 ++ [AO.cells true [a1]]) fun o1 =>
∃ v2 : AV, ldO false 1 (AV.ptr (List.length o) 0) o1 = some (v2) ∧
call (.func n_node_Node_up) [v2] o1 fun v3 o4 =>
∃ b5 : Bool, v3 = .bool b5 ∧
cnd (!b5) (
R (AV.tuple []) o4) (
∃ v6 : AV, ldO false 1 (AV.ptr (List.length o) 0) o4 = some (v6) ∧
call (.func n_node_Node_step) [v6, .func (Fn.func 31) [] [(AV.ptr (List.length o) 0), (AV.ptr (List.length o0) 0)]] o4 fun v7 o8 =>
∃ x9 : Int, v7 = .int .i64 x9 ∧
R (AV.tuple []) o8)

theorem node_Node_Take_eq (call : CallO) (n : Nat) (R : AV → OS → Prop) (a0 : AV) (a1 : AV) (o : OS) : gFun Tryz.prog call n 6 [a0, a1] o R = node_Node_Take call n R a0 a1 o := by kernel_rfl
theorem node_Node_Take_go (n : Nat) {a0 : AV} {a1 : AV} {o : OS} {K : AV → OS → Prop} (h : node_Node_Take (GoF Tryz.prog) n (rt o K) a0 a1 o) : Go Tryz.prog n_node_Node_Take [a0, a1] o K :=
  Go.of sane (n := n) ((node_Node_Take_eq (GoF Tryz.prog) n (rt o K) a0 a1 o).mpr h)

/-! (*twain/node.Node).Tick -/

abbrev node_Node_Tick (call : CallO) (n : Nat) (R : AV → OS → Prop) (a0 : AV) (o : OS) : Prop :=
AV.one a0 = true ∧
bnd (o ++ [AO.cells true [a0]]) fun o0 =>
∃ v1 : AV, ldO false 1 (AV.ptr (List.length o) 0) o0 = some (v1) ∧
call (.func n_node_Node_up) [v1] o0 fun v2 o3 =>
∃ b4 : Bool, v2 = .bool b4 ∧
cnd (!b4) (
R (AV.tuple []) o3) (
∃ v5 : AV, ldO false 1 (AV.ptr (List.length o) 0) o3 = some (v5) ∧
call (.func n_node_Node_step) [v5, .func (Fn.func 37) [] [(AV.ptr (List.length o) 0)]] o3 fun v6 o7 =>
∃ x8 : Int, v6 = .int .i64 x8 ∧
R (AV.tuple []) o7)

theorem node_Node_Tick_eq (call : CallO) (n : Nat) (R : AV → OS → Prop) (a0 : AV) (o : OS) : gFun Tryz.prog call n 7 [a0] o R = node_Node_Tick call n R a0 o := by kernel_rfl
theorem node_Node_Tick_go (n : Nat) {a0 : AV} {o : OS} {K : AV → OS → Prop} (h : node_Node_Tick (GoF Tryz.prog) n (rt o K) a0 o) : Go Tryz.prog n_node_Node_Tick [a0] o K :=
  Go.of sane (n := n) ((node_Node_Tick_eq (GoF Tryz.prog) n (rt o K) a0 o).mpr h)

/-! (*twain/node.Node).Stop -/

abbrev node_Node_Stop (call : CallO) (n : Nat) (R : AV → OS → Prop) (a0 : AV) (o : OS) : Prop :=
call (.func n_node_Node_is) [a0] o fun v0 o1 =>
∃ b2 : Bool, v0 = .bool b2 ∧
cnd b2 (
AV.nnil a0 = true ∧
AV.isP a0 = true ∧
AV.one .nilptr = true ∧
AV.one .nilslice = true ∧
AV.one .nilptr = true ∧
AV.one .nilptr = true ∧
AV.one .nilptr = true ∧
AV.one .nilslice = true ∧
AV.one .nilslice = true ∧
∃ o3 : OS, stO (padd 7 a0) [.nilptr, .int .i64 (0 : Int), .bool false, .int .i64 (0 : Int), .int .i64 (0 : Int), .int .i64 (0 : Int), .int .i64 (0 : Int), .int .u64 (0 : Int), .bool false, .nilslice, .nilptr, .nilptr, .nilptr, .nilslice, .nilslice] o1 = some o3 ∧
R (AV.tuple []) o3) (
R (AV.tuple []) o1)

theorem node_Node_Stop_eq (call : CallO) (n : Nat) (R : AV → OS → Prop) (a0 : AV) (o : OS) : gFun Tryz.prog call n 8 [a0] o R = node_Node_Stop call n R a0 o := by kernel_rfl
theorem node_Node_Stop_go (n : Nat) {a0 : AV} {o : OS} {K : AV → OS → Prop} (h : node_Node_Stop (GoF Tryz.prog) n (rt o K) a0 o) : Go Tryz.prog n_node_Node_Stop [a0] o K :=
  Go.of sane (n := n) ((node_Node_Stop_eq (GoF Tryz.prog) n (rt o K) a0 o).mpr h)

/-! (*twain/node.Node).Start -/
abbrev node_Node_Start_J51 (call : CallO) (n : Nat) (R : AV → OS → Prop) : List AV → OS → Prop := fun vals30 o31 =>
∃ v32 : AV, ∃ x33 : Int, ∃ v34 : AV, vals30 = [v32, .int .i64 x33, v34] ∧
cnd (x33 != (0 : Int)) (
R (AV.int .i64 x33) o31) (
∃ v35 : AV, ∃ x36 : Int, ∃ b37 : Bool, ∃ x38 : Int, ∃ x39 : Int, ∃ x40 : Int, ∃ x41 : Int, ∃ x42 : Int, ∃ b43 : Bool, ∃ v44 : AV, ∃ v45 : AV, ∃ v46 : AV, ∃ v47 : AV, ∃ v48 : AV, ∃ v49 : AV, ldO true 15 v34 o31 = some (.agg [v35, .int .i64 x36, .bool b37, .int .i64 x38, .int .i64 x39, .int .i64 x40, .int .i64 x41, .int .u64 x42, .bool b43, v44, v45, v46, v47, v48, v49]) ∧
AV.nnil v32 = true ∧
AV.isP v32 = true ∧
AV.one v35 = true ∧
AV.one v44 = true ∧
AV.one v45 = true ∧
AV.one v46 = true ∧
AV.one v47 = true ∧
AV.one v48 = true ∧
AV.one v49 = true ∧
∃ o50 : OS, stO (padd 7 v32) [v35, .int .i64 x36, .bool b37, .int .i64 x38, .int .i64 x39, .int .i64 x40, .int .i64 x41, .int .u64 x42, .bool b43, v44, v45, v46, v47, v48, v49] o31 = some o50 ∧
R (AV.int .i64 (0 : Int)) o50)

abbrev node_Node_Start_J59 (call : CallO) (n : Nat) (R : AV → OS → Prop) : List AV → OS → Prop := fun vals25 o26 =>
∃ v27 : AV, ∃ x28 : Int, ∃ v29 : AV, vals25 = [v27, .int .i64 x28, v29] ∧
jp (node_Node_Start_J51 call n R) fun j52 =>
cnd (x28 == (0 : Int)) (
AV.nnil v27 = true ∧
AV.isP v27 = true ∧
AV.isP (padd 0 v27) = true ∧
∃ x53 : Int, ldO false 1 (padd 2 (padd 0 v27)) o26 = some (.int .i64 x53) ∧
call (.func n_table_New) [.int .i64 x53] o26 fun v54 o55 =>
∃ v56 : AV, ∃ x57 : Int, v54 = .tuple [v56, .int .i64 x57] ∧
AV.isP v29 = true ∧
AV.one v56 = true ∧
∃ o58 : OS, stO (padd 11 v29) [v56] o55 = some o58 ∧
j52 [v27, .int .i64 x57, v29] o58) (
j52 [v27, .int .i64 x28, v29] o26)

abbrev node_Node_Start (call : CallO) (n : Nat) (R : AV → OS → Prop) (a0 : AV) (o : OS) : Prop :=
call (.func n_node_Node_is) [a0] o fun v0 o1 =>
∃ b2 : Bool, v0 = .bool b2 ∧
cnd (!b2) (
R (AV.int .i64 (1 : Int)) o1) (
call (.func n_node_Node_up) [a0] o1 fun v3 o4 =>
∃ b5 : Bool, v3 = .bool b5 ∧
cnd b5 (
R (AV.int .i64 (4 : Int)) o4) (
AV.nnil a0 = true ∧
AV.isP a0 = true ∧
∃ v6 : AV, ldO false 1 (padd 6 a0) o4 = some (v6) ∧
call (.func n_meta_Start) [v6] o4 fun v7 o8 =>
∃ x9 : Int, ∃ x10 : Int, ∃ x11 : Int, ∃ x12 : Int, v7 = .tuple [.agg [.int .u32 x9, .int .u64 x10, .int .u64 x11], .int .i64 x12] ∧
bnd (o8 ++ [AO.cells true [.int .u32 (0 : Int), .int .u64 (0 : Int), .int .u64 (0 : Int)]]) fun o13 =>
∃ o14 : OS, stO (AV.ptr (List.length o8) 0) [.int .u32 x9, .int .u64 x10, .int .u64 x11] o13 = some o14 ∧
cnd (x12 != (0 : Int)) (
R (AV.int .i64 x12) o14) (
bnd (o14 ++ [AO.cells true [.nilptr, .int .i64 (0 : Int), .bool false, .int .i64 (0 : Int), .int .i64 (0 : Int), .int .i64 (0 : Int), .int .i64 (0 : Int), .int .u64 (0 : Int), .bool false, .nilslice, .nilptr, .nilptr, .nilptr, .nilslice, .nilslice]]) fun o15 =>
AV.one .nilptr = true ∧
AV.one .nilslice = true ∧
AV.one .nilptr = true ∧
AV.one .nilptr = true ∧
AV.one .nilptr = true ∧
AV.one .nilslice = true ∧
AV.one .nilslice = true ∧
∃ o16 : OS, stO (AV.ptr (List.length o14) 0) [.nilptr, .int .i64 (1 : Int), .bool false, .int .i64 (0 : Int), .int .i64 (0 : Int), .int .i64 (0 : Int), .int .i64 (0 : Int), .int .u64 (0 : Int), .bool false, .nilslice, .nilptr, .nilptr, .nilptr, .nilslice, .nilslice] o15 = some o16 ∧
AV.isP (AV.ptr (List.length o8) 0) = true ∧
∃ x17 : Int, ldO false 1 (padd 0 (AV.ptr (List.length o8) 0)) o16 = some (.int .u32 x17) ∧
AV.nnil a0 = true ∧
AV.isP a0 = true ∧
AV.isP (padd 0 a0) = true ∧
∃ x18 : Int, ldO false 1 (padd 3 (padd 0 a0)) o16 = some (.int .i64 x18) ∧
AV.nnil a0 = true ∧
AV.isP a0 = true ∧
AV.isP (padd 0 a0) = true ∧
∃ x19 : Int, ldO false 1 (padd 4 (padd 0 a0)) o16 = some (.int .i64 x19) ∧
call (.func n_session_New) [.int .u32 x17, .int .i64 x18, .int .i64 x19] o16 fun v20 o21 =>
∃ v22 : AV, ∃ x23 : Int, v20 = .tuple [v22, .int .i64 x23] ∧
AV.isP (AV.ptr (List.length o14) 0) = true ∧
AV.one v22 = true ∧
∃ o24 : OS, stO (padd 0 (AV.ptr (List.length o14) 0)) [v22] o21 = some o24 ∧
jp (node_Node_Start_J59 call n R) fun j60 =>
cnd (x23 == (0 : Int)) (
AV.nnil a0 = true ∧
AV.isP a0 = true ∧
∃ v61 : AV, ldO false 1 (padd 6 a0) o24 = some (v61) ∧
AV.nnil a0 = true ∧
AV.isP a0 = true ∧
AV.isP (padd 0 a0) = true ∧
∃ x62 : Int, ldO false 1 (padd 1 (padd 0 a0)) o24 = some (.int .i64 x62) ∧
AV.nnil a0 = true ∧
AV.isP a0 = true ∧
∃ x63 : Int, ldO false 1 (padd 5 a0) o24 = some (.int .i64 x63) ∧
AV.isP (AV.ptr (List.length o8) 0) = true ∧
∃ x64 : Int, ldO false 1 (padd 1 (AV.ptr (List.length o8) 0)) o24 = some (.int .u64 x64) ∧
call (.func n_mirror_New) [v61, .int .i64 x62, .int .i64 x63, .int .u64 x64] o24 fun v65 o66 =>
∃ v67 : AV, ∃ x68 : Int, v65 = .tuple [v67, .int .i64 x68] ∧
AV.isP (AV.ptr (List.length o14) 0) = true ∧
AV.one v67 = true ∧
∃ o69 : OS, stO (padd 10 (AV.ptr (List.length o14) 0)) [v67] o66 = some o69 ∧
j60 [a0, .int .i64 x68, (AV.ptr (List.length o14) 0)] o69) (
j60 [a0, .int .i64 x23, (AV.ptr (List.length o14) 0)] o24))))

theorem node_Node_Start_eq (call : CallO) (n : Nat) (R : AV → OS → Prop) (a0 : AV) (o : OS) : gFun Tryz.prog call n 9 [a0] o R = node_Node_Start call n R a0 o := by kernel_rfl
theorem node_Node_Start_go (n : Nat) {a0 : AV} {o : OS} {K : AV → OS → Prop} (h : node_Node_Start (GoF Tryz.prog) n (rt o K) a0 o) : Go Tryz.prog n_node_Node_Start [a0] o K :=
  Go.of sane (n := n) ((node_Node_Start_eq (GoF Tryz.prog) n (rt o K) a0 o).mpr h)

/-! (*twain/node.Node).Status -/
abbrev node_Node_Status_J8 (call : CallO) (n : Nat) (R : AV → OS → Prop) : List AV → OS → Prop := fun vals3 o4 =>
∃ v5 : AV, ∃ b6 : Bool, vals3 = [v5, .bool b6] ∧
cnd b6 (
R (AV.int .i64 (5 : Int)) o4) (
AV.nnil v5 = true ∧
AV.isP v5 = true ∧
AV.isP (padd 7 v5) = true ∧
∃ x7 : Int, ldO false 1 (padd 1 (padd 7 v5)) o4 = some (.int .i64 x7) ∧
R (AV.int .i64 x7) o4)

abbrev node_Node_Status (call : CallO) (n : Nat) (R : AV → OS → Prop) (a0 : AV) (o : OS) : Prop :=
call (.func n_node_Node_up) [a0] o fun v0 o1 =>
∃ b2 : Bool, v0 = .bool b2 ∧
cnd (!b2) (
R (AV.int .i64 (0 : Int)) o1) (
jp (node_Node_Status_J8 call n R) fun j9 =>
AV.nnil a0 = true ∧
AV.isP a0 = true ∧
AV.isP (padd 7 a0) = true ∧
∃ x10 : Int, ldO false 1 (padd 1 (padd 7 a0)) o1 = some (.int .i64 x10) ∧
cnd (x10 == (4 : Int)) (
AV.nnil a0 = true ∧
AV.isP a0 = true ∧
AV.isP (padd 7 a0) = true ∧
∃ v11 : AV, ldO false 1 (padd 0 (padd 7 a0)) o1 = some (v11) ∧
call (.func n_session_Session_Alive) [v11] o1 fun v12 o13 =>
∃ b14 : Bool, v12 = .bool b14 ∧
j9 [a0, .bool (!b14)] o13) (
j9 [a0, .bool false] o1))

theorem node_Node_Status_eq (call : CallO) (n : Nat) (R : AV → OS → Prop) (a0 : AV) (o : OS) : gFun Tryz.prog call n 10 [a0] o R = node_Node_Status call n R a0 o := by kernel_rfl
theorem node_Node_Status_go (n : Nat) {a0 : AV} {o : OS} {K : AV → OS → Prop} (h : node_Node_Status (GoF Tryz.prog) n (rt o K) a0 o) : Go Tryz.prog n_node_Node_Status [a0] o K :=
  Go.of sane (n := n) ((node_Node_Status_eq (GoF Tryz.prog) n (rt o K) a0 o).mpr h)

/-! (*twain/node.Node).Poll -/

abbrev node_Node_Poll (call : CallO) (n : Nat) (R : AV → OS → Prop) (a0 : AV) (o : OS) : Prop :=
call (.func n_node_Node_is) [a0] o fun v0 o1 =>
∃ b2 : Bool, v0 = .bool b2 ∧
cnd (!b2) (
R .nilslice o1) (
AV.nnil a0 = true ∧
AV.isP a0 = true ∧
AV.isP (padd 7 a0) = true ∧
∃ v3 : AV, ldO false 1 (padd 13 (padd 7 a0)) o1 = some (v3) ∧
AV.nnil a0 = true ∧
AV.isP a0 = true ∧
AV.isP (padd 7 a0) = true ∧
AV.one .nilslice = true ∧
∃ o4 : OS, stO (padd 13 (padd 7 a0)) [.nilslice] o1 = some o4 ∧
R v3 o4)

theorem node_Node_Poll_eq (call : CallO) (n : Nat) (R : AV → OS → Prop) (a0 : AV) (o : OS) : gFun Tryz.prog call n 11 [a0] o R = node_Node_Poll call n R a0 o := by kernel_rfl
theorem node_Node_Poll_go (n : Nat) {a0 : AV} {o : OS} {K : AV → OS → Prop} (h : node_Node_Poll (GoF Tryz.prog) n (rt o K) a0 o) : Go Tryz.prog n_node_Node_Poll [a0] o K :=
  Go.of sane (n := n) ((node_Node_Poll_eq (GoF Tryz.prog) n (rt o K) a0 o).mpr h)

/-! (*twain/node.Node).Mail -/

abbrev node_Node_Mail (call : CallO) (n : Nat) (R : AV → OS → Prop) (a0 : AV) (o : OS) : Prop :=
call (.func n_node_Node_is) [a0] o fun v0 o1 =>
∃ b2 : Bool, v0 = .bool b2 ∧
cnd (!b2) (
R .nilslice o1) (
AV.nnil a0 = true ∧
AV.isP a0 = true ∧
AV.isP (padd 7 a0) = true ∧
∃ v3 : AV, ldO false 1 (padd 14 (padd 7 a0)) o1 = some (v3) ∧
AV.nnil a0 = true ∧
AV.isP a0 = true ∧
AV.isP (padd 7 a0) = true ∧
AV.one .nilslice = true ∧
∃ o4 : OS, stO (padd 14 (padd 7 a0)) [.nilslice] o1 = some o4 ∧
R v3 o4)

theorem node_Node_Mail_eq (call : CallO) (n : Nat) (R : AV → OS → Prop) (a0 : AV) (o : OS) : gFun Tryz.prog call n 12 [a0] o R = node_Node_Mail call n R a0 o := by kernel_rfl
theorem node_Node_Mail_go (n : Nat) {a0 : AV} {o : OS} {K : AV → OS → Prop} (h : node_Node_Mail (GoF Tryz.prog) n (rt o K) a0 o) : Go Tryz.prog n_node_Node_Mail [a0] o K :=
  Go.of sane (n := n) ((node_Node_Mail_eq (GoF Tryz.prog) n (rt o K) a0 o).mpr h)

/-! (*twain/node.Node).Requests -/

abbrev node_Node_Requests (call : CallO) (n : Nat) (R : AV → OS → Prop) (a0 : AV) (o : OS) : Prop :=
call (.func n_node_Node_up) [a0] o fun v0 o1 =>
∃ b2 : Bool, v0 = .bool b2 ∧
cnd (!b2) (
R .nilslice o1) (
AV.nnil a0 = true ∧
AV.isP a0 = true ∧
AV.isP (padd 7 a0) = true ∧
∃ v3 : AV, ldO false 1 (padd 11 (padd 7 a0)) o1 = some (v3) ∧
call (.func n_table_Table_Tickets) [v3] o1 fun v4 o5 =>
R v4 o5)

theorem node_Node_Requests_eq (call : CallO) (n : Nat) (R : AV → OS → Prop) (a0 : AV) (o : OS) : gFun Tryz.prog call n 13 [a0] o R = node_Node_Requests call n R a0 o := by kernel_rfl
theorem node_Node_Requests_go (n : Nat) {a0 : AV} {o : OS} {K : AV → OS → Prop} (h : node_Node_Requests (GoF Tryz.prog) n (rt o K) a0 o) : Go Tryz.prog n_node_Node_Requests [a0] o K :=
  Go.of sane (n := n) ((node_Node_Requests_eq (GoF Tryz.prog) n (rt o K) a0 o).mpr h)

/-! (*twain/node.Node).Flying -/
abbrev node_Node_Flying_J6 (call : CallO) (n : Nat) (R : AV → OS → Prop) : List AV → OS → Prop := fun vals3 o4 =>
∃ v5 : AV, vals3 = [v5] ∧
R v5 o4

abbrev node_Node_Flying_L30 (call : CallO) (n : Nat) (R : AV → OS → Prop) (j7 : List AV → OS → Prop) : (List AV → OS → Prop) → List AV → OS → Prop := fun X11 vals12 o13 =>
∃ v14 : AV, ∃ v15 : AV, ∃ x16 : Int, ∃ x17 : Int, vals12 = [v14, v15, .int .i64 x16, .int .i64 x17] ∧
cnd (decide (x17 < x16)) (
(0 ≤ x17 ∧ x17 < alen v15) ∧
∃ x18 : Int, ∃ x19 : Int, ∃ x20 : Int, ∃ v21 : AV, ∃ x22 : Int, ldO true 5 (ixp 5 v15 x17) o13 = some (.agg [.int .i64 x18, .int .i64 x19, .int .i64 x20, v21, .int .i64 x22]) ∧
bnd (o13 ++ [AO.cells true [.int .i64 (0 : Int), .int .i64 (0 : Int), .int .i64 (0 : Int), .nilslice, .int .i64 (0 : Int)]]) fun o23 =>
AV.one v21 = true ∧
∃ o24 : OS, stO (AV.ptr (List.length o13) 0) [.int .i64 x18, .int .i64 x19, .int .i64 x20, v21, .int .i64 x22] o23 = some o24 ∧
AV.isP (AV.ptr (List.length o13) 0) = true ∧
∃ x25 : Int, ldO false 1 (padd 0 (AV.ptr (List.length o13) 0)) o24 = some (.int .i64 x25) ∧
bnd (o24 ++ [AO.cells true [.int .i64 x25]]) fun o26 =>
∃ (v27 : AV) (o28 : OS), appO 1 8 v14 (AV.slice (List.length o24) 0 1 1 0) o26 = some (v27, o28) ∧
bnd (IntKind.wrap .i64 (x17 + (1 : Int))) fun x29 =>
X11 [v27, v15, .int .i64 x16, .int .i64 x29] o28) (
j7 [v14] o13)

abbrev node_Node_Flying (call : CallO) (n : Nat) (R : AV → OS → Prop) (a0 : AV) (o : OS) : Prop :=
call (.func n_node_Node_up) [a0] o fun v0 o1 =>
∃ b2 : Bool, v0 = .bool b2 ∧
cnd (!b2) (
R .nilslice o1) (
jp (node_Node_Flying_J6 call n R) fun j7 =>
AV.nnil a0 = true ∧
AV.isP a0 = true ∧
AV.isP (padd 7 a0) = true ∧
∃ v8 : AV, ldO false 1 (padd 10 (padd 7 a0)) o1 = some (v8) ∧
call (.func n_mirror_Mirror_Flights) [v8] o1 fun v9 o10 =>
AV.isS v9 = true ∧
lp n (node_Node_Flying_L30 call n R j7) [.nilslice, v9, .int .i64 (alen v9), .int .i64 (0 : Int)] o10)

theorem node_Node_Flying_eq (call : CallO) (n : Nat) (R : AV → OS → Prop) (a0 : AV) (o : OS) : gFun Tryz.prog call n 14 [a0] o R = node_Node_Flying call n R a0 o := by kernel_rfl
theorem node_Node_Flying_go (n : Nat) {a0 : AV} {o : OS} {K : AV → OS → Prop} (h : node_Node_Flying (GoF Tryz.prog) n (rt o K) a0 o) : Go Tryz.prog n_node_Node_Flying [a0] o K :=
  Go.of sane (n := n) ((node_Node_Flying_eq (GoF Tryz.prog) n (rt o K) a0 o).mpr h)

/-! (*twain/node.Node).Unacked -/

abbrev node_Node_Unacked (call : CallO) (n : Nat) (R : AV → OS → Prop) (a0 : AV) (o : OS) : Prop :=
call (.func n_node_Node_up) [a0] o fun v0 o1 =>
∃ b2 : Bool, v0 = .bool b2 ∧
cnd (!b2) (
R (AV.int .i64 (0 : Int)) o1) (
AV.nnil a0 = true ∧
AV.isP a0 = true ∧
AV.isP (padd 7 a0) = true ∧
∃ v3 : AV, ldO false 1 (padd 0 (padd 7 a0)) o1 = some (v3) ∧
call (.func n_session_Session_Len) [v3] o1 fun v4 o5 =>
∃ x6 : Int, v4 = .int .i64 x6 ∧
R (AV.int .i64 x6) o5)

theorem node_Node_Unacked_eq (call : CallO) (n : Nat) (R : AV → OS → Prop) (a0 : AV) (o : OS) : gFun Tryz.prog call n 15 [a0] o R = node_Node_Unacked call n R a0 o := by kernel_rfl
theorem node_Node_Unacked_go (n : Nat) {a0 : AV} {o : OS} {K : AV → OS → Prop} (h : node_Node_Unacked (GoF Tryz.prog) n (rt o K) a0 o) : Go Tryz.prog n_node_Node_Unacked [a0] o K :=
  Go.of sane (n := n) ((node_Node_Unacked_eq (GoF Tryz.prog) n (rt o K) a0 o).mpr h)

/-! (*twain/node.Node).Boot -/

abbrev node_Node_Boot (call : CallO) (n : Nat) (R : AV → OS → Prop) (a0 : AV) (o : OS) : Prop :=
call (.func n_node_Node_up) [a0] o fun v0 o1 =>
∃ b2 : Bool, v0 = .bool b2 ∧
cnd (!b2) (
R (AV.int .u32 (0 : Int)) o1) (
AV.nnil a0 = true ∧
AV.isP a0 = true ∧
AV.isP (padd 7 a0) = true ∧
∃ v3 : AV, ldO false 1 (padd 0 (padd 7 a0)) o1 = some (v3) ∧
call (.func n_session_Session_My) [v3] o1 fun v4 o5 =>
∃ x6 : Int, v4 = .int .u32 x6 ∧
R (AV.int .u32 x6) o5)

theorem node_Node_Boot_eq (call : CallO) (n : Nat) (R : AV → OS → Prop) (a0 : AV) (o : OS) : gFun Tryz.prog call n 16 [a0] o R = node_Node_Boot call n R a0 o := by kernel_rfl
theorem node_Node_Boot_go (n : Nat) {a0 : AV} {o : OS} {K : AV → OS → Prop} (h : node_Node_Boot (GoF Tryz.prog) n (rt o K) a0 o) : Go Tryz.prog n_node_Node_Boot [a0] o K :=
  Go.of sane (n := n) ((node_Node_Boot_eq (GoF Tryz.prog) n (rt o K) a0 o).mpr h)

/-! (*twain/node.Node).Peer -/

abbrev node_Node_Peer (call : CallO) (n : Nat) (R : AV → OS → Prop) (a0 : AV) (o : OS) : Prop :=
call (.func n_node_Node_up) [a0] o fun v0 o1 =>
∃ b2 : Bool, v0 = .bool b2 ∧
cnd (!b2) (
R (AV.int .u32 (0 : Int)) o1) (
AV.nnil a0 = true ∧
AV.isP a0 = true ∧
AV.isP (padd 7 a0) = true ∧
∃ v3 : AV, ldO false 1 (padd 0 (padd 7 a0)) o1 = some (v3) ∧
call (.func n_session_Session_Peer) [v3] o1 fun v4 o5 =>
∃ x6 : Int, v4 = .int .u32 x6 ∧
R (AV.int .u32 x6) o5)

theorem node_Node_Peer_eq (call : CallO) (n : Nat) (R : AV → OS → Prop) (a0 : AV) (o : OS) : gFun Tryz.prog call n 17 [a0] o R = node_Node_Peer call n R a0 o := by kernel_rfl
theorem node_Node_Peer_go (n : Nat) {a0 : AV} {o : OS} {K : AV → OS → Prop} (h : node_Node_Peer (GoF Tryz.prog) n (rt o K) a0 o) : Go Tryz.prog n_node_Node_Peer [a0] o K :=
  Go.of sane (n := n) ((node_Node_Peer_eq (GoF Tryz.prog) n (rt o K) a0 o).mpr h)

/-! (*twain/node.Node).Left -/

abbrev node_Node_Left (call : CallO) (n : Nat) (R : AV → OS → Prop) (a0 : AV) (o : OS) : Prop :=
call (.func n_node_Node_up) [a0] o fun v0 o1 =>
∃ b2 : Bool, v0 = .bool b2 ∧
cnd (!b2) (
R (AV.int .u64 (0 : Int)) o1) (
AV.nnil a0 = true ∧
AV.isP a0 = true ∧
AV.isP (padd 7 a0) = true ∧
∃ v3 : AV, ldO false 1 (padd 12 (padd 7 a0)) o1 = some (v3) ∧
call (.func n_resync_Resync_Left) [v3] o1 fun v4 o5 =>
∃ x6 : Int, v4 = .int .u64 x6 ∧
R (AV.int .u64 x6) o5)

theorem node_Node_Left_eq (call : CallO) (n : Nat) (R : AV → OS → Prop) (a0 : AV) (o : OS) : gFun Tryz.prog call n 18 [a0] o R = node_Node_Left call n R a0 o := by kernel_rfl
theorem node_Node_Left_go (n : Nat) {a0 : AV} {o : OS} {K : AV → OS → Prop} (h : node_Node_Left (GoF Tryz.prog) n (rt o K) a0 o) : Go Tryz.prog n_node_Node_Left [a0] o K :=
  Go.of sane (n := n) ((node_Node_Left_eq (GoF Tryz.prog) n (rt o K) a0 o).mpr h)

/-! twain/disk.New -/
abbrev disk_New_J7 (call : CallO) (n : Nat) (R : AV → OS → Prop) : List AV → OS → Prop := fun vals0 o1 =>
∃ x2 : Int, ∃ b3 : Bool, vals0 = [.int .i64 x2, .bool b3] ∧
cnd b3 (
R (AV.tuple [.nilptr, .int .i64 (2 : Int)]) o1) (
(0 ≤ x2 ∧ x2 ≤ x2 ∧ x2 ≤ 4294967296) ∧
bnd (o1 ++ [AO.cells true (times [.int .u8 (0 : Int), .int .u8 (0 : Int), .int .u8 (0 : Int), .int .u8 (0 : Int), .int .u8 (0 : Int), .int .u8 (0 : Int), .int .u8 (0 : Int), .int .u8 (0 : Int), .int .u8 (0 : Int), .int .u8 (0 : Int), .int .u8 (0 : Int), .int .u8 (0 : Int), .int .u8 (0 : Int), .int .u8 (0 : Int), .int .u8 (0 : Int), .int .u8 (0 : Int)] (Int.toNat x2))]) fun o4 =>
bnd (o4 ++ [AO.map [] 0]) fun o5 =>
AV.one (AV.slice (List.length o1) 0 (Int.toNat x2) (Int.toNat x2) 0) = true ∧
AV.one (AV.map (List.length o4)) = true ∧
AV.one (AV.slice (List.length o1) 0 (Int.toNat x2) (Int.toNat x2) 0) = true ∧
AV.one (AV.map (List.length o4)) = true ∧
bnd (o5 ++ [AO.cells true [(AV.slice (List.length o1) 0 (Int.toNat x2) (Int.toNat x2) 0), (AV.map (List.length o4)), .int .i64 (-1 : Int), .bool false, .int .i64 (0 : Int)]]) fun o6 =>
R (AV.tuple [(AV.ptr (List.length o5) 0), .int .i64 (0 : Int)]) o6)

abbrev disk_New (call : CallO) (n : Nat) (R : AV → OS → Prop) (a0 : Int) (o : OS) : Prop :=
jp (disk_New_J7 call n R) fun j8 =>
cnd (decide (a0 < (1 : Int))) (
j8 [.int .i64 a0, .bool true] o) (
j8 [.int .i64 a0, .bool (decide (a0 > (1024 : Int)))] o)

theorem disk_New_eq (call : CallO) (n : Nat) (R : AV → OS → Prop) (a0 : Int) (o : OS) : gFun Tryz.prog call n 19 [.int .i64 a0] o R = disk_New call n R a0 o := by kernel_rfl
theorem disk_New_go (n : Nat) {a0 : Int} {o : OS} {K : AV → OS → Prop} (h : disk_New (GoF Tryz.prog) n (rt o K) a0 o) : Go Tryz.prog n_disk_New [.int .i64 a0] o K :=
  Go.of sane (n := n) ((disk_New_eq (GoF Tryz.prog) n (rt o K) a0 o).mpr h)

/-! twain/node.New -/
abbrev node_New_J13 (call : CallO) (n : Nat) (R : AV → OS → Prop) : List AV → OS → Prop := fun vals1 o2 =>
∃ x3 : Int, ∃ v4 : AV, ∃ v5 : AV, ∃ b6 : Bool, vals1 = [.int .i64 x3, v4, v5, .bool b6] ∧
cnd b6 (
R (AV.tuple [.nilptr, .int .i64 (2 : Int)]) o2) (
∃ x7 : Int, ∃ x8 : Int, ∃ x9 : Int, ∃ x10 : Int, ∃ x11 : Int, ldO true 5 v5 o2 = some (.agg [.int .i64 x7, .int .i64 x8, .int .i64 x9, .int .i64 x10, .int .i64 x11]) ∧
AV.one v4 = true ∧
AV.one v4 = true ∧
AV.one .nilptr = true ∧
AV.one .nilslice = true ∧
AV.one .nilptr = true ∧
AV.one .nilptr = true ∧
AV.one .nilptr = true ∧
AV.one .nilslice = true ∧
AV.one .nilslice = true ∧
bnd (o2 ++ [AO.cells true [.int .i64 x7, .int .i64 x8, .int .i64 x9, .int .i64 x10, .int .i64 x11, .int .i64 x3, v4, .nilptr, .int .i64 (0 : Int), .bool false, .int .i64 (0 : Int), .int .i64 (0 : Int), .int .i64 (0 : Int), .int .i64 (0 : Int), .int .u64 (0 : Int), .bool false, .nilslice, .nilptr, .nilptr, .nilptr, .nilslice, .nilslice]]) fun o12 =>
R (AV.tuple [(AV.ptr (List.length o2) 0), .int .i64 (0 : Int)]) o12)

abbrev node_New (call : CallO) (n : Nat) (R : AV → OS → Prop) (a0x0 : Int) (a0x1 : Int) (a0x2 : Int) (a0x3 : Int) (a0x4 : Int) (a1 : Int) (a2 : AV) (o : OS) : Prop :=
bnd (o ++ [AO.cells true [.int .i64 a0x0, .int .i64 a0x1, .int .i64 a0x2, .int .i64 a0x3, .int .i64 a0x4]]) fun o0 =>
jp (node_New_J13 call n R) fun j14 =>
∃ x15 : Int, ∃ x16 : Int, ∃ x17 : Int, ∃ x18 : Int, ∃ x19 : Int, ldO true 5 (AV.ptr (List.length o) 0) o0 = some (.agg [.int .i64 x15, .int .i64 x16, .int .i64 x17, .int .i64 x18, .int .i64 x19]) ∧
call (.func n_request_Good) [.agg [.int .i64 x15, .int .i64 x16, .int .i64 x17, .int .i64 x18, .int .i64 x19]] o0 fun v20 o21 =>
∃ b22 : Bool, v20 = .bool b22 ∧
cnd (!b22) (
j14 [.int .i64 a1, a2, (AV.ptr (List.length o) 0), .bool true] o21) (
cnd (decide (a1 < (0 : Int))) (
j14 [.int .i64 a1, a2, (AV.ptr (List.length o) 0), .bool true] o21) (
cnd (decide (a1 > (1 : Int))) (
j14 [.int .i64 a1, a2, (AV.ptr (List.length o) 0), .bool true] o21) (
AV.isP (AV.ptr (List.length o) 0) = true ∧
∃ x23 : Int, ldO false 1 (padd 0 (AV.ptr (List.length o) 0)) o21 = some (.int .i64 x23) ∧
bnd (IntKind.wrap .i64 (x23 + (8 : Int))) fun x24 =>
call (.func n_disk_Disk_Size) [a2] o21 fun v25 o26 =>
∃ x27 : Int, v25 = .int .i64 x27 ∧
∃ x28 : Int, ldO false 1 (padd 0 (AV.ptr (List.length o) 0)) o26 = some (.int .i64 x28) ∧
(AV.int .i64 x28) = (AV.int .i64 x23) ∧
beqA (AV.int .i64 x28) (AV.int .i64 x28) = true ∧
j14 [.int .i64 a1, a2, (AV.ptr (List.length o) 0), .bool (x27 != x24)] o26)))

theorem node_New_eq (call : CallO) (n : Nat) (R : AV → OS → Prop) (a0x0 : Int) (a0x1 : Int) (a0x2 : Int) (a0x3 : Int) (a0x4 : Int) (a1 : Int) (a2 : AV) (o : OS) : gFun Tryz.prog call n 20 [.agg [.int .i64 a0x0, .int .i64 a0x1, .int .i64 a0x2, .int .i64 a0x3, .int .i64 a0x4], .int .i64 a1, a2] o R = node_New call n R a0x0 a0x1 a0x2 a0x3 a0x4 a1 a2 o := by kernel_rfl
theorem node_New_go (n : Nat) {a0x0 : Int} {a0x1 : Int} {a0x2 : Int} {a0x3 : Int} {a0x4 : Int} {a1 : Int} {a2 : AV} {o : OS} {K : AV → OS → Prop} (h : node_New (GoF Tryz.prog) n (rt o K) a0x0 a0x1 a0x2 a0x3 a0x4 a1 a2 o) : Go Tryz.prog n_node_New [.agg [.int .i64 a0x0, .int .i64 a0x1, .int .i64 a0x2, .int .i64 a0x3, .int .i64 a0x4], .int .i64 a1, a2] o K :=
  Go.of sane (n := n) ((node_New_eq (GoF Tryz.prog) n (rt o K) a0x0 a0x1 a0x2 a0x3 a0x4 a1 a2 o).mpr h)

/-! (*twain/node.Node).is -/
abbrev node_Node_is_J3 (call : CallO) (n : Nat) (R : AV → OS → Prop) : List AV → OS → Prop := fun vals0 o1 =>
∃ b2 : Bool, vals0 = [.bool b2] ∧
R (AV.bool b2) o1

abbrev node_Node_is (call : CallO) (n : Nat) (R : AV → OS → Prop) (a0 : AV) (o : OS) : Prop :=
jp (node_Node_is_J3 call n R) fun j4 =>
∃ b5 : Bool, nilP2 a0 .nilptr = some b5 ∧
cnd (!b5) (
AV.nnil a0 = true ∧
AV.isP a0 = true ∧
∃ v6 : AV, ldO false 1 (padd 6 a0) o = some (v6) ∧
∃ b7 : Bool, nilP2 v6 .nilptr = some b7 ∧
j4 [.bool (!b7)] o) (
j4 [.bool false] o)

theorem node_Node_is_eq (call : CallO) (n : Nat) (R : AV → OS → Prop) (a0 : AV) (o : OS) : gFun Tryz.prog call n 21 [a0] o R = node_Node_is call n R a0 o := by kernel_rfl
theorem node_Node_is_go (n : Nat) {a0 : AV} {o : OS} {K : AV → OS → Prop} (h : node_Node_is (GoF Tryz.prog) n (rt o K) a0 o) : Go Tryz.prog n_node_Node_is [a0] o K :=
  Go.of sane (n := n) ((node_Node_is_eq (GoF Tryz.prog) n (rt o K) a0 o).mpr h)

/-! (*twain/node.Node).up -/
abbrev node_Node_up_J3 (call : CallO) (n : Nat) (R : AV → OS → Prop) : List AV → OS → Prop := fun vals0 o1 =>
∃ b2 : Bool, vals0 = [.bool b2] ∧
R (AV.bool b2) o1

abbrev node_Node_up (call : CallO) (n : Nat) (R : AV → OS → Prop) (a0 : AV) (o : OS) : Prop :=
jp (node_Node_up_J3 call n R) fun j4 =>
call (.func n_node_Node_is) [a0] o fun v5 o6 =>
∃ b7 : Bool, v5 = .bool b7 ∧
cnd b7 (
AV.nnil a0 = true ∧
AV.isP a0 = true ∧
AV.isP (padd 7 a0) = true ∧
∃ x8 : Int, ldO false 1 (padd 1 (padd 7 a0)) o6 = some (.int .i64 x8) ∧
j4 [.bool (x8 != (0 : Int))] o6) (
j4 [.bool false] o6)

theorem node_Node_up_eq (call : CallO) (n : Nat) (R : AV → OS → Prop) (a0 : AV) (o : OS) : gFun Tryz.prog call n 22 [a0] o R = node_Node_up call n R a0 o := by kernel_rfl
theorem node_Node_up_go (n : Nat) {a0 : AV} {o : OS} {K : AV → OS → Prop} (h : node_Node_up (GoF Tryz.prog) n (rt o K) a0 o) : Go Tryz.prog n_node_Node_up [a0] o K :=
  Go.of sane (n := n) ((node_Node_up_eq (GoF Tryz.prog) n (rt o K) a0 o).mpr h)

end Go.Proofs.YtkjdkaaekpammaaGreat
