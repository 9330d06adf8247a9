/- T1: functions of the program in the typed form, printed by a program of our own (wip/laws/Print.lean.txt). -/
import Derived.Test.YtledkogmmijmcacGreatT0
set_option linter.all false
set_option maxRecDepth 100000
set_option autoImplicit false
namespace Go.Proofs.YtledkogmmijmcacGreat
open Go Go.Ab
/-! twain/twainlaw31.MirrorNone -/
abbrev twainlaw31_MirrorNone_J15 (call : CallO) (n : Nat) (R : AV → OS → Prop) : List AV → OS → Prop := fun vals10 o11 =>
vals10 = [] ∧
call (.func n_twainlaw31_lives) [] o11 fun v12 o13 =>
∃ b14 : Bool, v12 = .bool b14 ∧
R (AV.bool b14) o13

abbrev twainlaw31_MirrorNone_J59 (call : CallO) (n : Nat) (R : AV → OS → Prop) (X17 : List AV → OS → Prop) : List AV → OS → Prop := fun vals51 o52 =>
∃ v53 : AV, ∃ v54 : AV, ∃ x55 : Int, ∃ x56 : Int, ∃ b57 : Bool, vals51 = [v53, v54, .int .i64 x55, .int .i64 x56, .bool b57] ∧
cnd b57 (
R (AV.bool false) o52) (
bnd (IntKind.wrap .i64 (x56 + (1 : Int))) fun x58 =>
X17 [v53, v54, .int .i64 x55, .int .i64 x58] o52)

abbrev twainlaw31_MirrorNone_L84 (call : CallO) (n : Nat) (R : AV → OS → Prop) (j16 : List AV → OS → Prop) : (List AV → OS → Prop) → List AV → OS → Prop := fun X17 vals18 o19 =>
∃ v20 : AV, ∃ v21 : AV, ∃ x22 : Int, ∃ x23 : Int, vals18 = [v20, v21, .int .i64 x22, .int .i64 x23] ∧
cnd (decide (x23 < x22)) (
(0 ≤ x23 ∧ x23 < alen v21) ∧
∃ v24 : AV, ldO false 1 (ixp 1 v21 x23) o19 = some (v24) ∧
AV.isP v20 = true ∧
∃ x25 : Int, ldO false 1 (padd 1 v20) o19 = some (.int .i64 x25) ∧
AV.isP v20 = true ∧
∃ x26 : Int, ∃ x27 : Int, ldO true 2 (padd 3 v20) o19 = some (.agg [.int .i64 x26, .int .i64 x27]) ∧
AV.isP v20 = true ∧
∃ v28 : AV, ldO false 1 (padd 5 v20) o19 = some (v28) ∧
call (.func n_mirror_Mirror_Write) [v24, .int .i64 x25, .agg [.int .i64 x26, .int .i64 x27], v28] o19 fun v29 o30 =>
∃ b31 : Bool, ∃ v32 : AV, ∃ x33 : Int, v29 = .tuple [.bool b31, v32, .int .i64 x33] ∧
AV.isP v20 = true ∧
∃ x34 : Int, ∃ x35 : Int, ∃ x36 : Int, ∃ x37 : Int, ∃ b38 : Bool, ∃ v39 : AV, ldO true 6 (padd 6 v20) o30 = some (.agg [.int .i64 x34, .int .i64 x35, .int .i64 x36, .int .u64 x37, .bool b38, v39]) ∧
call (.func n_mirror_Mirror_Take) [v24, .agg [.int .i64 x34, .int .i64 x35, .int .i64 x36, .int .u64 x37, .bool b38, v39]] o30 fun v40 o41 =>
∃ v42 : AV, ∃ v43 : AV, ∃ x44 : Int, v40 = .tuple [v42, v43, .int .i64 x44] ∧
call (.func n_mirror_Mirror_Go) [v24] o41 fun v45 o46 =>
∃ v47 : AV, ∃ x48 : Int, v45 = .tuple [v47, .int .i64 x48] ∧
call (.func n_mirror_Mirror_Forget) [v24] o46 fun v49 o50 =>
jp (twainlaw31_MirrorNone_J59 call n R X17) fun j60 =>
cnd b31 (
j60 [v20, v21, .int .i64 x22, .int .i64 x23, .bool true] o50) (
AV.isS v32 = true ∧
AV.isS v42 = true ∧
bnd (IntKind.wrap .i64 ((alen v32) + (alen v42))) fun x61 =>
AV.isS v43 = true ∧
bnd (IntKind.wrap .i64 (x61 + (alen v43))) fun x62 =>
AV.isS v47 = true ∧
bnd (IntKind.wrap .i64 (x62 + (alen v47))) fun x63 =>
call (.func n_mirror_Mirror_Release) [v24] o50 fun v64 o65 =>
AV.isS v64 = true ∧
bnd (IntKind.wrap .i64 (x63 + (alen v64))) fun x66 =>
call (.func n_mirror_Mirror_Flights) [v24] o65 fun v67 o68 =>
AV.isS v67 = true ∧
bnd (IntKind.wrap .i64 (x66 + (alen v67))) fun x69 =>
call (.func n_mirror_Mirror_Later) [v24] o68 fun v70 o71 =>
AV.isS v70 = true ∧
bnd (IntKind.wrap .i64 (x69 + (alen v70))) fun x72 =>
cnd (x72 != (0 : Int)) (
j60 [v20, v21, .int .i64 x22, .int .i64 x23, .bool true] o71) (
cnd (x33 != (1 : Int)) (
j60 [v20, v21, .int .i64 x22, .int .i64 x23, .bool true] o71) (
cnd (x44 != (1 : Int)) (
j60 [v20, v21, .int .i64 x22, .int .i64 x23, .bool true] o71) (
cnd (x48 != (1 : Int)) (
j60 [v20, v21, .int .i64 x22, .int .i64 x23, .bool true] o71) (
call (.func n_mirror_Mirror_Hold) [v24] o71 fun v73 o74 =>
∃ x75 : Int, v73 = .int .i64 x75 ∧
cnd (x75 != (1 : Int)) (
j60 [v20, v21, .int .i64 x22, .int .i64 x23, .bool true] o74) (
call (.func n_mirror_Mirror_Hot) [v24] o74 fun v76 o77 =>
∃ x78 : Int, v76 = .int .u64 x78 ∧
cnd (x78 != (0 : Int)) (
j60 [v20, v21, .int .i64 x22, .int .i64 x23, .bool true] o77) (
AV.isP v20 = true ∧
∃ x79 : Int, ∃ x80 : Int, ldO true 2 (padd 3 v20) o77 = some (.agg [.int .i64 x79, .int .i64 x80]) ∧
call (.func n_mirror_Mirror_Busy) [v24, .agg [.int .i64 x79, .int .i64 x80]] o77 fun v81 o82 =>
∃ b83 : Bool, v81 = .bool b83 ∧
j60 [v20, v21, .int .i64 x22, .int .i64 x23, .bool b83] o82)))))))) (
j16 [] o19)

abbrev twainlaw31_MirrorNone_J85 (call : CallO) (n : Nat) (R : AV → OS → Prop) : List AV → OS → Prop := fun vals1 o2 =>
∃ v3 : AV, ∃ b4 : Bool, vals1 = [v3, .bool b4] ∧
cnd b4 (
call (.func n_twainlaw31_lives) [] o2 fun v5 o6 =>
∃ b7 : Bool, v5 = .bool b7 ∧
R (AV.bool b7) o6) (
AV.one .nilptr = true ∧
AV.one .nilptr = true ∧
AV.one .nilptr = true ∧
AV.one .nilptr = true ∧
bnd (o2 ++ [AO.cells true [.nilptr, .nilptr, .nilptr, .nilptr, .bool false]]) fun o8 =>
AV.one .nilptr = true ∧
AV.one (AV.ptr (List.length o2) 0) = true ∧
bnd (o8 ++ [AO.cells true [.nilptr, (AV.ptr (List.length o2) 0)]]) fun o9 =>
jp (twainlaw31_MirrorNone_J15 call n R) fun j16 =>
AV.isS (AV.slice (List.length o8) 0 2 2 0) = true ∧
lp n (twainlaw31_MirrorNone_L84 call n R j16) [v3, (AV.slice (List.length o8) 0 2 2 0), .int .i64 (alen (AV.slice (List.length o8) 0 2 2 0)), .int .i64 (0 : Int)] o9)

abbrev twainlaw31_MirrorNone (call : CallO) (n : Nat) (R : AV → OS → Prop) (a0x0 : Int) (a0x1 : Int) (a0x2 : Int) (a0x3 : Int) (a0x4 : Int) (a0x5 : AV) (a0x6 : Int) (a0x7 : Int) (a0x8 : Int) (a0x9 : Int) (a0x10 : Bool) (a0x11 : AV) (o : OS) : Prop :=
AV.one a0x5 = true ∧
AV.one a0x11 = true ∧
bnd (o ++ [AO.cells true [.int .i64 a0x0, .int .i64 a0x1, .int .u64 a0x2, .int .i64 a0x3, .int .i64 a0x4, a0x5, .int .i64 a0x6, .int .i64 a0x7, .int .i64 a0x8, .int .u64 a0x9, .bool a0x10, a0x11]]) fun o0 =>
jp (twainlaw31_MirrorNone_J85 call n R) fun j86 =>
AV.isP (AV.ptr (List.length o) 0) = true ∧
∃ v87 : AV, ldO false 1 (padd 5 (AV.ptr (List.length o) 0)) o0 = some (v87) ∧
AV.isS v87 = true ∧
cnd (decide ((alen v87) > (200 : Int))) (
j86 [(AV.ptr (List.length o) 0), .bool true] o0) (
AV.isP (AV.ptr (List.length o) 0) = true ∧
AV.isP (padd 6 (AV.ptr (List.length o) 0)) = true ∧
∃ v88 : AV, ldO false 1 (padd 5 (padd 6 (AV.ptr (List.length o) 0))) o0 = some (v88) ∧
AV.isS v88 = true ∧
j86 [(AV.ptr (List.length o) 0), .bool (decide ((alen v88) > (200 : Int)))] o0)

theorem twainlaw31_MirrorNone_eq (call : CallO) (n : Nat) (R : AV → OS → Prop) (a0x0 : Int) (a0x1 : Int) (a0x2 : Int) (a0x3 : Int) (a0x4 : Int) (a0x5 : AV) (a0x6 : Int) (a0x7 : Int) (a0x8 : Int) (a0x9 : Int) (a0x10 : Bool) (a0x11 : AV) (o : OS) : gFun Tryz.prog call n 3 [.agg [.int .i64 a0x0, .int .i64 a0x1, .int .u64 a0x2, .int .i64 a0x3, .int .i64 a0x4, a0x5, .int .i64 a0x6, .int .i64 a0x7, .int .i64 a0x8, .int .u64 a0x9, .bool a0x10, a0x11]] o R = twainlaw31_MirrorNone call n R a0x0 a0x1 a0x2 a0x3 a0x4 a0x5 a0x6 a0x7 a0x8 a0x9 a0x10 a0x11 o := by kernel_rfl
theorem twainlaw31_MirrorNone_go (n : Nat) {a0x0 : Int} {a0x1 : Int} {a0x2 : Int} {a0x3 : Int} {a0x4 : Int} {a0x5 : AV} {a0x6 : Int} {a0x7 : Int} {a0x8 : Int} {a0x9 : Int} {a0x10 : Bool} {a0x11 : AV} {o : OS} {K : AV → OS → Prop} (h : twainlaw31_MirrorNone (GoF Tryz.prog) n (rt o K) a0x0 a0x1 a0x2 a0x3 a0x4 a0x5 a0x6 a0x7 a0x8 a0x9 a0x10 a0x11 o) : Go Tryz.prog n_twainlaw31_MirrorNone [.agg [.int .i64 a0x0, .int .i64 a0x1, .int .u64 a0x2, .int .i64 a0x3, .int .i64 a0x4, a0x5, .int .i64 a0x6, .int .i64 a0x7, .int .i64 a0x8, .int .u64 a0x9, .bool a0x10, a0x11]] o K :=
  Go.of sane (n := n) ((twainlaw31_MirrorNone_eq (GoF Tryz.prog) n (rt o K) a0x0 a0x1 a0x2 a0x3 a0x4 a0x5 a0x6 a0x7 a0x8 a0x9 a0x10 a0x11 o).mpr h)

/-! (*twain/mirror.Mirror).Write -/
abbrev mirror_Mirror_Write_J59 (call : CallO) (n : Nat) (R : AV → OS → Prop) : List AV → OS → Prop := fun vals24 o25 =>
∃ v26 : AV, ∃ x27 : Int, ∃ v28 : AV, ∃ v29 : AV, ∃ b30 : Bool, vals24 = [v26, .int .i64 x27, v28, v29, .bool b30] ∧
cnd b30 (
R (AV.tuple [.bool false, .nilslice, .int .i64 (0 : Int)]) o25) (
∃ x31 : Int, ∃ x32 : Int, ldO true 2 v29 o25 = some (.agg [.int .i64 x31, .int .i64 x32]) ∧
call (.func n_mirror_Mirror_heats) [v26, .agg [.int .i64 x31, .int .i64 x32]] o25 fun v33 o34 =>
∃ b35 : Bool, ∃ x36 : Int, v33 = .tuple [.bool b35, .int .i64 x36] ∧
cnd (!b35) (
R (AV.tuple [.bool false, .nilslice, .int .i64 x36]) o34) (
∃ x37 : Int, ∃ x38 : Int, ldO true 2 v29 o34 = some (.agg [.int .i64 x37, .int .i64 x38]) ∧
call (.func n_mirror_Mirror_lay) [v26, .agg [.int .i64 x37, .int .i64 x38], v28] o34 fun v39 o40 =>
∃ x41 : Int, v39 = .int .i64 x41 ∧
cnd (x41 != (0 : Int)) (
R (AV.tuple [.bool false, .nilslice, .int .i64 x41]) o40) (
AV.nnil v26 = true ∧
AV.isP v26 = true ∧
AV.isP (padd 0 v26) = true ∧
∃ v42 : AV, ldO false 1 (padd 0 (padd 0 v26)) o40 = some (v42) ∧
∃ x43 : Int, ∃ x44 : Int, ldO true 2 v29 o40 = some (.agg [.int .i64 x43, .int .i64 x44]) ∧
call (.func n_flight_Flights_Add) [v42, .int .i64 x27, .agg [.int .i64 x43, .int .i64 x44], v28] o40 fun v45 o46 =>
∃ b47 : Bool, v45 = .bool b47 ∧
∃ x48 : Int, ∃ x49 : Int, ldO true 2 v29 o46 = some (.agg [.int .i64 x48, .int .i64 x49]) ∧
call (.func n_mirror_sends) [.int .i64 x27, .agg [.int .i64 x48, .int .i64 x49], v28] o46 fun v50 o51 =>
∃ x52 : Int, ∃ x53 : Int, ∃ x54 : Int, ∃ x55 : Int, ∃ b56 : Bool, ∃ v57 : AV, v50 = .agg [.int .i64 x52, .int .i64 x53, .int .i64 x54, .int .u64 x55, .bool b56, v57] ∧
AV.one v57 = true ∧
bnd (o51 ++ [AO.cells true [.int .i64 x52, .int .i64 x53, .int .i64 x54, .int .u64 x55, .bool b56, v57]]) fun o58 =>
R (AV.tuple [.bool true, (AV.slice (List.length o51) 0 1 1 0), .int .i64 (0 : Int)]) o58)))

abbrev mirror_Mirror_Write_J72 (call : CallO) (n : Nat) (R : AV → OS → Prop) : List AV → OS → Prop := fun vals4 o5 =>
∃ v6 : AV, ∃ x7 : Int, ∃ v8 : AV, ∃ v9 : AV, ∃ b10 : Bool, vals4 = [v6, .int .i64 x7, v8, v9, .bool b10] ∧
cnd b10 (
R (AV.tuple [.bool false, .nilslice, .int .i64 (2 : Int)]) o5) (
AV.isS v8 = true ∧
AV.isP v9 = true ∧
∃ x11 : Int, ldO false 1 (padd 1 v9) o5 = some (.int .i64 x11) ∧
bnd (IntKind.wrap .i64 (x11 * (16 : Int))) fun x12 =>
cnd ((alen v8) != x12) (
R (AV.tuple [.bool false, .nilslice, .int .i64 (2 : Int)]) o5) (
AV.nnil v6 = true ∧
AV.isP v6 = true ∧
AV.isP (padd 0 v6) = true ∧
∃ v13 : AV, ldO false 1 (padd 0 (padd 0 v6)) o5 = some (v13) ∧
call (.func n_flight_Flights_Get) [v13, .int .i64 x7] o5 fun v14 o15 =>
∃ x16 : Int, ∃ x17 : Int, ∃ x18 : Int, ∃ v19 : AV, ∃ x20 : Int, ∃ b21 : Bool, v14 = .tuple [.agg [.int .i64 x16, .int .i64 x17, .int .i64 x18, v19, .int .i64 x20], .bool b21] ∧
bnd (o15 ++ [AO.cells true [.int .i64 (0 : Int), .int .i64 (0 : Int), .int .i64 (0 : Int), .nilslice, .int .i64 (0 : Int)]]) fun o22 =>
AV.one v19 = true ∧
∃ o23 : OS, stO (AV.ptr (List.length o15) 0) [.int .i64 x16, .int .i64 x17, .int .i64 x18, v19, .int .i64 x20] o22 = some o23 ∧
jp (mirror_Mirror_Write_J59 call n R) fun j60 =>
cnd b21 (
j60 [v6, .int .i64 x7, v8, v9, .bool true] o23) (
∃ x61 : Int, ∃ x62 : Int, ldO true 2 v9 o23 = some (.agg [.int .i64 x61, .int .i64 x62]) ∧
call (.func n_mirror_Mirror_Busy) [v6, .agg [.int .i64 x61, .int .i64 x62]] o23 fun v63 o64 =>
∃ b65 : Bool, v63 = .bool b65 ∧
cnd b65 (
j60 [v6, .int .i64 x7, v8, v9, .bool true] o64) (
AV.nnil v6 = true ∧
AV.isP v6 = true ∧
∃ v66 : AV, ldO false 1 (padd 3 v6) o64 = some (v66) ∧
∃ x67 : Int, ∃ x68 : Int, ldO true 2 v9 o64 = some (.agg [.int .i64 x67, .int .i64 x68]) ∧
call (.func n_later_Queue_Over) [v66, .agg [.int .i64 x67, .int .i64 x68]] o64 fun v69 o70 =>
∃ b71 : Bool, v69 = .bool b71 ∧
j60 [v6, .int .i64 x7, v8, v9, .bool b71] o70))))

abbrev mirror_Mirror_Write (call : CallO) (n : Nat) (R : AV → OS → Prop) (a0 : AV) (a1 : Int) (a2x0 : Int) (a2x1 : Int) (a3 : AV) (o : OS) : Prop :=
bnd (o ++ [AO.cells true [.int .i64 a2x0, .int .i64 a2x1]]) fun o0 =>
call (.func n_mirror_Mirror_is) [a0] o0 fun v1 o2 =>
∃ b3 : Bool, v1 = .bool b3 ∧
cnd (!b3) (
R (AV.tuple [.bool false, .nilslice, .int .i64 (1 : Int)]) o2) (
jp (mirror_Mirror_Write_J72 call n R) fun j73 =>
cnd (decide (a1 < (1 : Int))) (
j73 [a0, .int .i64 a1, a3, (AV.ptr (List.length o) 0), .bool (decide (a1 < (1 : Int)))] o2) (
∃ x74 : Int, ∃ x75 : Int, ldO true 2 (AV.ptr (List.length o) 0) o2 = some (.agg [.int .i64 x74, .int .i64 x75]) ∧
AV.nnil a0 = true ∧
AV.isP a0 = true ∧
∃ v76 : AV, ldO false 1 (padd 1 a0) o2 = some (v76) ∧
call (.func n_data_Sectors) [v76] o2 fun v77 o78 =>
∃ x79 : Int, v77 = .int .i64 x79 ∧
∃ x80 : Int, ∃ x81 : Int, ldO true 2 (AV.ptr (List.length o) 0) o78 = some (.agg [.int .i64 x80, .int .i64 x81]) ∧
(AV.agg [.int .i64 x80, .int .i64 x81]) = (AV.agg [.int .i64 x74, .int .i64 x75]) ∧
beqA (AV.agg [.int .i64 x80, .int .i64 x81]) (AV.agg [.int .i64 x80, .int .i64 x81]) = true ∧
call (.func n_span_Good) [.agg [.int .i64 x74, .int .i64 x75], .int .i64 x79] o78 fun v82 o83 =>
∃ b84 : Bool, v82 = .bool b84 ∧
j73 [a0, .int .i64 a1, a3, (AV.ptr (List.length o) 0), .bool (!b84)] o83))

theorem mirror_Mirror_Write_eq (call : CallO) (n : Nat) (R : AV → OS → Prop) (a0 : AV) (a1 : Int) (a2x0 : Int) (a2x1 : Int) (a3 : AV) (o : OS) : gFun Tryz.prog call n 5 [a0, .int .i64 a1, .agg [.int .i64 a2x0, .int .i64 a2x1], a3] o R = mirror_Mirror_Write call n R a0 a1 a2x0 a2x1 a3 o := by kernel_rfl
theorem mirror_Mirror_Write_go (n : Nat) {a0 : AV} {a1 : Int} {a2x0 : Int} {a2x1 : Int} {a3 : AV} {o : OS} {K : AV → OS → Prop} (h : mirror_Mirror_Write (GoF Tryz.prog) n (rt o K) a0 a1 a2x0 a2x1 a3 o) : Go Tryz.prog n_mirror_Mirror_Write [a0, .int .i64 a1, .agg [.int .i64 a2x0, .int .i64 a2x1], a3] o K :=
  Go.of sane (n := n) ((mirror_Mirror_Write_eq (GoF Tryz.prog) n (rt o K) a0 a1 a2x0 a2x1 a3 o).mpr h)

/-! (*twain/mirror.Mirror).Take -/
abbrev mirror_Mirror_Take_J15 (call : CallO) (n : Nat) (R : AV → OS → Prop) : List AV → OS → Prop := fun vals13 o14 =>
vals13 = [] ∧
R (AV.tuple [.nilslice, .nilslice, .int .i64 (0 : Int)]) o14

abbrev mirror_Mirror_Take_J46 (call : CallO) (n : Nat) (R : AV → OS → Prop) (j16 : List AV → OS → Prop) : List AV → OS → Prop := fun vals28 o29 =>
∃ v30 : AV, ∃ v31 : AV, ∃ x32 : Int, ∃ b33 : Bool, vals28 = [v30, v31, .int .i64 x32, .bool b33] ∧
cnd b33 (
AV.nnil v30 = true ∧
AV.isP v30 = true ∧
AV.isP (padd 0 v30) = true ∧
∃ v34 : AV, ldO false 1 (padd 0 (padd 0 v30)) o29 = some (v34) ∧
AV.isP v31 = true ∧
∃ x35 : Int, ldO false 1 (padd 1 v31) o29 = some (.int .i64 x35) ∧
call (.func n_flight_Flights_End) [v34, .int .i64 x35] o29 fun v36 o37 =>
∃ b38 : Bool, v36 = .bool b38 ∧
cnd b38 (
AV.isP v31 = true ∧
∃ x39 : Int, ldO false 1 (padd 1 v31) o37 = some (.int .i64 x39) ∧
bnd (o37 ++ [AO.cells true [.int .i64 x39]]) fun o40 =>
R (AV.tuple [(AV.slice (List.length o37) 0 1 1 0), .nilslice, .int .i64 (0 : Int)]) o40) (
j16 [] o37)) (
cnd (x32 == (5 : Int)) (
AV.nnil v30 = true ∧
AV.isP v30 = true ∧
AV.isP (padd 0 v30) = true ∧
∃ v41 : AV, ldO false 1 (padd 0 (padd 0 v30)) o29 = some (v41) ∧
AV.isP v31 = true ∧
∃ x42 : Int, ldO false 1 (padd 1 v31) o29 = some (.int .i64 x42) ∧
call (.func n_flight_Flights_Turn) [v41, .int .i64 x42, .int .i64 (1 : Int)] o29 fun v43 o44 =>
∃ b45 : Bool, v43 = .bool b45 ∧
j16 [] o44) (
j16 [] o29))

abbrev mirror_Mirror_Take (call : CallO) (n : Nat) (R : AV → OS → Prop) (a0 : AV) (a1x0 : Int) (a1x1 : Int) (a1x2 : Int) (a1x3 : Int) (a1x4 : Bool) (a1x5 : AV) (o : OS) : Prop :=
AV.one a1x5 = true ∧
bnd (o ++ [AO.cells true [.int .i64 a1x0, .int .i64 a1x1, .int .i64 a1x2, .int .u64 a1x3, .bool a1x4, a1x5]]) fun o0 =>
call (.func n_mirror_Mirror_is) [a0] o0 fun v1 o2 =>
∃ b3 : Bool, v1 = .bool b3 ∧
cnd (!b3) (
R (AV.tuple [.nilslice, .nilslice, .int .i64 (1 : Int)]) o2) (
∃ x4 : Int, ∃ x5 : Int, ∃ x6 : Int, ∃ x7 : Int, ∃ b8 : Bool, ∃ v9 : AV, ldO true 6 (AV.ptr (List.length o) 0) o2 = some (.agg [.int .i64 x4, .int .i64 x5, .int .i64 x6, .int .u64 x7, .bool b8, v9]) ∧
call (.func n_pack_Good) [.agg [.int .i64 x4, .int .i64 x5, .int .i64 x6, .int .u64 x7, .bool b8, v9]] o2 fun v10 o11 =>
∃ b12 : Bool, v10 = .bool b12 ∧
cnd (!b12) (
R (AV.tuple [.nilslice, .nilslice, .int .i64 (2 : Int)]) o11) (
jp (mirror_Mirror_Take_J15 call n R) fun j16 =>
AV.isP (AV.ptr (List.length o) 0) = true ∧
∃ x17 : Int, ldO false 1 (padd 0 (AV.ptr (List.length o) 0)) o11 = some (.int .i64 x17) ∧
cnd (x17 == (2 : Int)) (
∃ x18 : Int, ∃ x19 : Int, ∃ x20 : Int, ∃ x21 : Int, ∃ b22 : Bool, ∃ v23 : AV, ldO true 6 (AV.ptr (List.length o) 0) o11 = some (.agg [.int .i64 x18, .int .i64 x19, .int .i64 x20, .int .u64 x21, .bool b22, v23]) ∧
call (.func n_mirror_Mirror_comes) [a0, .agg [.int .i64 x18, .int .i64 x19, .int .i64 x20, .int .u64 x21, .bool b22, v23]] o11 fun v24 o25 =>
∃ v26 : AV, ∃ x27 : Int, v24 = .tuple [v26, .int .i64 x27] ∧
R (AV.tuple [.nilslice, v26, .int .i64 x27]) o25) (
jp (mirror_Mirror_Take_J46 call n R j16) fun j47 =>
cnd (x17 == (3 : Int)) (
j47 [a0, (AV.ptr (List.length o) 0), .int .i64 x17, .bool (x17 == (3 : Int))] o11) (
j47 [a0, (AV.ptr (List.length o) 0), .int .i64 x17, .bool (x17 == (4 : Int))] o11))))

theorem mirror_Mirror_Take_eq (call : CallO) (n : Nat) (R : AV → OS → Prop) (a0 : AV) (a1x0 : Int) (a1x1 : Int) (a1x2 : Int) (a1x3 : Int) (a1x4 : Bool) (a1x5 : AV) (o : OS) : gFun Tryz.prog call n 6 [a0, .agg [.int .i64 a1x0, .int .i64 a1x1, .int .i64 a1x2, .int .u64 a1x3, .bool a1x4, a1x5]] o R = mirror_Mirror_Take call n R a0 a1x0 a1x1 a1x2 a1x3 a1x4 a1x5 o := by kernel_rfl
theorem mirror_Mirror_Take_go (n : Nat) {a0 : AV} {a1x0 : Int} {a1x1 : Int} {a1x2 : Int} {a1x3 : Int} {a1x4 : Bool} {a1x5 : AV} {o : OS} {K : AV → OS → Prop} (h : mirror_Mirror_Take (GoF Tryz.prog) n (rt o K) a0 a1x0 a1x1 a1x2 a1x3 a1x4 a1x5 o) : Go Tryz.prog n_mirror_Mirror_Take [a0, .agg [.int .i64 a1x0, .int .i64 a1x1, .int .i64 a1x2, .int .u64 a1x3, .bool a1x4, a1x5]] o K :=
  Go.of sane (n := n) ((mirror_Mirror_Take_eq (GoF Tryz.prog) n (rt o K) a0 a1x0 a1x1 a1x2 a1x3 a1x4 a1x5 o).mpr h)

/-! (*twain/mirror.Mirror).Go -/

abbrev mirror_Mirror_Go (call : CallO) (n : Nat) (R : AV → OS → Prop) (a0 : AV) (o : OS) : Prop :=
call (.func n_mirror_Mirror_is) [a0] o fun v0 o1 =>
∃ b2 : Bool, v0 = .bool b2 ∧
cnd (!b2) (
R (AV.tuple [.nilslice, .int .i64 (1 : Int)]) o1) (
call (.func n_mirror_Mirror_drains) [a0] o1 fun v3 o4 =>
∃ v5 : AV, ∃ x6 : Int, v3 = .tuple [v5, .int .i64 x6] ∧
cnd (x6 != (0 : Int)) (
R (AV.tuple [.nilslice, .int .i64 x6]) o4) (
call (.func n_mirror_Mirror_again) [a0] o4 fun v7 o8 =>
∃ v9 : AV, ∃ x10 : Int, v7 = .tuple [v9, .int .i64 x10] ∧
cnd (x10 != (0 : Int)) (
R (AV.tuple [.nilslice, .int .i64 x10]) o8) (
call (.func n_mirror_tells) [.int .i64 (3 : Int), v5] o8 fun v11 o12 =>
∃ (v13 : AV) (o14 : OS), appO 6 64 v11 v9 o12 = some (v13, o14) ∧
R (AV.tuple [v13, .int .i64 (0 : Int)]) o14)))

theorem mirror_Mirror_Go_eq (call : CallO) (n : Nat) (R : AV → OS → Prop) (a0 : AV) (o : OS) : gFun Tryz.prog call n 7 [a0] o R = mirror_Mirror_Go call n R a0 o := by kernel_rfl
theorem mirror_Mirror_Go_go (n : Nat) {a0 : AV} {o : OS} {K : AV → OS → Prop} (h : mirror_Mirror_Go (GoF Tryz.prog) n (rt o K) a0 o) : Go Tryz.prog n_mirror_Mirror_Go [a0] o K :=
  Go.of sane (n := n) ((mirror_Mirror_Go_eq (GoF Tryz.prog) n (rt o K) a0 o).mpr h)

/-! (*twain/mirror.Mirror).Forget -/

abbrev mirror_Mirror_Forget (call : CallO) (n : Nat) (R : AV → OS → Prop) (a0 : AV) (o : OS) : Prop :=
call (.func n_mirror_Mirror_is) [a0] o fun v0 o1 =>
∃ b2 : Bool, v0 = .bool b2 ∧
cnd b2 (
AV.nnil a0 = true ∧
AV.isP a0 = true ∧
∃ v3 : AV, ldO false 1 (padd 2 a0) o1 = some (v3) ∧
call (.func n_hot_Set_Load) [v3, .int .u64 (0 : Int)] o1 fun v4 o5 =>
R (AV.tuple []) o5) (
R (AV.tuple []) o1)

theorem mirror_Mirror_Forget_eq (call : CallO) (n : Nat) (R : AV → OS → Prop) (a0 : AV) (o : OS) : gFun Tryz.prog call n 8 [a0] o R = mirror_Mirror_Forget call n R a0 o := by kernel_rfl
theorem mirror_Mirror_Forget_go (n : Nat) {a0 : AV} {o : OS} {K : AV → OS → Prop} (h : mirror_Mirror_Forget (GoF Tryz.prog) n (rt o K) a0 o) : Go Tryz.prog n_mirror_Mirror_Forget [a0] o K :=
  Go.of sane (n := n) ((mirror_Mirror_Forget_eq (GoF Tryz.prog) n (rt o K) a0 o).mpr h)

/-! (*twain/mirror.Mirror).Release -/
abbrev mirror_Mirror_Release_J3 (call : CallO) (n : Nat) (R : AV → OS → Prop) : List AV → OS → Prop := fun vals0 o1 =>
∃ v2 : AV, vals0 = [v2] ∧
R v2 o1

abbrev mirror_Mirror_Release_J23 (call : CallO) (n : Nat) (R : AV → OS → Prop) (X7 : List AV → OS → Prop) : List AV → OS → Prop := fun vals15 o16 =>
∃ v17 : AV, ∃ v18 : AV, ∃ v19 : AV, ∃ x20 : Int, ∃ x21 : Int, vals15 = [v17, v18, v19, .int .i64 x20, .int .i64 x21] ∧
bnd (IntKind.wrap .i64 (x21 + (1 : Int))) fun x22 =>
X7 [v17, v18, v19, .int .i64 x20, .int .i64 x22] o16

abbrev mirror_Mirror_Release_J45 (call : CallO) (n : Nat) (R : AV → OS → Prop) (j24 : List AV → OS → Prop) : List AV → OS → Prop := fun vals32 o33 =>
∃ v34 : AV, ∃ v35 : AV, ∃ v36 : AV, ∃ v37 : AV, ∃ x38 : Int, ∃ x39 : Int, ∃ b40 : Bool, vals32 = [v34, v35, v36, v37, .int .i64 x38, .int .i64 x39, .bool b40] ∧
cnd b40 (
AV.isP v36 = true ∧
∃ x41 : Int, ldO false 1 (padd 0 v36) o33 = some (.int .i64 x41) ∧
bnd (o33 ++ [AO.cells true [.int .i64 x41]]) fun o42 =>
∃ (v43 : AV) (o44 : OS), appO 1 8 v35 (AV.slice (List.length o33) 0 1 1 0) o42 = some (v43, o44) ∧
j24 [v34, v43, v37, .int .i64 x38, .int .i64 x39] o44) (
j24 [v34, v35, v37, .int .i64 x38, .int .i64 x39] o33)

abbrev mirror_Mirror_Release_L53 (call : CallO) (n : Nat) (R : AV → OS → Prop) (j4 : List AV → OS → Prop) : (List AV → OS → Prop) → List AV → OS → Prop := fun X7 vals8 o9 =>
∃ v10 : AV, ∃ v11 : AV, ∃ v12 : AV, ∃ x13 : Int, ∃ x14 : Int, vals8 = [v10, v11, v12, .int .i64 x13, .int .i64 x14] ∧
cnd (decide (x14 < x13)) (
jp (mirror_Mirror_Release_J23 call n R X7) fun j24 =>
(0 ≤ x14 ∧ x14 < alen v12) ∧
∃ x25 : Int, ∃ x26 : Int, ∃ x27 : Int, ∃ v28 : AV, ∃ x29 : Int, ldO true 5 (ixp 5 v12 x14) o9 = some (.agg [.int .i64 x25, .int .i64 x26, .int .i64 x27, v28, .int .i64 x29]) ∧
bnd (o9 ++ [AO.cells true [.int .i64 (0 : Int), .int .i64 (0 : Int), .int .i64 (0 : Int), .nilslice, .int .i64 (0 : Int)]]) fun o30 =>
AV.one v28 = true ∧
∃ o31 : OS, stO (AV.ptr (List.length o9) 0) [.int .i64 x25, .int .i64 x26, .int .i64 x27, v28, .int .i64 x29] o30 = some o31 ∧
jp (mirror_Mirror_Release_J45 call n R j24) fun j46 =>
AV.isP (AV.ptr (List.length o9) 0) = true ∧
∃ x47 : Int, ldO false 1 (padd 4 (AV.ptr (List.length o9) 0)) o31 = some (.int .i64 x47) ∧
cnd (x47 == (2 : Int)) (
AV.nnil v10 = true ∧
AV.isP v10 = true ∧
AV.isP (padd 0 v10) = true ∧
∃ v48 : AV, ldO false 1 (padd 0 (padd 0 v10)) o31 = some (v48) ∧
AV.isP (AV.ptr (List.length o9) 0) = true ∧
∃ x49 : Int, ldO false 1 (padd 0 (AV.ptr (List.length o9) 0)) o31 = some (.int .i64 x49) ∧
call (.func n_flight_Flights_End) [v48, .int .i64 x49] o31 fun v50 o51 =>
∃ b52 : Bool, v50 = .bool b52 ∧
j46 [v10, v11, (AV.ptr (List.length o9) 0), v12, .int .i64 x13, .int .i64 x14, .bool b52] o51) (
j46 [v10, v11, (AV.ptr (List.length o9) 0), v12, .int .i64 x13, .int .i64 x14, .bool false] o31)) (
j4 [v11] o9)

abbrev mirror_Mirror_Release (call : CallO) (n : Nat) (R : AV → OS → Prop) (a0 : AV) (o : OS) : Prop :=
jp (mirror_Mirror_Release_J3 call n R) fun j4 =>
call (.func n_mirror_Mirror_Flights) [a0] o fun v5 o6 =>
AV.isS v5 = true ∧
lp n (mirror_Mirror_Release_L53 call n R j4) [a0, .nilslice, v5, .int .i64 (alen v5), .int .i64 (0 : Int)] o6

theorem mirror_Mirror_Release_eq (call : CallO) (n : Nat) (R : AV → OS → Prop) (a0 : AV) (o : OS) : gFun Tryz.prog call n 9 [a0] o R = mirror_Mirror_Release call n R a0 o := by kernel_rfl
theorem mirror_Mirror_Release_go (n : Nat) {a0 : AV} {o : OS} {K : AV → OS → Prop} (h : mirror_Mirror_Release (GoF Tryz.prog) n (rt o K) a0 o) : Go Tryz.prog n_mirror_Mirror_Release [a0] o K :=
  Go.of sane (n := n) ((mirror_Mirror_Release_eq (GoF Tryz.prog) n (rt o K) a0 o).mpr h)

/-! (*twain/mirror.Mirror).Flights -/

abbrev mirror_Mirror_Flights (call : CallO) (n : Nat) (R : AV → OS → Prop) (a0 : AV) (o : OS) : Prop :=
call (.func n_mirror_Mirror_is) [a0] o fun v0 o1 =>
∃ b2 : Bool, v0 = .bool b2 ∧
cnd (!b2) (
R .nilslice o1) (
AV.nnil a0 = true ∧
AV.isP a0 = true ∧
AV.isP (padd 0 a0) = true ∧
∃ v3 : AV, ldO false 1 (padd 0 (padd 0 a0)) o1 = some (v3) ∧
call (.func n_flight_Flights_List) [v3] o1 fun v4 o5 =>
R v4 o5)

theorem mirror_Mirror_Flights_eq (call : CallO) (n : Nat) (R : AV → OS → Prop) (a0 : AV) (o : OS) : gFun Tryz.prog call n 10 [a0] o R = mirror_Mirror_Flights call n R a0 o := by kernel_rfl
theorem mirror_Mirror_Flights_go (n : Nat) {a0 : AV} {o : OS} {K : AV → OS → Prop} (h : mirror_Mirror_Flights (GoF Tryz.prog) n (rt o K) a0 o) : Go Tryz.prog n_mirror_Mirror_Flights [a0] o K :=
  Go.of sane (n := n) ((mirror_Mirror_Flights_eq (GoF Tryz.prog) n (rt o K) a0 o).mpr h)

/-! (*twain/mirror.Mirror).Later -/

abbrev mirror_Mirror_Later (call : CallO) (n : Nat) (R : AV → OS → Prop) (a0 : AV) (o : OS) : Prop :=
call (.func n_mirror_Mirror_is) [a0] o fun v0 o1 =>
∃ b2 : Bool, v0 = .bool b2 ∧
cnd (!b2) (
R .nilslice o1) (
AV.nnil a0 = true ∧
AV.isP a0 = true ∧
∃ v3 : AV, ldO false 1 (padd 3 a0) o1 = some (v3) ∧
call (.func n_later_Queue_Spans) [v3] o1 fun v4 o5 =>
R v4 o5)

theorem mirror_Mirror_Later_eq (call : CallO) (n : Nat) (R : AV → OS → Prop) (a0 : AV) (o : OS) : gFun Tryz.prog call n 11 [a0] o R = mirror_Mirror_Later call n R a0 o := by kernel_rfl
theorem mirror_Mirror_Later_go (n : Nat) {a0 : AV} {o : OS} {K : AV → OS → Prop} (h : mirror_Mirror_Later (GoF Tryz.prog) n (rt o K) a0 o) : Go Tryz.prog n_mirror_Mirror_Later [a0] o K :=
  Go.of sane (n := n) ((mirror_Mirror_Later_eq (GoF Tryz.prog) n (rt o K) a0 o).mpr h)

/-! (*twain/mirror.Mirror).Hold -/
abbrev mirror_Mirror_Hold_J11 (call : CallO) (n : Nat) (R : AV → OS → Prop) : List AV → OS → Prop := fun vals9 o10 =>
vals9 = [] ∧
R (AV.int .i64 (0 : Int)) o10

abbrev mirror_Mirror_Hold_L35 (call : CallO) (n : Nat) (R : AV → OS → Prop) (j12 : List AV → OS → Prop) : (List AV → OS → Prop) → List AV → OS → Prop := fun X15 vals16 o17 =>
∃ v18 : AV, ∃ v19 : AV, ∃ x20 : Int, ∃ x21 : Int, vals16 = [v18, v19, .int .i64 x20, .int .i64 x21] ∧
cnd (decide (x21 < x20)) (
(0 ≤ x21 ∧ x21 < alen v19) ∧
∃ x22 : Int, ∃ x23 : Int, ∃ x24 : Int, ∃ v25 : AV, ∃ x26 : Int, ldO true 5 (ixp 5 v19 x21) o17 = some (.agg [.int .i64 x22, .int .i64 x23, .int .i64 x24, v25, .int .i64 x26]) ∧
bnd (o17 ++ [AO.cells true [.int .i64 (0 : Int), .int .i64 (0 : Int), .int .i64 (0 : Int), .nilslice, .int .i64 (0 : Int)]]) fun o27 =>
AV.one v25 = true ∧
∃ o28 : OS, stO (AV.ptr (List.length o17) 0) [.int .i64 x22, .int .i64 x23, .int .i64 x24, v25, .int .i64 x26] o27 = some o28 ∧
AV.nnil v18 = true ∧
AV.isP v18 = true ∧
AV.isP (padd 0 v18) = true ∧
∃ v29 : AV, ldO false 1 (padd 0 (padd 0 v18)) o28 = some (v29) ∧
AV.isP (AV.ptr (List.length o17) 0) = true ∧
∃ x30 : Int, ldO false 1 (padd 0 (AV.ptr (List.length o17) 0)) o28 = some (.int .i64 x30) ∧
call (.func n_flight_Flights_Turn) [v29, .int .i64 x30, .int .i64 (2 : Int)] o28 fun v31 o32 =>
∃ b33 : Bool, v31 = .bool b33 ∧
bnd (IntKind.wrap .i64 (x21 + (1 : Int))) fun x34 =>
X15 [v18, v19, .int .i64 x20, .int .i64 x34] o32) (
j12 [] o17)

abbrev mirror_Mirror_Hold_J36 (call : CallO) (n : Nat) (R : AV → OS → Prop) : List AV → OS → Prop := fun vals6 o7 =>
∃ v8 : AV, vals6 = [v8] ∧
jp (mirror_Mirror_Hold_J11 call n R) fun j12 =>
call (.func n_mirror_Mirror_Flights) [v8] o7 fun v13 o14 =>
AV.isS v13 = true ∧
lp n (mirror_Mirror_Hold_L35 call n R j12) [v8, v13, .int .i64 (alen v13), .int .i64 (0 : Int)] o14

abbrev mirror_Mirror_Hold_J54 (call : CallO) (n : Nat) (R : AV → OS → Prop) (X40 : List AV → OS → Prop) : List AV → OS → Prop := fun vals47 o48 =>
∃ v49 : AV, ∃ v50 : AV, ∃ x51 : Int, ∃ x52 : Int, vals47 = [v49, v50, .int .i64 x51, .int .i64 x52] ∧
bnd (IntKind.wrap .i64 (x52 + (1 : Int))) fun x53 =>
X40 [v49, v50, .int .i64 x51, .int .i64 x53] o48

abbrev mirror_Mirror_Hold_L70 (call : CallO) (n : Nat) (R : AV → OS → Prop) (j37 : List AV → OS → Prop) : (List AV → OS → Prop) → List AV → OS → Prop := fun X40 vals41 o42 =>
∃ v43 : AV, ∃ v44 : AV, ∃ x45 : Int, ∃ x46 : Int, vals41 = [v43, v44, .int .i64 x45, .int .i64 x46] ∧
cnd (decide (x46 < x45)) (
jp (mirror_Mirror_Hold_J54 call n R X40) fun j55 =>
(0 ≤ x46 ∧ x46 < alen v44) ∧
∃ x56 : Int, ∃ x57 : Int, ∃ x58 : Int, ∃ v59 : AV, ∃ x60 : Int, ldO true 5 (ixp 5 v44 x46) o42 = some (.agg [.int .i64 x56, .int .i64 x57, .int .i64 x58, v59, .int .i64 x60]) ∧
bnd (o42 ++ [AO.cells true [.int .i64 (0 : Int), .int .i64 (0 : Int), .int .i64 (0 : Int), .nilslice, .int .i64 (0 : Int)]]) fun o61 =>
AV.one v59 = true ∧
∃ o62 : OS, stO (AV.ptr (List.length o42) 0) [.int .i64 x56, .int .i64 x57, .int .i64 x58, v59, .int .i64 x60] o61 = some o62 ∧
AV.isP (AV.ptr (List.length o42) 0) = true ∧
∃ x63 : Int, ldO false 1 (padd 4 (AV.ptr (List.length o42) 0)) o62 = some (.int .i64 x63) ∧
cnd (x63 != (1 : Int)) (
j55 [v43, v44, .int .i64 x45, .int .i64 x46] o62) (
AV.isP (AV.ptr (List.length o42) 0) = true ∧
∃ x64 : Int, ∃ x65 : Int, ldO true 2 (padd 1 (AV.ptr (List.length o42) 0)) o62 = some (.agg [.int .i64 x64, .int .i64 x65]) ∧
AV.isP (AV.ptr (List.length o42) 0) = true ∧
∃ v66 : AV, ldO false 1 (padd 3 (AV.ptr (List.length o42) 0)) o62 = some (v66) ∧
call (.func n_mirror_Mirror_lay) [v43, .agg [.int .i64 x64, .int .i64 x65], v66] o62 fun v67 o68 =>
∃ x69 : Int, v67 = .int .i64 x69 ∧
cnd (x69 != (0 : Int)) (
R (AV.int .i64 x69) o68) (
j55 [v43, v44, .int .i64 x45, .int .i64 x46] o68))) (
j37 [v43] o42)

abbrev mirror_Mirror_Hold (call : CallO) (n : Nat) (R : AV → OS → Prop) (a0 : AV) (o : OS) : Prop :=
call (.func n_mirror_Mirror_is) [a0] o fun v0 o1 =>
∃ b2 : Bool, v0 = .bool b2 ∧
cnd (!b2) (
R (AV.int .i64 (1 : Int)) o1) (
call (.func n_later_New) [] o1 fun v3 o4 =>
AV.nnil a0 = true ∧
AV.isP a0 = true ∧
AV.one v3 = true ∧
∃ o5 : OS, stO (padd 3 a0) [v3] o4 = some o5 ∧
jp (mirror_Mirror_Hold_J36 call n R) fun j37 =>
call (.func n_mirror_Mirror_Flights) [a0] o5 fun v38 o39 =>
AV.isS v38 = true ∧
lp n (mirror_Mirror_Hold_L70 call n R j37) [a0, v38, .int .i64 (alen v38), .int .i64 (0 : Int)] o39)

theorem mirror_Mirror_Hold_eq (call : CallO) (n : Nat) (R : AV → OS → Prop) (a0 : AV) (o : OS) : gFun Tryz.prog call n 12 [a0] o R = mirror_Mirror_Hold call n R a0 o := by kernel_rfl
theorem mirror_Mirror_Hold_go (n : Nat) {a0 : AV} {o : OS} {K : AV → OS → Prop} (h : mirror_Mirror_Hold (GoF Tryz.prog) n (rt o K) a0 o) : Go Tryz.prog n_mirror_Mirror_Hold [a0] o K :=
  Go.of sane (n := n) ((mirror_Mirror_Hold_eq (GoF Tryz.prog) n (rt o K) a0 o).mpr h)

/-! (*twain/mirror.Mirror).Hot -/

abbrev mirror_Mirror_Hot (call : CallO) (n : Nat) (R : AV → OS → Prop) (a0 : AV) (o : OS) : Prop :=
call (.func n_mirror_Mirror_is) [a0] o fun v0 o1 =>
∃ b2 : Bool, v0 = .bool b2 ∧
cnd (!b2) (
R (AV.int .u64 (0 : Int)) o1) (
AV.nnil a0 = true ∧
AV.isP a0 = true ∧
∃ v3 : AV, ldO false 1 (padd 2 a0) o1 = some (v3) ∧
call (.func n_hot_Set_Mask) [v3] o1 fun v4 o5 =>
∃ x6 : Int, v4 = .int .u64 x6 ∧
R (AV.int .u64 x6) o5)

theorem mirror_Mirror_Hot_eq (call : CallO) (n : Nat) (R : AV → OS → Prop) (a0 : AV) (o : OS) : gFun Tryz.prog call n 13 [a0] o R = mirror_Mirror_Hot call n R a0 o := by kernel_rfl
theorem mirror_Mirror_Hot_go (n : Nat) {a0 : AV} {o : OS} {K : AV → OS → Prop} (h : mirror_Mirror_Hot (GoF Tryz.prog) n (rt o K) a0 o) : Go Tryz.prog n_mirror_Mirror_Hot [a0] o K :=
  Go.of sane (n := n) ((mirror_Mirror_Hot_eq (GoF Tryz.prog) n (rt o K) a0 o).mpr h)

/-! (*twain/mirror.Mirror).Busy -/
abbrev mirror_Mirror_Busy_J4 (call : CallO) (n : Nat) (R : AV → OS → Prop) : List AV → OS → Prop := fun vals1 o2 =>
∃ b3 : Bool, vals1 = [.bool b3] ∧
R (AV.bool b3) o2

abbrev mirror_Mirror_Busy (call : CallO) (n : Nat) (R : AV → OS → Prop) (a0 : AV) (a1x0 : Int) (a1x1 : Int) (o : OS) : Prop :=
bnd (o ++ [AO.cells true [.int .i64 a1x0, .int .i64 a1x1]]) fun o0 =>
jp (mirror_Mirror_Busy_J4 call n R) fun j5 =>
call (.func n_mirror_Mirror_is) [a0] o0 fun v6 o7 =>
∃ b8 : Bool, v6 = .bool b8 ∧
cnd b8 (
AV.nnil a0 = true ∧
AV.isP a0 = true ∧
AV.isP (padd 0 a0) = true ∧
∃ v9 : AV, ldO false 1 (padd 0 (padd 0 a0)) o7 = some (v9) ∧
∃ x10 : Int, ∃ x11 : Int, ldO true 2 (AV.ptr (List.length o) 0) o7 = some (.agg [.int .i64 x10, .int .i64 x11]) ∧
call (.func n_flight_Flights_Busy) [v9, .agg [.int .i64 x10, .int .i64 x11]] o7 fun v12 o13 =>
∃ b14 : Bool, v12 = .bool b14 ∧
j5 [.bool b14] o13) (
j5 [.bool false] o7)

theorem mirror_Mirror_Busy_eq (call : CallO) (n : Nat) (R : AV → OS → Prop) (a0 : AV) (a1x0 : Int) (a1x1 : Int) (o : OS) : gFun Tryz.prog call n 14 [a0, .agg [.int .i64 a1x0, .int .i64 a1x1]] o R = mirror_Mirror_Busy call n R a0 a1x0 a1x1 o := by kernel_rfl
theorem mirror_Mirror_Busy_go (n : Nat) {a0 : AV} {a1x0 : Int} {a1x1 : Int} {o : OS} {K : AV → OS → Prop} (h : mirror_Mirror_Busy (GoF Tryz.prog) n (rt o K) a0 a1x0 a1x1 o) : Go Tryz.prog n_mirror_Mirror_Busy [a0, .agg [.int .i64 a1x0, .int .i64 a1x1]] o K :=
  Go.of sane (n := n) ((mirror_Mirror_Busy_eq (GoF Tryz.prog) n (rt o K) a0 a1x0 a1x1 o).mpr h)

/-! (*twain/mirror.Mirror).is -/
abbrev mirror_Mirror_is_J3 (call : CallO) (n : Nat) (R : AV → OS → Prop) : List AV → OS → Prop := fun vals0 o1 =>
∃ b2 : Bool, vals0 = [.bool b2] ∧
R (AV.bool b2) o1

abbrev mirror_Mirror_is (call : CallO) (n : Nat) (R : AV → OS → Prop) (a0 : AV) (o : OS) : Prop :=
jp (mirror_Mirror_is_J3 call n R) fun j4 =>
∃ b5 : Bool, nilP2 a0 .nilptr = some b5 ∧
cnd (!b5) (
AV.nnil a0 = true ∧
AV.isP a0 = true ∧
∃ v6 : AV, ldO false 1 (padd 1 a0) o = some (v6) ∧
∃ b7 : Bool, nilP2 v6 .nilptr = some b7 ∧
j4 [.bool (!b7)] o) (
j4 [.bool false] o)

theorem mirror_Mirror_is_eq (call : CallO) (n : Nat) (R : AV → OS → Prop) (a0 : AV) (o : OS) : gFun Tryz.prog call n 18 [a0] o R = mirror_Mirror_is call n R a0 o := by kernel_rfl
theorem mirror_Mirror_is_go (n : Nat) {a0 : AV} {o : OS} {K : AV → OS → Prop} (h : mirror_Mirror_is (GoF Tryz.prog) n (rt o K) a0 o) : Go Tryz.prog n_mirror_Mirror_is [a0] o K :=
  Go.of sane (n := n) ((mirror_Mirror_is_eq (GoF Tryz.prog) n (rt o K) a0 o).mpr h)

end Go.Proofs.YtledkogmmijmcacGreat
