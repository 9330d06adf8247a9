/- T2: functions of the program in the typed form, printed by a program of our own (wip/laws/Print.lean.txt). -/
import Derived.Test.YtlcapliakfomhaaT0
set_option linter.all false
set_option maxRecDepth 100000
set_option autoImplicit false
namespace Go.Proofs.Ytlcapliakfomhaa
open Go Go.Ab
/-! slices.Sort[[]int,int] -/

abbrev slices_Sort__intint (call : CallO) (n : Nat) (R : AV → OS → Prop) (a0 : AV) (o : OS) : Prop :=
AV.isS a0 = true ∧
bnd (IntKind.wrap .u64 (alen a0)) fun x0 =>
call (.func n_math_bits_Len) [.int .u64 x0] o fun v1 o2 =>
∃ x3 : Int, v1 = .int .i64 x3 ∧
call (.func n_slices_pdqsortOrdered_int) [a0, .int .i64 (0 : Int), .int .i64 (alen a0), .int .i64 x3] o2 fun v4 o5 =>
R (AV.tuple []) o5

theorem slices_Sort__intint_eq (call : CallO) (n : Nat) (R : AV → OS → Prop) (a0 : AV) (o : OS) : gFun Try.prog call n 18 [a0] o R = slices_Sort__intint call n R a0 o := by kernel_rfl
theorem slices_Sort__intint_go (n : Nat) {a0 : AV} {o : OS} {K : AV → OS → Prop} (h : slices_Sort__intint (GoF Try.prog) n (rt o K) a0 o) : Go Try.prog n_slices_Sort__intint [a0] o K :=
  Go.of sane (n := n) ((slices_Sort__intint_eq (GoF Try.prog) n (rt o K) a0 o).mpr h)

/-! slices.pdqsortOrdered[int] -/
abbrev slices_pdqsortOrdered_int_J75 (call : CallO) (n : Nat) (R : AV → OS → Prop) (X0 : List AV → OS → Prop) : List AV → OS → Prop := fun vals48 o49 =>
∃ v50 : AV, ∃ x51 : Int, ∃ x52 : Int, ∃ x53 : Int, ∃ b54 : Bool, ∃ b55 : Bool, ∃ x56 : Int, ∃ x57 : Int, ∃ b58 : Bool, vals48 = [v50, .int .i64 x51, .int .i64 x52, .int .i64 x53, .bool b54, .bool b55, .int .i64 x56, .int .i64 x57, .bool b58] ∧
cnd b58 (
call (.func n_slices_partitionEqualOrdered_int) [v50, .int .i64 x51, .int .i64 x52, .int .i64 x57] o49 fun v59 o60 =>
∃ x61 : Int, v59 = .int .i64 x61 ∧
X0 [v50, .int .i64 x61, .int .i64 x52, .int .i64 x53, .bool b54, .bool b55] o60) (
call (.func n_slices_partitionOrdered_int) [v50, .int .i64 x51, .int .i64 x52, .int .i64 x57] o49 fun v62 o63 =>
∃ x64 : Int, ∃ b65 : Bool, v62 = .tuple [.int .i64 x64, .bool b65] ∧
bnd (IntKind.wrap .i64 (x64 - x51)) fun x66 =>
bnd (IntKind.wrap .i64 (x52 - x64)) fun x67 =>
(8 : Int) ≠ 0 ∧
bnd (IntKind.wrap .i64 (Int.tdiv x56 (8 : Int))) fun x68 =>
cnd (decide (x66 < x67)) (
call (.func n_slices_pdqsortOrdered_int) [v50, .int .i64 x51, .int .i64 x64, .int .i64 x53] o63 fun v69 o70 =>
bnd (IntKind.wrap .i64 (x64 + (1 : Int))) fun x71 =>
X0 [v50, .int .i64 x71, .int .i64 x52, .int .i64 x53, .bool (decide (x66 ≥ x68)), .bool b65] o70) (
bnd (IntKind.wrap .i64 (x64 + (1 : Int))) fun x72 =>
call (.func n_slices_pdqsortOrdered_int) [v50, .int .i64 x72, .int .i64 x52, .int .i64 x53] o63 fun v73 o74 =>
X0 [v50, .int .i64 x51, .int .i64 x64, .int .i64 x53, .bool (decide (x67 ≥ x68)), .bool b65] o74))

abbrev slices_pdqsortOrdered_int_J83 (call : CallO) (n : Nat) (R : AV → OS → Prop) (X0 : List AV → OS → Prop) : List AV → OS → Prop := fun vals38 o39 =>
∃ v40 : AV, ∃ x41 : Int, ∃ x42 : Int, ∃ x43 : Int, ∃ b44 : Bool, ∃ b45 : Bool, ∃ x46 : Int, ∃ x47 : Int, vals38 = [v40, .int .i64 x41, .int .i64 x42, .int .i64 x43, .bool b44, .bool b45, .int .i64 x46, .int .i64 x47] ∧
jp (slices_pdqsortOrdered_int_J75 call n R X0) fun j76 =>
cnd (decide (x41 > (0 : Int))) (
bnd (IntKind.wrap .i64 (x41 - (1 : Int))) fun x77 =>
(0 ≤ x77 ∧ x77 < alen v40) ∧
∃ x78 : Int, ldO false 1 (ixp 1 v40 x77) o39 = some (.int .i64 x78) ∧
(0 ≤ x47 ∧ x47 < alen v40) ∧
∃ x79 : Int, ldO false 1 (ixp 1 v40 x47) o39 = some (.int .i64 x79) ∧
call (.func n_cmp_Less_int) [.int .i64 x78, .int .i64 x79] o39 fun v80 o81 =>
∃ b82 : Bool, v80 = .bool b82 ∧
j76 [v40, .int .i64 x41, .int .i64 x42, .int .i64 x43, .bool b44, .bool b45, .int .i64 x46, .int .i64 x47, .bool (!b82)] o81) (
j76 [v40, .int .i64 x41, .int .i64 x42, .int .i64 x43, .bool b44, .bool b45, .int .i64 x46, .int .i64 x47, .bool false] o39)

abbrev slices_pdqsortOrdered_int_J99 (call : CallO) (n : Nat) (R : AV → OS → Prop) (j84 : List AV → OS → Prop) : List AV → OS → Prop := fun vals85 o86 =>
∃ v87 : AV, ∃ x88 : Int, ∃ x89 : Int, ∃ x90 : Int, ∃ b91 : Bool, ∃ b92 : Bool, ∃ x93 : Int, ∃ x94 : Int, ∃ b95 : Bool, vals85 = [v87, .int .i64 x88, .int .i64 x89, .int .i64 x90, .bool b91, .bool b92, .int .i64 x93, .int .i64 x94, .bool b95] ∧
cnd b95 (
call (.func n_slices_partialInsertionSortOrdered_int) [v87, .int .i64 x88, .int .i64 x89] o86 fun v96 o97 =>
∃ b98 : Bool, v96 = .bool b98 ∧
cnd b98 (
R (AV.tuple []) o97) (
j84 [v87, .int .i64 x88, .int .i64 x89, .int .i64 x90, .bool b91, .bool b92, .int .i64 x93, .int .i64 x94] o97)) (
j84 [v87, .int .i64 x88, .int .i64 x89, .int .i64 x90, .bool b91, .bool b92, .int .i64 x93, .int .i64 x94] o86)

abbrev slices_pdqsortOrdered_int_J101 (call : CallO) (n : Nat) (R : AV → OS → Prop) (X0 : List AV → OS → Prop) : List AV → OS → Prop := fun vals27 o28 =>
∃ v29 : AV, ∃ x30 : Int, ∃ x31 : Int, ∃ x32 : Int, ∃ b33 : Bool, ∃ b34 : Bool, ∃ x35 : Int, ∃ x36 : Int, ∃ x37 : Int, vals27 = [v29, .int .i64 x30, .int .i64 x31, .int .i64 x32, .bool b33, .bool b34, .int .i64 x35, .int .i64 x36, .int .i64 x37] ∧
jp (slices_pdqsortOrdered_int_J83 call n R X0) fun j84 =>
jp (slices_pdqsortOrdered_int_J99 call n R j84) fun j100 =>
cnd b33 (
cnd b34 (
j100 [v29, .int .i64 x30, .int .i64 x31, .int .i64 x32, .bool b33, .bool b34, .int .i64 x35, .int .i64 x36, .bool (x37 == (1 : Int))] o28) (
j100 [v29, .int .i64 x30, .int .i64 x31, .int .i64 x32, .bool b33, .bool b34, .int .i64 x35, .int .i64 x36, .bool false] o28)) (
j100 [v29, .int .i64 x30, .int .i64 x31, .int .i64 x32, .bool b33, .bool b34, .int .i64 x35, .int .i64 x36, .bool false] o28)

abbrev slices_pdqsortOrdered_int_J108 (call : CallO) (n : Nat) (R : AV → OS → Prop) (X0 : List AV → OS → Prop) : List AV → OS → Prop := fun vals14 o15 =>
∃ v16 : AV, ∃ x17 : Int, ∃ x18 : Int, ∃ x19 : Int, ∃ b20 : Bool, ∃ b21 : Bool, ∃ x22 : Int, vals14 = [v16, .int .i64 x17, .int .i64 x18, .int .i64 x19, .bool b20, .bool b21, .int .i64 x22] ∧
call (.func n_slices_choosePivotOrdered_int) [v16, .int .i64 x17, .int .i64 x18] o15 fun v23 o24 =>
∃ x25 : Int, ∃ x26 : Int, v23 = .tuple [.int .i64 x25, .int .i64 x26] ∧
jp (slices_pdqsortOrdered_int_J101 call n R X0) fun j102 =>
cnd (x26 == (2 : Int)) (
call (.func n_slices_reverseRangeOrdered_int) [v16, .int .i64 x17, .int .i64 x18] o24 fun v103 o104 =>
bnd (IntKind.wrap .i64 (x18 - (1 : Int))) fun x105 =>
bnd (IntKind.wrap .i64 (x25 - x17)) fun x106 =>
bnd (IntKind.wrap .i64 (x105 - x106)) fun x107 =>
j102 [v16, .int .i64 x17, .int .i64 x18, .int .i64 x19, .bool b20, .bool b21, .int .i64 x22, .int .i64 x107, .int .i64 (1 : Int)] o104) (
j102 [v16, .int .i64 x17, .int .i64 x18, .int .i64 x19, .bool b20, .bool b21, .int .i64 x22, .int .i64 x25, .int .i64 x26] o24)

abbrev slices_pdqsortOrdered_int_L113 (call : CallO) (n : Nat) (R : AV → OS → Prop) : (List AV → OS → Prop) → List AV → OS → Prop := fun X0 vals1 o2 =>
∃ v3 : AV, ∃ x4 : Int, ∃ x5 : Int, ∃ x6 : Int, ∃ b7 : Bool, ∃ b8 : Bool, vals1 = [v3, .int .i64 x4, .int .i64 x5, .int .i64 x6, .bool b7, .bool b8] ∧
bnd (IntKind.wrap .i64 (x5 - x4)) fun x9 =>
cnd (decide (x9 ≤ (12 : Int))) (
call (.func n_slices_insertionSortOrdered_int) [v3, .int .i64 x4, .int .i64 x5] o2 fun v10 o11 =>
R (AV.tuple []) o11) (
cnd (x6 == (0 : Int)) (
call (.func n_slices_heapSortOrdered_int) [v3, .int .i64 x4, .int .i64 x5] o2 fun v12 o13 =>
R (AV.tuple []) o13) (
jp (slices_pdqsortOrdered_int_J108 call n R X0) fun j109 =>
cnd (!b7) (
call (.func n_slices_breakPatternsOrdered_int) [v3, .int .i64 x4, .int .i64 x5] o2 fun v110 o111 =>
bnd (IntKind.wrap .i64 (x6 - (1 : Int))) fun x112 =>
j109 [v3, .int .i64 x4, .int .i64 x5, .int .i64 x112, .bool b7, .bool b8, .int .i64 x9] o111) (
j109 [v3, .int .i64 x4, .int .i64 x5, .int .i64 x6, .bool b7, .bool b8, .int .i64 x9] o2)))

abbrev slices_pdqsortOrdered_int (call : CallO) (n : Nat) (R : AV → OS → Prop) (a0 : AV) (a1 : Int) (a2 : Int) (a3 : Int) (o : OS) : Prop :=
lp n (slices_pdqsortOrdered_int_L113 call n R) [a0, .int .i64 a1, .int .i64 a2, .int .i64 a3, .bool true, .bool true] o

theorem slices_pdqsortOrdered_int_eq (call : CallO) (n : Nat) (R : AV → OS → Prop) (a0 : AV) (a1 : Int) (a2 : Int) (a3 : Int) (o : OS) : gFun Try.prog call n 24 [a0, .int .i64 a1, .int .i64 a2, .int .i64 a3] o R = slices_pdqsortOrdered_int call n R a0 a1 a2 a3 o := by kernel_rfl
theorem slices_pdqsortOrdered_int_go (n : Nat) {a0 : AV} {a1 : Int} {a2 : Int} {a3 : Int} {o : OS} {K : AV → OS → Prop} (h : slices_pdqsortOrdered_int (GoF Try.prog) n (rt o K) a0 a1 a2 a3 o) : Go Try.prog n_slices_pdqsortOrdered_int [a0, .int .i64 a1, .int .i64 a2, .int .i64 a3] o K :=
  Go.of sane (n := n) ((slices_pdqsortOrdered_int_eq (GoF Try.prog) n (rt o K) a0 a1 a2 a3 o).mpr h)

/-! math/bits.Len -/

abbrev math_bits_Len (call : CallO) (n : Nat) (R : AV → OS → Prop) (a0 : Int) (o : OS) : Prop :=
call (.func n_math_bits_Len64) [.int .u64 a0] o fun v0 o1 =>
∃ x2 : Int, v0 = .int .i64 x2 ∧
R (AV.int .i64 x2) o1

theorem math_bits_Len_eq (call : CallO) (n : Nat) (R : AV → OS → Prop) (a0 : Int) (o : OS) : gFun Try.prog call n 25 [.int .u64 a0] o R = math_bits_Len call n R a0 o := by kernel_rfl
theorem math_bits_Len_go (n : Nat) {a0 : Int} {o : OS} {K : AV → OS → Prop} (h : math_bits_Len (GoF Try.prog) n (rt o K) a0 o) : Go Try.prog n_math_bits_Len [.int .u64 a0] o K :=
  Go.of sane (n := n) ((math_bits_Len_eq (GoF Try.prog) n (rt o K) a0 o).mpr h)

/-! slices.insertionSortOrdered[int] -/
abbrev slices_insertionSortOrdered_int_J15 (call : CallO) (n : Nat) (R : AV → OS → Prop) (X1 : List AV → OS → Prop) : List AV → OS → Prop := fun vals8 o9 =>
∃ v10 : AV, ∃ x11 : Int, ∃ x12 : Int, ∃ x13 : Int, vals8 = [v10, .int .i64 x11, .int .i64 x12, .int .i64 x13] ∧
bnd (IntKind.wrap .i64 (x13 + (1 : Int))) fun x14 =>
X1 [v10, .int .i64 x11, .int .i64 x12, .int .i64 x14] o9

abbrev slices_insertionSortOrdered_int_J40 (call : CallO) (n : Nat) (R : AV → OS → Prop) (X17 : List AV → OS → Prop) (j16 : List AV → OS → Prop) : List AV → OS → Prop := fun vals25 o26 =>
∃ v27 : AV, ∃ x28 : Int, ∃ x29 : Int, ∃ x30 : Int, ∃ x31 : Int, ∃ b32 : Bool, vals25 = [v27, .int .i64 x28, .int .i64 x29, .int .i64 x30, .int .i64 x31, .bool b32] ∧
cnd b32 (
bnd (IntKind.wrap .i64 (x31 - (1 : Int))) fun x33 =>
bnd (IntKind.wrap .i64 (x31 - (1 : Int))) fun x34 =>
(0 ≤ x34 ∧ x34 < alen v27) ∧
∃ x35 : Int, ldO false 1 (ixp 1 v27 x34) o26 = some (.int .i64 x35) ∧
(0 ≤ x31 ∧ x31 < alen v27) ∧
∃ x36 : Int, ldO false 1 (ixp 1 v27 x31) o26 = some (.int .i64 x36) ∧
(0 ≤ x31 ∧ x31 < alen v27) ∧
∃ o37 : OS, stO (ixp 1 v27 x31) [.int .i64 x35] o26 = some o37 ∧
(0 ≤ x33 ∧ x33 < alen v27) ∧
∃ o38 : OS, stO (ixp 1 v27 x33) [.int .i64 x36] o37 = some o38 ∧
bnd (IntKind.wrap .i64 (x31 - (1 : Int))) fun x39 =>
X17 [v27, .int .i64 x28, .int .i64 x29, .int .i64 x30, .int .i64 x39] o38) (
j16 [v27, .int .i64 x28, .int .i64 x29, .int .i64 x30] o26)

abbrev slices_insertionSortOrdered_int_L48 (call : CallO) (n : Nat) (R : AV → OS → Prop) (j16 : List AV → OS → Prop) : (List AV → OS → Prop) → List AV → OS → Prop := fun X17 vals18 o19 =>
∃ v20 : AV, ∃ x21 : Int, ∃ x22 : Int, ∃ x23 : Int, ∃ x24 : Int, vals18 = [v20, .int .i64 x21, .int .i64 x22, .int .i64 x23, .int .i64 x24] ∧
jp (slices_insertionSortOrdered_int_J40 call n R X17 j16) fun j41 =>
cnd (decide (x24 > x21)) (
(0 ≤ x24 ∧ x24 < alen v20) ∧
∃ x42 : Int, ldO false 1 (ixp 1 v20 x24) o19 = some (.int .i64 x42) ∧
bnd (IntKind.wrap .i64 (x24 - (1 : Int))) fun x43 =>
(0 ≤ x43 ∧ x43 < alen v20) ∧
∃ x44 : Int, ldO false 1 (ixp 1 v20 x43) o19 = some (.int .i64 x44) ∧
call (.func n_cmp_Less_int) [.int .i64 x42, .int .i64 x44] o19 fun v45 o46 =>
∃ b47 : Bool, v45 = .bool b47 ∧
j41 [v20, .int .i64 x21, .int .i64 x22, .int .i64 x23, .int .i64 x24, .bool b47] o46) (
j41 [v20, .int .i64 x21, .int .i64 x22, .int .i64 x23, .int .i64 x24, .bool false] o19)

abbrev slices_insertionSortOrdered_int_L49 (call : CallO) (n : Nat) (R : AV → OS → Prop) : (List AV → OS → Prop) → List AV → OS → Prop := fun X1 vals2 o3 =>
∃ v4 : AV, ∃ x5 : Int, ∃ x6 : Int, ∃ x7 : Int, vals2 = [v4, .int .i64 x5, .int .i64 x6, .int .i64 x7] ∧
cnd (decide (x7 < x6)) (
jp (slices_insertionSortOrdered_int_J15 call n R X1) fun j16 =>
lp n (slices_insertionSortOrdered_int_L48 call n R j16) [v4, .int .i64 x5, .int .i64 x6, .int .i64 x7, .int .i64 x7] o3) (
R (AV.tuple []) o3)

abbrev slices_insertionSortOrdered_int (call : CallO) (n : Nat) (R : AV → OS → Prop) (a0 : AV) (a1 : Int) (a2 : Int) (o : OS) : Prop :=
bnd (IntKind.wrap .i64 (a1 + (1 : Int))) fun x0 =>
lp n (slices_insertionSortOrdered_int_L49 call n R) [a0, .int .i64 a1, .int .i64 a2, .int .i64 x0] o

theorem slices_insertionSortOrdered_int_eq (call : CallO) (n : Nat) (R : AV → OS → Prop) (a0 : AV) (a1 : Int) (a2 : Int) (o : OS) : gFun Try.prog call n 28 [a0, .int .i64 a1, .int .i64 a2] o R = slices_insertionSortOrdered_int call n R a0 a1 a2 o := by kernel_rfl
theorem slices_insertionSortOrdered_int_go (n : Nat) {a0 : AV} {a1 : Int} {a2 : Int} {o : OS} {K : AV → OS → Prop} (h : slices_insertionSortOrdered_int (GoF Try.prog) n (rt o K) a0 a1 a2 o) : Go Try.prog n_slices_insertionSortOrdered_int [a0, .int .i64 a1, .int .i64 a2] o K :=
  Go.of sane (n := n) ((slices_insertionSortOrdered_int_eq (GoF Try.prog) n (rt o K) a0 a1 a2 o).mpr h)

/-! slices.heapSortOrdered[int] -/
abbrev slices_heapSortOrdered_int_L24 (call : CallO) (n : Nat) (R : AV → OS → Prop) : (List AV → OS → Prop) → List AV → OS → Prop := fun X8 vals9 o10 =>
∃ v11 : AV, ∃ x12 : Int, ∃ x13 : Int, ∃ x14 : Int, vals9 = [v11, .int .i64 x12, .int .i64 x13, .int .i64 x14] ∧
cnd (decide (x14 ≥ (0 : Int))) (
bnd (IntKind.wrap .i64 (x12 + x14)) fun x15 =>
bnd (IntKind.wrap .i64 (x12 + x14)) fun x16 =>
(0 ≤ x16 ∧ x16 < alen v11) ∧
∃ x17 : Int, ldO false 1 (ixp 1 v11 x16) o10 = some (.int .i64 x17) ∧
(0 ≤ x12 ∧ x12 < alen v11) ∧
∃ x18 : Int, ldO false 1 (ixp 1 v11 x12) o10 = some (.int .i64 x18) ∧
(0 ≤ x12 ∧ x12 < alen v11) ∧
∃ o19 : OS, stO (ixp 1 v11 x12) [.int .i64 x17] o10 = some o19 ∧
(0 ≤ x15 ∧ x15 < alen v11) ∧
∃ o20 : OS, stO (ixp 1 v11 x15) [.int .i64 x18] o19 = some o20 ∧
call (.func n_slices_siftDownOrdered_int) [v11, .int .i64 x13, .int .i64 x14, .int .i64 x12] o20 fun v21 o22 =>
bnd (IntKind.wrap .i64 (x14 - (1 : Int))) fun x23 =>
X8 [v11, .int .i64 x12, .int .i64 x13, .int .i64 x23] o22) (
R (AV.tuple []) o10)

abbrev slices_heapSortOrdered_int_J25 (call : CallO) (n : Nat) (R : AV → OS → Prop) : List AV → OS → Prop := fun vals1 o2 =>
∃ v3 : AV, ∃ x4 : Int, ∃ x5 : Int, ∃ x6 : Int, vals1 = [v3, .int .i64 x4, .int .i64 x5, .int .i64 x6] ∧
bnd (IntKind.wrap .i64 (x6 - (1 : Int))) fun x7 =>
lp n (slices_heapSortOrdered_int_L24 call n R) [v3, .int .i64 x4, .int .i64 x5, .int .i64 x7] o2

abbrev slices_heapSortOrdered_int_L40 (call : CallO) (n : Nat) (R : AV → OS → Prop) (j26 : List AV → OS → Prop) : (List AV → OS → Prop) → List AV → OS → Prop := fun X29 vals30 o31 =>
∃ v32 : AV, ∃ x33 : Int, ∃ x34 : Int, ∃ x35 : Int, ∃ x36 : Int, vals30 = [v32, .int .i64 x33, .int .i64 x34, .int .i64 x35, .int .i64 x36] ∧
cnd (decide (x36 ≥ (0 : Int))) (
call (.func n_slices_siftDownOrdered_int) [v32, .int .i64 x36, .int .i64 x35, .int .i64 x33] o31 fun v37 o38 =>
bnd (IntKind.wrap .i64 (x36 - (1 : Int))) fun x39 =>
X29 [v32, .int .i64 x33, .int .i64 x34, .int .i64 x35, .int .i64 x39] o38) (
j26 [v32, .int .i64 x33, .int .i64 x34, .int .i64 x35] o31)

abbrev slices_heapSortOrdered_int (call : CallO) (n : Nat) (R : AV → OS → Prop) (a0 : AV) (a1 : Int) (a2 : Int) (o : OS) : Prop :=
bnd (IntKind.wrap .i64 (a2 - a1)) fun x0 =>
jp (slices_heapSortOrdered_int_J25 call n R) fun j26 =>
bnd (IntKind.wrap .i64 (x0 - (1 : Int))) fun x27 =>
(2 : Int) ≠ 0 ∧
bnd (IntKind.wrap .i64 (Int.tdiv x27 (2 : Int))) fun x28 =>
lp n (slices_heapSortOrdered_int_L40 call n R j26) [a0, .int .i64 a1, .int .i64 (0 : Int), .int .i64 x0, .int .i64 x28] o

theorem slices_heapSortOrdered_int_eq (call : CallO) (n : Nat) (R : AV → OS → Prop) (a0 : AV) (a1 : Int) (a2 : Int) (o : OS) : gFun Try.prog call n 29 [a0, .int .i64 a1, .int .i64 a2] o R = slices_heapSortOrdered_int call n R a0 a1 a2 o := by kernel_rfl
theorem slices_heapSortOrdered_int_go (n : Nat) {a0 : AV} {a1 : Int} {a2 : Int} {o : OS} {K : AV → OS → Prop} (h : slices_heapSortOrdered_int (GoF Try.prog) n (rt o K) a0 a1 a2 o) : Go Try.prog n_slices_heapSortOrdered_int [a0, .int .i64 a1, .int .i64 a2] o K :=
  Go.of sane (n := n) ((slices_heapSortOrdered_int_eq (GoF Try.prog) n (rt o K) a0 a1 a2 o).mpr h)

/-! slices.breakPatternsOrdered[int] -/
abbrev slices_breakPatternsOrdered_int_J46 (call : CallO) (n : Nat) (R : AV → OS → Prop) (X11 : List AV → OS → Prop) : List AV → OS → Prop := fun vals30 o31 =>
∃ v32 : AV, ∃ x33 : Int, ∃ x34 : Int, ∃ v35 : AV, ∃ x36 : Int, ∃ x37 : Int, ∃ x38 : Int, vals30 = [v32, .int .i64 x33, .int .i64 x34, v35, .int .u64 x36, .int .i64 x37, .int .i64 x38] ∧
bnd (IntKind.wrap .i64 (x33 + x38)) fun x39 =>
bnd (IntKind.wrap .i64 (x33 + x38)) fun x40 =>
(0 ≤ x40 ∧ x40 < alen v32) ∧
∃ x41 : Int, ldO false 1 (ixp 1 v32 x40) o31 = some (.int .i64 x41) ∧
(0 ≤ x37 ∧ x37 < alen v32) ∧
∃ x42 : Int, ldO false 1 (ixp 1 v32 x37) o31 = some (.int .i64 x42) ∧
(0 ≤ x37 ∧ x37 < alen v32) ∧
∃ o43 : OS, stO (ixp 1 v32 x37) [.int .i64 x41] o31 = some o43 ∧
(0 ≤ x39 ∧ x39 < alen v32) ∧
∃ o44 : OS, stO (ixp 1 v32 x39) [.int .i64 x42] o43 = some o44 ∧
bnd (IntKind.wrap .i64 (x37 + (1 : Int))) fun x45 =>
X11 [v32, .int .i64 x33, .int .i64 x34, v35, .int .u64 x36, .int .i64 x45] o44

abbrev slices_breakPatternsOrdered_int_L49 (call : CallO) (n : Nat) (R : AV → OS → Prop) : (List AV → OS → Prop) → List AV → OS → Prop := fun X11 vals12 o13 =>
∃ v14 : AV, ∃ x15 : Int, ∃ x16 : Int, ∃ v17 : AV, ∃ x18 : Int, ∃ x19 : Int, vals12 = [v14, .int .i64 x15, .int .i64 x16, v17, .int .u64 x18, .int .i64 x19] ∧
(4 : Int) ≠ 0 ∧
bnd (IntKind.wrap .i64 (Int.tdiv x16 (4 : Int))) fun x20 =>
bnd (IntKind.wrap .i64 (x20 * (2 : Int))) fun x21 =>
bnd (IntKind.wrap .i64 (x15 + x21)) fun x22 =>
bnd (IntKind.wrap .i64 (x22 + (1 : Int))) fun x23 =>
cnd (decide (x19 ≤ x23)) (
call (.func n_slices_xorshift_Next) [v17] o13 fun v24 o25 =>
∃ x26 : Int, v24 = .int .u64 x26 ∧
bnd (IntKind.wrap .u64 (x18 - (1 : Int))) fun x27 =>
bnd (IntKind.wrap .u64 (BitVec.toNat (BitVec.ofInt (IntKind.bits .u64) x26 &&& BitVec.ofInt (IntKind.bits .u64) x27))) fun x28 =>
bnd (IntKind.wrap .i64 x28) fun x29 =>
jp (slices_breakPatternsOrdered_int_J46 call n R X11) fun j47 =>
cnd (decide (x29 ≥ x16)) (
bnd (IntKind.wrap .i64 (x29 - x16)) fun x48 =>
j47 [v14, .int .i64 x15, .int .i64 x16, v17, .int .u64 x18, .int .i64 x19, .int .i64 x48] o25) (
j47 [v14, .int .i64 x15, .int .i64 x16, v17, .int .u64 x18, .int .i64 x19, .int .i64 x29] o25)) (
R (AV.tuple []) o13)

abbrev slices_breakPatternsOrdered_int (call : CallO) (n : Nat) (R : AV → OS → Prop) (a0 : AV) (a1 : Int) (a2 : Int) (o : OS) : Prop :=
bnd (IntKind.wrap .i64 (a2 - a1)) fun x0 =>
cnd (decide (x0 ≥ (8 : Int))) (
bnd (IntKind.wrap .u64 x0) fun x1 =>
bnd (o ++ [AO.cells true [.int .u64 (0 : Int)]]) fun o2 =>
∃ o3 : OS, stO (AV.ptr (List.length o) 0) [.int .u64 x1] o2 = some o3 ∧
call (.func n_slices_nextPowerOfTwo) [.int .i64 x0] o3 fun v4 o5 =>
∃ x6 : Int, v4 = .int .u64 x6 ∧
(4 : Int) ≠ 0 ∧
bnd (IntKind.wrap .i64 (Int.tdiv x0 (4 : Int))) fun x7 =>
bnd (IntKind.wrap .i64 (x7 * (2 : Int))) fun x8 =>
bnd (IntKind.wrap .i64 (a1 + x8)) fun x9 =>
bnd (IntKind.wrap .i64 (x9 - (1 : Int))) fun x10 =>
lp n (slices_breakPatternsOrdered_int_L49 call n R) [a0, .int .i64 a1, .int .i64 x0, (AV.ptr (List.length o) 0), .int .u64 x6, .int .i64 x10] o5) (
R (AV.tuple []) o)

theorem slices_breakPatternsOrdered_int_eq (call : CallO) (n : Nat) (R : AV → OS → Prop) (a0 : AV) (a1 : Int) (a2 : Int) (o : OS) : gFun Try.prog call n 30 [a0, .int .i64 a1, .int .i64 a2] o R = slices_breakPatternsOrdered_int call n R a0 a1 a2 o := by kernel_rfl
theorem slices_breakPatternsOrdered_int_go (n : Nat) {a0 : AV} {a1 : Int} {a2 : Int} {o : OS} {K : AV → OS → Prop} (h : slices_breakPatternsOrdered_int (GoF Try.prog) n (rt o K) a0 a1 a2 o) : Go Try.prog n_slices_breakPatternsOrdered_int [a0, .int .i64 a1, .int .i64 a2] o K :=
  Go.of sane (n := n) ((slices_breakPatternsOrdered_int_eq (GoF Try.prog) n (rt o K) a0 a1 a2 o).mpr h)

/-! slices.choosePivotOrdered[int] -/
abbrev slices_choosePivotOrdered_int_J16 (call : CallO) (n : Nat) (R : AV → OS → Prop) : List AV → OS → Prop := fun vals11 o12 =>
∃ v13 : AV, ∃ x14 : Int, vals11 = [v13, .int .i64 x14] ∧
∃ x15 : Int, ldO false 1 v13 o12 = some (.int .i64 x15) ∧
cnd (x15 == (0 : Int)) (
R (AV.tuple [.int .i64 x14, .int .i64 (1 : Int)]) o12) (
cnd (x15 == (12 : Int)) (
R (AV.tuple [.int .i64 x14, .int .i64 (2 : Int)]) o12) (
R (AV.tuple [.int .i64 x14, .int .i64 (0 : Int)]) o12))

abbrev slices_choosePivotOrdered_int_J28 (call : CallO) (n : Nat) (R : AV → OS → Prop) (j17 : List AV → OS → Prop) : List AV → OS → Prop := fun vals18 o19 =>
∃ v20 : AV, ∃ v21 : AV, ∃ x22 : Int, ∃ x23 : Int, ∃ x24 : Int, vals18 = [v20, v21, .int .i64 x22, .int .i64 x23, .int .i64 x24] ∧
call (.func n_slices_medianOrdered_int) [v20, .int .i64 x22, .int .i64 x23, .int .i64 x24, v21] o19 fun v25 o26 =>
∃ x27 : Int, v25 = .int .i64 x27 ∧
j17 [v21, .int .i64 x27] o26

abbrev slices_choosePivotOrdered_int (call : CallO) (n : Nat) (R : AV → OS → Prop) (a0 : AV) (a1 : Int) (a2 : Int) (o : OS) : Prop :=
bnd (IntKind.wrap .i64 (a2 - a1)) fun x0 =>
bnd (o ++ [AO.cells true [.int .i64 (0 : Int)]]) fun o1 =>
(4 : Int) ≠ 0 ∧
bnd (IntKind.wrap .i64 (Int.tdiv x0 (4 : Int))) fun x2 =>
bnd (IntKind.wrap .i64 (x2 * (1 : Int))) fun x3 =>
bnd (IntKind.wrap .i64 (a1 + x3)) fun x4 =>
(4 : Int) ≠ 0 ∧
bnd (IntKind.wrap .i64 (Int.tdiv x0 (4 : Int))) fun x5 =>
bnd (IntKind.wrap .i64 (x5 * (2 : Int))) fun x6 =>
bnd (IntKind.wrap .i64 (a1 + x6)) fun x7 =>
(4 : Int) ≠ 0 ∧
bnd (IntKind.wrap .i64 (Int.tdiv x0 (4 : Int))) fun x8 =>
bnd (IntKind.wrap .i64 (x8 * (3 : Int))) fun x9 =>
bnd (IntKind.wrap .i64 (a1 + x9)) fun x10 =>
jp (slices_choosePivotOrdered_int_J16 call n R) fun j17 =>
cnd (decide (x0 ≥ (8 : Int))) (
jp (slices_choosePivotOrdered_int_J28 call n R j17) fun j29 =>
cnd (decide (x0 ≥ (50 : Int))) (
call (.func n_slices_medianAdjacentOrdered_int) [a0, .int .i64 x4, (AV.ptr (List.length o) 0)] o1 fun v30 o31 =>
∃ x32 : Int, v30 = .int .i64 x32 ∧
call (.func n_slices_medianAdjacentOrdered_int) [a0, .int .i64 x7, (AV.ptr (List.length o) 0)] o31 fun v33 o34 =>
∃ x35 : Int, v33 = .int .i64 x35 ∧
call (.func n_slices_medianAdjacentOrdered_int) [a0, .int .i64 x10, (AV.ptr (List.length o) 0)] o34 fun v36 o37 =>
∃ x38 : Int, v36 = .int .i64 x38 ∧
j29 [a0, (AV.ptr (List.length o) 0), .int .i64 x32, .int .i64 x35, .int .i64 x38] o37) (
j29 [a0, (AV.ptr (List.length o) 0), .int .i64 x4, .int .i64 x7, .int .i64 x10] o1)) (
j17 [(AV.ptr (List.length o) 0), .int .i64 x7] o1)

theorem slices_choosePivotOrdered_int_eq (call : CallO) (n : Nat) (R : AV → OS → Prop) (a0 : AV) (a1 : Int) (a2 : Int) (o : OS) : gFun Try.prog call n 31 [a0, .int .i64 a1, .int .i64 a2] o R = slices_choosePivotOrdered_int call n R a0 a1 a2 o := by kernel_rfl
theorem slices_choosePivotOrdered_int_go (n : Nat) {a0 : AV} {a1 : Int} {a2 : Int} {o : OS} {K : AV → OS → Prop} (h : slices_choosePivotOrdered_int (GoF Try.prog) n (rt o K) a0 a1 a2 o) : Go Try.prog n_slices_choosePivotOrdered_int [a0, .int .i64 a1, .int .i64 a2] o K :=
  Go.of sane (n := n) ((slices_choosePivotOrdered_int_eq (GoF Try.prog) n (rt o K) a0 a1 a2 o).mpr h)

/-! slices.reverseRangeOrdered[int] -/
abbrev slices_reverseRangeOrdered_int_L13 (call : CallO) (n : Nat) (R : AV → OS → Prop) : (List AV → OS → Prop) → List AV → OS → Prop := fun X1 vals2 o3 =>
∃ v4 : AV, ∃ x5 : Int, ∃ x6 : Int, vals2 = [v4, .int .i64 x5, .int .i64 x6] ∧
cnd (decide (x5 < x6)) (
(0 ≤ x6 ∧ x6 < alen v4) ∧
∃ x7 : Int, ldO false 1 (ixp 1 v4 x6) o3 = some (.int .i64 x7) ∧
(0 ≤ x5 ∧ x5 < alen v4) ∧
∃ x8 : Int, ldO false 1 (ixp 1 v4 x5) o3 = some (.int .i64 x8) ∧
(0 ≤ x5 ∧ x5 < alen v4) ∧
∃ o9 : OS, stO (ixp 1 v4 x5) [.int .i64 x7] o3 = some o9 ∧
(0 ≤ x6 ∧ x6 < alen v4) ∧
∃ o10 : OS, stO (ixp 1 v4 x6) [.int .i64 x8] o9 = some o10 ∧
bnd (IntKind.wrap .i64 (x5 + (1 : Int))) fun x11 =>
bnd (IntKind.wrap .i64 (x6 - (1 : Int))) fun x12 =>
X1 [v4, .int .i64 x11, .int .i64 x12] o10) (
R (AV.tuple []) o3)

abbrev slices_reverseRangeOrdered_int (call : CallO) (n : Nat) (R : AV → OS → Prop) (a0 : AV) (a1 : Int) (a2 : Int) (o : OS) : Prop :=
bnd (IntKind.wrap .i64 (a2 - (1 : Int))) fun x0 =>
lp n (slices_reverseRangeOrdered_int_L13 call n R) [a0, .int .i64 a1, .int .i64 x0] o

theorem slices_reverseRangeOrdered_int_eq (call : CallO) (n : Nat) (R : AV → OS → Prop) (a0 : AV) (a1 : Int) (a2 : Int) (o : OS) : gFun Try.prog call n 32 [a0, .int .i64 a1, .int .i64 a2] o R = slices_reverseRangeOrdered_int call n R a0 a1 a2 o := by kernel_rfl
theorem slices_reverseRangeOrdered_int_go (n : Nat) {a0 : AV} {a1 : Int} {a2 : Int} {o : OS} {K : AV → OS → Prop} (h : slices_reverseRangeOrdered_int (GoF Try.prog) n (rt o K) a0 a1 a2 o) : Go Try.prog n_slices_reverseRangeOrdered_int [a0, .int .i64 a1, .int .i64 a2] o K :=
  Go.of sane (n := n) ((slices_reverseRangeOrdered_int_eq (GoF Try.prog) n (rt o K) a0 a1 a2 o).mpr h)

/-! slices.partialInsertionSortOrdered[int] -/
abbrev slices_partialInsertionSortOrdered_int_J3 (call : CallO) (n : Nat) (R : AV → OS → Prop) : List AV → OS → Prop := fun vals1 o2 =>
vals1 = [] ∧
R (AV.bool false) o2

abbrev slices_partialInsertionSortOrdered_int_J21 (call : CallO) (n : Nat) (R : AV → OS → Prop) (X5 : List AV → OS → Prop) : List AV → OS → Prop := fun vals13 o14 =>
∃ v15 : AV, ∃ x16 : Int, ∃ x17 : Int, ∃ x18 : Int, ∃ x19 : Int, vals13 = [v15, .int .i64 x16, .int .i64 x17, .int .i64 x18, .int .i64 x19] ∧
bnd (IntKind.wrap .i64 (x19 + (1 : Int))) fun x20 =>
X5 [v15, .int .i64 x16, .int .i64 x17, .int .i64 x18, .int .i64 x20] o14

abbrev slices_partialInsertionSortOrdered_int_L68 (call : CallO) (n : Nat) (R : AV → OS → Prop) (j22 : List AV → OS → Prop) : (List AV → OS → Prop) → List AV → OS → Prop := fun X46 vals47 o48 =>
∃ v49 : AV, ∃ x50 : Int, ∃ x51 : Int, ∃ x52 : Int, ∃ x53 : Int, ∃ x54 : Int, vals47 = [v49, .int .i64 x50, .int .i64 x51, .int .i64 x52, .int .i64 x53, .int .i64 x54] ∧
cnd (decide (x54 < x51)) (
(0 ≤ x54 ∧ x54 < alen v49) ∧
∃ x55 : Int, ldO false 1 (ixp 1 v49 x54) o48 = some (.int .i64 x55) ∧
bnd (IntKind.wrap .i64 (x54 - (1 : Int))) fun x56 =>
(0 ≤ x56 ∧ x56 < alen v49) ∧
∃ x57 : Int, ldO false 1 (ixp 1 v49 x56) o48 = some (.int .i64 x57) ∧
call (.func n_cmp_Less_int) [.int .i64 x55, .int .i64 x57] o48 fun v58 o59 =>
∃ b60 : Bool, v58 = .bool b60 ∧
cnd (!b60) (
j22 [v49, .int .i64 x50, .int .i64 x51, .int .i64 x52, .int .i64 x53] o59) (
bnd (IntKind.wrap .i64 (x54 - (1 : Int))) fun x61 =>
bnd (IntKind.wrap .i64 (x54 - (1 : Int))) fun x62 =>
(0 ≤ x62 ∧ x62 < alen v49) ∧
∃ x63 : Int, ldO false 1 (ixp 1 v49 x62) o59 = some (.int .i64 x63) ∧
(0 ≤ x54 ∧ x54 < alen v49) ∧
∃ x64 : Int, ldO false 1 (ixp 1 v49 x54) o59 = some (.int .i64 x64) ∧
(0 ≤ x54 ∧ x54 < alen v49) ∧
∃ o65 : OS, stO (ixp 1 v49 x54) [.int .i64 x63] o59 = some o65 ∧
(0 ≤ x61 ∧ x61 < alen v49) ∧
∃ o66 : OS, stO (ixp 1 v49 x61) [.int .i64 x64] o65 = some o66 ∧
bnd (IntKind.wrap .i64 (x54 + (1 : Int))) fun x67 =>
X46 [v49, .int .i64 x50, .int .i64 x51, .int .i64 x52, .int .i64 x53, .int .i64 x67] o66)) (
j22 [v49, .int .i64 x50, .int .i64 x51, .int .i64 x52, .int .i64 x53] o48)

abbrev slices_partialInsertionSortOrdered_int_J69 (call : CallO) (n : Nat) (R : AV → OS → Prop) (j22 : List AV → OS → Prop) : List AV → OS → Prop := fun vals37 o38 =>
∃ v39 : AV, ∃ x40 : Int, ∃ x41 : Int, ∃ x42 : Int, ∃ x43 : Int, vals37 = [v39, .int .i64 x40, .int .i64 x41, .int .i64 x42, .int .i64 x43] ∧
bnd (IntKind.wrap .i64 (x41 - x42)) fun x44 =>
cnd (decide (x44 ≥ (2 : Int))) (
bnd (IntKind.wrap .i64 (x42 + (1 : Int))) fun x45 =>
lp n (slices_partialInsertionSortOrdered_int_L68 call n R j22) [v39, .int .i64 x40, .int .i64 x41, .int .i64 x42, .int .i64 x43, .int .i64 x45] o38) (
j22 [v39, .int .i64 x40, .int .i64 x41, .int .i64 x42, .int .i64 x43] o38)

abbrev slices_partialInsertionSortOrdered_int_L95 (call : CallO) (n : Nat) (R : AV → OS → Prop) (j70 : List AV → OS → Prop) : (List AV → OS → Prop) → List AV → OS → Prop := fun X73 vals74 o75 =>
∃ v76 : AV, ∃ x77 : Int, ∃ x78 : Int, ∃ x79 : Int, ∃ x80 : Int, ∃ x81 : Int, vals74 = [v76, .int .i64 x77, .int .i64 x78, .int .i64 x79, .int .i64 x80, .int .i64 x81] ∧
cnd (decide (x81 ≥ (1 : Int))) (
(0 ≤ x81 ∧ x81 < alen v76) ∧
∃ x82 : Int, ldO false 1 (ixp 1 v76 x81) o75 = some (.int .i64 x82) ∧
bnd (IntKind.wrap .i64 (x81 - (1 : Int))) fun x83 =>
(0 ≤ x83 ∧ x83 < alen v76) ∧
∃ x84 : Int, ldO false 1 (ixp 1 v76 x83) o75 = some (.int .i64 x84) ∧
call (.func n_cmp_Less_int) [.int .i64 x82, .int .i64 x84] o75 fun v85 o86 =>
∃ b87 : Bool, v85 = .bool b87 ∧
cnd (!b87) (
j70 [v76, .int .i64 x77, .int .i64 x78, .int .i64 x79, .int .i64 x80] o86) (
bnd (IntKind.wrap .i64 (x81 - (1 : Int))) fun x88 =>
bnd (IntKind.wrap .i64 (x81 - (1 : Int))) fun x89 =>
(0 ≤ x89 ∧ x89 < alen v76) ∧
∃ x90 : Int, ldO false 1 (ixp 1 v76 x89) o86 = some (.int .i64 x90) ∧
(0 ≤ x81 ∧ x81 < alen v76) ∧
∃ x91 : Int, ldO false 1 (ixp 1 v76 x81) o86 = some (.int .i64 x91) ∧
(0 ≤ x81 ∧ x81 < alen v76) ∧
∃ o92 : OS, stO (ixp 1 v76 x81) [.int .i64 x90] o86 = some o92 ∧
(0 ≤ x88 ∧ x88 < alen v76) ∧
∃ o93 : OS, stO (ixp 1 v76 x88) [.int .i64 x91] o92 = some o93 ∧
bnd (IntKind.wrap .i64 (x81 - (1 : Int))) fun x94 =>
X73 [v76, .int .i64 x77, .int .i64 x78, .int .i64 x79, .int .i64 x80, .int .i64 x94] o93)) (
j70 [v76, .int .i64 x77, .int .i64 x78, .int .i64 x79, .int .i64 x80] o75)

abbrev slices_partialInsertionSortOrdered_int_J96 (call : CallO) (n : Nat) (R : AV → OS → Prop) (j22 : List AV → OS → Prop) : List AV → OS → Prop := fun vals23 o24 =>
∃ v25 : AV, ∃ x26 : Int, ∃ x27 : Int, ∃ x28 : Int, ∃ x29 : Int, vals23 = [v25, .int .i64 x26, .int .i64 x27, .int .i64 x28, .int .i64 x29] ∧
cnd (x28 == x27) (
R (AV.bool true) o24) (
bnd (IntKind.wrap .i64 (x27 - x26)) fun x30 =>
cnd (decide (x30 < (50 : Int))) (
R (AV.bool false) o24) (
bnd (IntKind.wrap .i64 (x28 - (1 : Int))) fun x31 =>
bnd (IntKind.wrap .i64 (x28 - (1 : Int))) fun x32 =>
(0 ≤ x32 ∧ x32 < alen v25) ∧
∃ x33 : Int, ldO false 1 (ixp 1 v25 x32) o24 = some (.int .i64 x33) ∧
(0 ≤ x28 ∧ x28 < alen v25) ∧
∃ x34 : Int, ldO false 1 (ixp 1 v25 x28) o24 = some (.int .i64 x34) ∧
(0 ≤ x28 ∧ x28 < alen v25) ∧
∃ o35 : OS, stO (ixp 1 v25 x28) [.int .i64 x33] o24 = some o35 ∧
(0 ≤ x31 ∧ x31 < alen v25) ∧
∃ o36 : OS, stO (ixp 1 v25 x31) [.int .i64 x34] o35 = some o36 ∧
jp (slices_partialInsertionSortOrdered_int_J69 call n R j22) fun j70 =>
bnd (IntKind.wrap .i64 (x28 - x26)) fun x71 =>
cnd (decide (x71 ≥ (2 : Int))) (
bnd (IntKind.wrap .i64 (x28 - (1 : Int))) fun x72 =>
lp n (slices_partialInsertionSortOrdered_int_L95 call n R j70) [v25, .int .i64 x26, .int .i64 x27, .int .i64 x28, .int .i64 x29, .int .i64 x72] o36) (
j70 [v25, .int .i64 x26, .int .i64 x27, .int .i64 x28, .int .i64 x29] o36)))

abbrev slices_partialInsertionSortOrdered_int_J115 (call : CallO) (n : Nat) (R : AV → OS → Prop) (X98 : List AV → OS → Prop) (j97 : List AV → OS → Prop) : List AV → OS → Prop := fun vals106 o107 =>
∃ v108 : AV, ∃ x109 : Int, ∃ x110 : Int, ∃ x111 : Int, ∃ x112 : Int, ∃ b113 : Bool, vals106 = [v108, .int .i64 x109, .int .i64 x110, .int .i64 x111, .int .i64 x112, .bool b113] ∧
cnd b113 (
bnd (IntKind.wrap .i64 (x111 + (1 : Int))) fun x114 =>
X98 [v108, .int .i64 x109, .int .i64 x110, .int .i64 x114, .int .i64 x112] o107) (
j97 [v108, .int .i64 x109, .int .i64 x110, .int .i64 x111, .int .i64 x112] o107)

abbrev slices_partialInsertionSortOrdered_int_L123 (call : CallO) (n : Nat) (R : AV → OS → Prop) (j97 : List AV → OS → Prop) : (List AV → OS → Prop) → List AV → OS → Prop := fun X98 vals99 o100 =>
∃ v101 : AV, ∃ x102 : Int, ∃ x103 : Int, ∃ x104 : Int, ∃ x105 : Int, vals99 = [v101, .int .i64 x102, .int .i64 x103, .int .i64 x104, .int .i64 x105] ∧
jp (slices_partialInsertionSortOrdered_int_J115 call n R X98 j97) fun j116 =>
cnd (decide (x104 < x103)) (
(0 ≤ x104 ∧ x104 < alen v101) ∧
∃ x117 : Int, ldO false 1 (ixp 1 v101 x104) o100 = some (.int .i64 x117) ∧
bnd (IntKind.wrap .i64 (x104 - (1 : Int))) fun x118 =>
(0 ≤ x118 ∧ x118 < alen v101) ∧
∃ x119 : Int, ldO false 1 (ixp 1 v101 x118) o100 = some (.int .i64 x119) ∧
call (.func n_cmp_Less_int) [.int .i64 x117, .int .i64 x119] o100 fun v120 o121 =>
∃ b122 : Bool, v120 = .bool b122 ∧
j116 [v101, .int .i64 x102, .int .i64 x103, .int .i64 x104, .int .i64 x105, .bool (!b122)] o121) (
j116 [v101, .int .i64 x102, .int .i64 x103, .int .i64 x104, .int .i64 x105, .bool false] o100)

abbrev slices_partialInsertionSortOrdered_int_L124 (call : CallO) (n : Nat) (R : AV → OS → Prop) (j4 : List AV → OS → Prop) : (List AV → OS → Prop) → List AV → OS → Prop := fun X5 vals6 o7 =>
∃ v8 : AV, ∃ x9 : Int, ∃ x10 : Int, ∃ x11 : Int, ∃ x12 : Int, vals6 = [v8, .int .i64 x9, .int .i64 x10, .int .i64 x11, .int .i64 x12] ∧
cnd (decide (x12 < (5 : Int))) (
jp (slices_partialInsertionSortOrdered_int_J21 call n R X5) fun j22 =>
jp (slices_partialInsertionSortOrdered_int_J96 call n R j22) fun j97 =>
lp n (slices_partialInsertionSortOrdered_int_L123 call n R j97) [v8, .int .i64 x9, .int .i64 x10, .int .i64 x11, .int .i64 x12] o7) (
j4 [] o7)

abbrev slices_partialInsertionSortOrdered_int (call : CallO) (n : Nat) (R : AV → OS → Prop) (a0 : AV) (a1 : Int) (a2 : Int) (o : OS) : Prop :=
bnd (IntKind.wrap .i64 (a1 + (1 : Int))) fun x0 =>
jp (slices_partialInsertionSortOrdered_int_J3 call n R) fun j4 =>
lp n (slices_partialInsertionSortOrdered_int_L124 call n R j4) [a0, .int .i64 a1, .int .i64 a2, .int .i64 x0, .int .i64 (0 : Int)] o

theorem slices_partialInsertionSortOrdered_int_eq (call : CallO) (n : Nat) (R : AV → OS → Prop) (a0 : AV) (a1 : Int) (a2 : Int) (o : OS) : gFun Try.prog call n 33 [a0, .int .i64 a1, .int .i64 a2] o R = slices_partialInsertionSortOrdered_int call n R a0 a1 a2 o := by kernel_rfl
theorem slices_partialInsertionSortOrdered_int_go (n : Nat) {a0 : AV} {a1 : Int} {a2 : Int} {o : OS} {K : AV → OS → Prop} (h : slices_partialInsertionSortOrdered_int (GoF Try.prog) n (rt o K) a0 a1 a2 o) : Go Try.prog n_slices_partialInsertionSortOrdered_int [a0, .int .i64 a1, .int .i64 a2] o K :=
  Go.of sane (n := n) ((slices_partialInsertionSortOrdered_int_eq (GoF Try.prog) n (rt o K) a0 a1 a2 o).mpr h)

/-! cmp.Less[int] -/
abbrev cmp_Less_int_J3 (call : CallO) (n : Nat) (R : AV → OS → Prop) : List AV → OS → Prop := fun vals0 o1 =>
∃ b2 : Bool, vals0 = [.bool b2] ∧
R (AV.bool b2) o1

abbrev cmp_Less_int (call : CallO) (n : Nat) (R : AV → OS → Prop) (a0 : Int) (a1 : Int) (o : OS) : Prop :=
jp (cmp_Less_int_J3 call n R) fun j4 =>
call (.func n_cmp_isNaN_int) [.int .i64 a0] o fun v5 o6 =>
∃ b7 : Bool, v5 = .bool b7 ∧
cnd b7 (
call (.func n_cmp_isNaN_int) [.int .i64 a1] o6 fun v8 o9 =>
∃ b10 : Bool, v8 = .bool b10 ∧
cnd (!b10) (
j4 [.bool true] o9) (
j4 [.bool (decide (a0 < a1))] o9)) (
j4 [.bool (decide (a0 < a1))] o6)

theorem cmp_Less_int_eq (call : CallO) (n : Nat) (R : AV → OS → Prop) (a0 : Int) (a1 : Int) (o : OS) : gFun Try.prog call n 34 [.int .i64 a0, .int .i64 a1] o R = cmp_Less_int call n R a0 a1 o := by kernel_rfl
theorem cmp_Less_int_go (n : Nat) {a0 : Int} {a1 : Int} {o : OS} {K : AV → OS → Prop} (h : cmp_Less_int (GoF Try.prog) n (rt o K) a0 a1 o) : Go Try.prog n_cmp_Less_int [.int .i64 a0, .int .i64 a1] o K :=
  Go.of sane (n := n) ((cmp_Less_int_eq (GoF Try.prog) n (rt o K) a0 a1 o).mpr h)

/-! slices.partitionEqualOrdered[int] -/
abbrev slices_partitionEqualOrdered_int_J9 (call : CallO) (n : Nat) (R : AV → OS → Prop) : List AV → OS → Prop := fun vals6 o7 =>
∃ x8 : Int, vals6 = [.int .i64 x8] ∧
R (AV.int .i64 x8) o7

abbrev slices_partitionEqualOrdered_int_J36 (call : CallO) (n : Nat) (R : AV → OS → Prop) (j10 : List AV → OS → Prop) (X11 : List AV → OS → Prop) : List AV → OS → Prop := fun vals24 o25 =>
∃ v26 : AV, ∃ x27 : Int, ∃ x28 : Int, ∃ x29 : Int, vals24 = [v26, .int .i64 x27, .int .i64 x28, .int .i64 x29] ∧
cnd (decide (x28 > x29)) (
j10 [.int .i64 x28] o25) (
(0 ≤ x29 ∧ x29 < alen v26) ∧
∃ x30 : Int, ldO false 1 (ixp 1 v26 x29) o25 = some (.int .i64 x30) ∧
(0 ≤ x28 ∧ x28 < alen v26) ∧
∃ x31 : Int, ldO false 1 (ixp 1 v26 x28) o25 = some (.int .i64 x31) ∧
(0 ≤ x28 ∧ x28 < alen v26) ∧
∃ o32 : OS, stO (ixp 1 v26 x28) [.int .i64 x30] o25 = some o32 ∧
(0 ≤ x29 ∧ x29 < alen v26) ∧
∃ o33 : OS, stO (ixp 1 v26 x29) [.int .i64 x31] o32 = some o33 ∧
bnd (IntKind.wrap .i64 (x28 + (1 : Int))) fun x34 =>
bnd (IntKind.wrap .i64 (x29 - (1 : Int))) fun x35 =>
X11 [v26, .int .i64 x27, .int .i64 x34, .int .i64 x35] o33)

abbrev slices_partitionEqualOrdered_int_J53 (call : CallO) (n : Nat) (R : AV → OS → Prop) (X38 : List AV → OS → Prop) (j37 : List AV → OS → Prop) : List AV → OS → Prop := fun vals45 o46 =>
∃ v47 : AV, ∃ x48 : Int, ∃ x49 : Int, ∃ x50 : Int, ∃ b51 : Bool, vals45 = [v47, .int .i64 x48, .int .i64 x49, .int .i64 x50, .bool b51] ∧
cnd b51 (
bnd (IntKind.wrap .i64 (x50 - (1 : Int))) fun x52 =>
X38 [v47, .int .i64 x48, .int .i64 x49, .int .i64 x52] o46) (
j37 [v47, .int .i64 x48, .int .i64 x49, .int .i64 x50] o46)

abbrev slices_partitionEqualOrdered_int_L60 (call : CallO) (n : Nat) (R : AV → OS → Prop) (j37 : List AV → OS → Prop) : (List AV → OS → Prop) → List AV → OS → Prop := fun X38 vals39 o40 =>
∃ v41 : AV, ∃ x42 : Int, ∃ x43 : Int, ∃ x44 : Int, vals39 = [v41, .int .i64 x42, .int .i64 x43, .int .i64 x44] ∧
jp (slices_partitionEqualOrdered_int_J53 call n R X38 j37) fun j54 =>
cnd (decide (x43 ≤ x44)) (
(0 ≤ x42 ∧ x42 < alen v41) ∧
∃ x55 : Int, ldO false 1 (ixp 1 v41 x42) o40 = some (.int .i64 x55) ∧
(0 ≤ x44 ∧ x44 < alen v41) ∧
∃ x56 : Int, ldO false 1 (ixp 1 v41 x44) o40 = some (.int .i64 x56) ∧
call (.func n_cmp_Less_int) [.int .i64 x55, .int .i64 x56] o40 fun v57 o58 =>
∃ b59 : Bool, v57 = .bool b59 ∧
j54 [v41, .int .i64 x42, .int .i64 x43, .int .i64 x44, .bool b59] o58) (
j54 [v41, .int .i64 x42, .int .i64 x43, .int .i64 x44, .bool false] o40)

abbrev slices_partitionEqualOrdered_int_J61 (call : CallO) (n : Nat) (R : AV → OS → Prop) (j10 : List AV → OS → Prop) (X11 : List AV → OS → Prop) : List AV → OS → Prop := fun vals18 o19 =>
∃ v20 : AV, ∃ x21 : Int, ∃ x22 : Int, ∃ x23 : Int, vals18 = [v20, .int .i64 x21, .int .i64 x22, .int .i64 x23] ∧
jp (slices_partitionEqualOrdered_int_J36 call n R j10 X11) fun j37 =>
lp n (slices_partitionEqualOrdered_int_L60 call n R j37) [v20, .int .i64 x21, .int .i64 x22, .int .i64 x23] o19

abbrev slices_partitionEqualOrdered_int_J78 (call : CallO) (n : Nat) (R : AV → OS → Prop) (X63 : List AV → OS → Prop) (j62 : List AV → OS → Prop) : List AV → OS → Prop := fun vals70 o71 =>
∃ v72 : AV, ∃ x73 : Int, ∃ x74 : Int, ∃ x75 : Int, ∃ b76 : Bool, vals70 = [v72, .int .i64 x73, .int .i64 x74, .int .i64 x75, .bool b76] ∧
cnd b76 (
bnd (IntKind.wrap .i64 (x74 + (1 : Int))) fun x77 =>
X63 [v72, .int .i64 x73, .int .i64 x77, .int .i64 x75] o71) (
j62 [v72, .int .i64 x73, .int .i64 x74, .int .i64 x75] o71)

abbrev slices_partitionEqualOrdered_int_L85 (call : CallO) (n : Nat) (R : AV → OS → Prop) (j62 : List AV → OS → Prop) : (List AV → OS → Prop) → List AV → OS → Prop := fun X63 vals64 o65 =>
∃ v66 : AV, ∃ x67 : Int, ∃ x68 : Int, ∃ x69 : Int, vals64 = [v66, .int .i64 x67, .int .i64 x68, .int .i64 x69] ∧
jp (slices_partitionEqualOrdered_int_J78 call n R X63 j62) fun j79 =>
cnd (decide (x68 ≤ x69)) (
(0 ≤ x67 ∧ x67 < alen v66) ∧
∃ x80 : Int, ldO false 1 (ixp 1 v66 x67) o65 = some (.int .i64 x80) ∧
(0 ≤ x68 ∧ x68 < alen v66) ∧
∃ x81 : Int, ldO false 1 (ixp 1 v66 x68) o65 = some (.int .i64 x81) ∧
call (.func n_cmp_Less_int) [.int .i64 x80, .int .i64 x81] o65 fun v82 o83 =>
∃ b84 : Bool, v82 = .bool b84 ∧
j79 [v66, .int .i64 x67, .int .i64 x68, .int .i64 x69, .bool (!b84)] o83) (
j79 [v66, .int .i64 x67, .int .i64 x68, .int .i64 x69, .bool false] o65)

abbrev slices_partitionEqualOrdered_int_L86 (call : CallO) (n : Nat) (R : AV → OS → Prop) (j10 : List AV → OS → Prop) : (List AV → OS → Prop) → List AV → OS → Prop := fun X11 vals12 o13 =>
∃ v14 : AV, ∃ x15 : Int, ∃ x16 : Int, ∃ x17 : Int, vals12 = [v14, .int .i64 x15, .int .i64 x16, .int .i64 x17] ∧
jp (slices_partitionEqualOrdered_int_J61 call n R j10 X11) fun j62 =>
lp n (slices_partitionEqualOrdered_int_L85 call n R j62) [v14, .int .i64 x15, .int .i64 x16, .int .i64 x17] o13

abbrev slices_partitionEqualOrdered_int (call : CallO) (n : Nat) (R : AV → OS → Prop) (a0 : AV) (a1 : Int) (a2 : Int) (a3 : Int) (o : OS) : Prop :=
(0 ≤ a3 ∧ a3 < alen a0) ∧
∃ x0 : Int, ldO false 1 (ixp 1 a0 a3) o = some (.int .i64 x0) ∧
(0 ≤ a1 ∧ a1 < alen a0) ∧
∃ x1 : Int, ldO false 1 (ixp 1 a0 a1) o = some (.int .i64 x1) ∧
(0 ≤ a1 ∧ a1 < alen a0) ∧
∃ o2 : OS, stO (ixp 1 a0 a1) [.int .i64 x0] o = some o2 ∧
(0 ≤ a3 ∧ a3 < alen a0) ∧
∃ o3 : OS, stO (ixp 1 a0 a3) [.int .i64 x1] o2 = some o3 ∧
bnd (IntKind.wrap .i64 (a1 + (1 : Int))) fun x4 =>
bnd (IntKind.wrap .i64 (a2 - (1 : Int))) fun x5 =>
jp (slices_partitionEqualOrdered_int_J9 call n R) fun j10 =>
lp n (slices_partitionEqualOrdered_int_L86 call n R j10) [a0, .int .i64 a1, .int .i64 x4, .int .i64 x5] o3

theorem slices_partitionEqualOrdered_int_eq (call : CallO) (n : Nat) (R : AV → OS → Prop) (a0 : AV) (a1 : Int) (a2 : Int) (a3 : Int) (o : OS) : gFun Try.prog call n 35 [a0, .int .i64 a1, .int .i64 a2, .int .i64 a3] o R = slices_partitionEqualOrdered_int call n R a0 a1 a2 a3 o := by kernel_rfl
theorem slices_partitionEqualOrdered_int_go (n : Nat) {a0 : AV} {a1 : Int} {a2 : Int} {a3 : Int} {o : OS} {K : AV → OS → Prop} (h : slices_partitionEqualOrdered_int (GoF Try.prog) n (rt o K) a0 a1 a2 a3 o) : Go Try.prog n_slices_partitionEqualOrdered_int [a0, .int .i64 a1, .int .i64 a2, .int .i64 a3] o K :=
  Go.of sane (n := n) ((slices_partitionEqualOrdered_int_eq (GoF Try.prog) n (rt o K) a0 a1 a2 a3 o).mpr h)

/-! slices.partitionOrdered[int] -/
abbrev slices_partitionOrdered_int_J37 (call : CallO) (n : Nat) (R : AV → OS → Prop) : List AV → OS → Prop := fun vals28 o29 =>
∃ v30 : AV, ∃ x31 : Int, ∃ x32 : Int, vals28 = [v30, .int .i64 x31, .int .i64 x32] ∧
(0 ≤ x31 ∧ x31 < alen v30) ∧
∃ x33 : Int, ldO false 1 (ixp 1 v30 x31) o29 = some (.int .i64 x33) ∧
(0 ≤ x32 ∧ x32 < alen v30) ∧
∃ x34 : Int, ldO false 1 (ixp 1 v30 x32) o29 = some (.int .i64 x34) ∧
(0 ≤ x32 ∧ x32 < alen v30) ∧
∃ o35 : OS, stO (ixp 1 v30 x32) [.int .i64 x33] o29 = some o35 ∧
(0 ≤ x31 ∧ x31 < alen v30) ∧
∃ o36 : OS, stO (ixp 1 v30 x31) [.int .i64 x34] o35 = some o36 ∧
R (AV.tuple [.int .i64 x32, .bool false]) o36

abbrev slices_partitionOrdered_int_J64 (call : CallO) (n : Nat) (R : AV → OS → Prop) (j38 : List AV → OS → Prop) (X39 : List AV → OS → Prop) : List AV → OS → Prop := fun vals52 o53 =>
∃ v54 : AV, ∃ x55 : Int, ∃ x56 : Int, ∃ x57 : Int, vals52 = [v54, .int .i64 x55, .int .i64 x56, .int .i64 x57] ∧
cnd (decide (x56 > x57)) (
j38 [v54, .int .i64 x55, .int .i64 x57] o53) (
(0 ≤ x57 ∧ x57 < alen v54) ∧
∃ x58 : Int, ldO false 1 (ixp 1 v54 x57) o53 = some (.int .i64 x58) ∧
(0 ≤ x56 ∧ x56 < alen v54) ∧
∃ x59 : Int, ldO false 1 (ixp 1 v54 x56) o53 = some (.int .i64 x59) ∧
(0 ≤ x56 ∧ x56 < alen v54) ∧
∃ o60 : OS, stO (ixp 1 v54 x56) [.int .i64 x58] o53 = some o60 ∧
(0 ≤ x57 ∧ x57 < alen v54) ∧
∃ o61 : OS, stO (ixp 1 v54 x57) [.int .i64 x59] o60 = some o61 ∧
bnd (IntKind.wrap .i64 (x56 + (1 : Int))) fun x62 =>
bnd (IntKind.wrap .i64 (x57 - (1 : Int))) fun x63 =>
X39 [v54, .int .i64 x55, .int .i64 x62, .int .i64 x63] o61)

abbrev slices_partitionOrdered_int_J81 (call : CallO) (n : Nat) (R : AV → OS → Prop) (X66 : List AV → OS → Prop) (j65 : List AV → OS → Prop) : List AV → OS → Prop := fun vals73 o74 =>
∃ v75 : AV, ∃ x76 : Int, ∃ x77 : Int, ∃ x78 : Int, ∃ b79 : Bool, vals73 = [v75, .int .i64 x76, .int .i64 x77, .int .i64 x78, .bool b79] ∧
cnd b79 (
bnd (IntKind.wrap .i64 (x78 - (1 : Int))) fun x80 =>
X66 [v75, .int .i64 x76, .int .i64 x77, .int .i64 x80] o74) (
j65 [v75, .int .i64 x76, .int .i64 x77, .int .i64 x78] o74)

abbrev slices_partitionOrdered_int_L88 (call : CallO) (n : Nat) (R : AV → OS → Prop) (j65 : List AV → OS → Prop) : (List AV → OS → Prop) → List AV → OS → Prop := fun X66 vals67 o68 =>
∃ v69 : AV, ∃ x70 : Int, ∃ x71 : Int, ∃ x72 : Int, vals67 = [v69, .int .i64 x70, .int .i64 x71, .int .i64 x72] ∧
jp (slices_partitionOrdered_int_J81 call n R X66 j65) fun j82 =>
cnd (decide (x71 ≤ x72)) (
(0 ≤ x72 ∧ x72 < alen v69) ∧
∃ x83 : Int, ldO false 1 (ixp 1 v69 x72) o68 = some (.int .i64 x83) ∧
(0 ≤ x70 ∧ x70 < alen v69) ∧
∃ x84 : Int, ldO false 1 (ixp 1 v69 x70) o68 = some (.int .i64 x84) ∧
call (.func n_cmp_Less_int) [.int .i64 x83, .int .i64 x84] o68 fun v85 o86 =>
∃ b87 : Bool, v85 = .bool b87 ∧
j82 [v69, .int .i64 x70, .int .i64 x71, .int .i64 x72, .bool (!b87)] o86) (
j82 [v69, .int .i64 x70, .int .i64 x71, .int .i64 x72, .bool false] o68)

abbrev slices_partitionOrdered_int_J89 (call : CallO) (n : Nat) (R : AV → OS → Prop) (j38 : List AV → OS → Prop) (X39 : List AV → OS → Prop) : List AV → OS → Prop := fun vals46 o47 =>
∃ v48 : AV, ∃ x49 : Int, ∃ x50 : Int, ∃ x51 : Int, vals46 = [v48, .int .i64 x49, .int .i64 x50, .int .i64 x51] ∧
jp (slices_partitionOrdered_int_J64 call n R j38 X39) fun j65 =>
lp n (slices_partitionOrdered_int_L88 call n R j65) [v48, .int .i64 x49, .int .i64 x50, .int .i64 x51] o47

abbrev slices_partitionOrdered_int_J106 (call : CallO) (n : Nat) (R : AV → OS → Prop) (X91 : List AV → OS → Prop) (j90 : List AV → OS → Prop) : List AV → OS → Prop := fun vals98 o99 =>
∃ v100 : AV, ∃ x101 : Int, ∃ x102 : Int, ∃ x103 : Int, ∃ b104 : Bool, vals98 = [v100, .int .i64 x101, .int .i64 x102, .int .i64 x103, .bool b104] ∧
cnd b104 (
bnd (IntKind.wrap .i64 (x102 + (1 : Int))) fun x105 =>
X91 [v100, .int .i64 x101, .int .i64 x105, .int .i64 x103] o99) (
j90 [v100, .int .i64 x101, .int .i64 x102, .int .i64 x103] o99)

abbrev slices_partitionOrdered_int_L113 (call : CallO) (n : Nat) (R : AV → OS → Prop) (j90 : List AV → OS → Prop) : (List AV → OS → Prop) → List AV → OS → Prop := fun X91 vals92 o93 =>
∃ v94 : AV, ∃ x95 : Int, ∃ x96 : Int, ∃ x97 : Int, vals92 = [v94, .int .i64 x95, .int .i64 x96, .int .i64 x97] ∧
jp (slices_partitionOrdered_int_J106 call n R X91 j90) fun j107 =>
cnd (decide (x96 ≤ x97)) (
(0 ≤ x96 ∧ x96 < alen v94) ∧
∃ x108 : Int, ldO false 1 (ixp 1 v94 x96) o93 = some (.int .i64 x108) ∧
(0 ≤ x95 ∧ x95 < alen v94) ∧
∃ x109 : Int, ldO false 1 (ixp 1 v94 x95) o93 = some (.int .i64 x109) ∧
call (.func n_cmp_Less_int) [.int .i64 x108, .int .i64 x109] o93 fun v110 o111 =>
∃ b112 : Bool, v110 = .bool b112 ∧
j107 [v94, .int .i64 x95, .int .i64 x96, .int .i64 x97, .bool b112] o111) (
j107 [v94, .int .i64 x95, .int .i64 x96, .int .i64 x97, .bool false] o93)

abbrev slices_partitionOrdered_int_L114 (call : CallO) (n : Nat) (R : AV → OS → Prop) (j38 : List AV → OS → Prop) : (List AV → OS → Prop) → List AV → OS → Prop := fun X39 vals40 o41 =>
∃ v42 : AV, ∃ x43 : Int, ∃ x44 : Int, ∃ x45 : Int, vals40 = [v42, .int .i64 x43, .int .i64 x44, .int .i64 x45] ∧
jp (slices_partitionOrdered_int_J89 call n R j38 X39) fun j90 =>
lp n (slices_partitionOrdered_int_L113 call n R j90) [v42, .int .i64 x43, .int .i64 x44, .int .i64 x45] o41

abbrev slices_partitionOrdered_int_J115 (call : CallO) (n : Nat) (R : AV → OS → Prop) : List AV → OS → Prop := fun vals12 o13 =>
∃ v14 : AV, ∃ x15 : Int, ∃ x16 : Int, ∃ x17 : Int, vals12 = [v14, .int .i64 x15, .int .i64 x16, .int .i64 x17] ∧
cnd (decide (x16 > x17)) (
(0 ≤ x15 ∧ x15 < alen v14) ∧
∃ x18 : Int, ldO false 1 (ixp 1 v14 x15) o13 = some (.int .i64 x18) ∧
(0 ≤ x17 ∧ x17 < alen v14) ∧
∃ x19 : Int, ldO false 1 (ixp 1 v14 x17) o13 = some (.int .i64 x19) ∧
(0 ≤ x17 ∧ x17 < alen v14) ∧
∃ o20 : OS, stO (ixp 1 v14 x17) [.int .i64 x18] o13 = some o20 ∧
(0 ≤ x15 ∧ x15 < alen v14) ∧
∃ o21 : OS, stO (ixp 1 v14 x15) [.int .i64 x19] o20 = some o21 ∧
R (AV.tuple [.int .i64 x17, .bool true]) o21) (
(0 ≤ x17 ∧ x17 < alen v14) ∧
∃ x22 : Int, ldO false 1 (ixp 1 v14 x17) o13 = some (.int .i64 x22) ∧
(0 ≤ x16 ∧ x16 < alen v14) ∧
∃ x23 : Int, ldO false 1 (ixp 1 v14 x16) o13 = some (.int .i64 x23) ∧
(0 ≤ x16 ∧ x16 < alen v14) ∧
∃ o24 : OS, stO (ixp 1 v14 x16) [.int .i64 x22] o13 = some o24 ∧
(0 ≤ x17 ∧ x17 < alen v14) ∧
∃ o25 : OS, stO (ixp 1 v14 x17) [.int .i64 x23] o24 = some o25 ∧
bnd (IntKind.wrap .i64 (x16 + (1 : Int))) fun x26 =>
bnd (IntKind.wrap .i64 (x17 - (1 : Int))) fun x27 =>
jp (slices_partitionOrdered_int_J37 call n R) fun j38 =>
lp n (slices_partitionOrdered_int_L114 call n R j38) [v14, .int .i64 x15, .int .i64 x26, .int .i64 x27] o25)

abbrev slices_partitionOrdered_int_J132 (call : CallO) (n : Nat) (R : AV → OS → Prop) (X117 : List AV → OS → Prop) (j116 : List AV → OS → Prop) : List AV → OS → Prop := fun vals124 o125 =>
∃ v126 : AV, ∃ x127 : Int, ∃ x128 : Int, ∃ x129 : Int, ∃ b130 : Bool, vals124 = [v126, .int .i64 x127, .int .i64 x128, .int .i64 x129, .bool b130] ∧
cnd b130 (
bnd (IntKind.wrap .i64 (x129 - (1 : Int))) fun x131 =>
X117 [v126, .int .i64 x127, .int .i64 x128, .int .i64 x131] o125) (
j116 [v126, .int .i64 x127, .int .i64 x128, .int .i64 x129] o125)

abbrev slices_partitionOrdered_int_L139 (call : CallO) (n : Nat) (R : AV → OS → Prop) (j116 : List AV → OS → Prop) : (List AV → OS → Prop) → List AV → OS → Prop := fun X117 vals118 o119 =>
∃ v120 : AV, ∃ x121 : Int, ∃ x122 : Int, ∃ x123 : Int, vals118 = [v120, .int .i64 x121, .int .i64 x122, .int .i64 x123] ∧
jp (slices_partitionOrdered_int_J132 call n R X117 j116) fun j133 =>
cnd (decide (x122 ≤ x123)) (
(0 ≤ x123 ∧ x123 < alen v120) ∧
∃ x134 : Int, ldO false 1 (ixp 1 v120 x123) o119 = some (.int .i64 x134) ∧
(0 ≤ x121 ∧ x121 < alen v120) ∧
∃ x135 : Int, ldO false 1 (ixp 1 v120 x121) o119 = some (.int .i64 x135) ∧
call (.func n_cmp_Less_int) [.int .i64 x134, .int .i64 x135] o119 fun v136 o137 =>
∃ b138 : Bool, v136 = .bool b138 ∧
j133 [v120, .int .i64 x121, .int .i64 x122, .int .i64 x123, .bool (!b138)] o137) (
j133 [v120, .int .i64 x121, .int .i64 x122, .int .i64 x123, .bool false] o119)

abbrev slices_partitionOrdered_int_J140 (call : CallO) (n : Nat) (R : AV → OS → Prop) : List AV → OS → Prop := fun vals6 o7 =>
∃ v8 : AV, ∃ x9 : Int, ∃ x10 : Int, ∃ x11 : Int, vals6 = [v8, .int .i64 x9, .int .i64 x10, .int .i64 x11] ∧
jp (slices_partitionOrdered_int_J115 call n R) fun j116 =>
lp n (slices_partitionOrdered_int_L139 call n R j116) [v8, .int .i64 x9, .int .i64 x10, .int .i64 x11] o7

abbrev slices_partitionOrdered_int_J157 (call : CallO) (n : Nat) (R : AV → OS → Prop) (X142 : List AV → OS → Prop) (j141 : List AV → OS → Prop) : List AV → OS → Prop := fun vals149 o150 =>
∃ v151 : AV, ∃ x152 : Int, ∃ x153 : Int, ∃ x154 : Int, ∃ b155 : Bool, vals149 = [v151, .int .i64 x152, .int .i64 x153, .int .i64 x154, .bool b155] ∧
cnd b155 (
bnd (IntKind.wrap .i64 (x153 + (1 : Int))) fun x156 =>
X142 [v151, .int .i64 x152, .int .i64 x156, .int .i64 x154] o150) (
j141 [v151, .int .i64 x152, .int .i64 x153, .int .i64 x154] o150)

abbrev slices_partitionOrdered_int_L164 (call : CallO) (n : Nat) (R : AV → OS → Prop) (j141 : List AV → OS → Prop) : (List AV → OS → Prop) → List AV → OS → Prop := fun X142 vals143 o144 =>
∃ v145 : AV, ∃ x146 : Int, ∃ x147 : Int, ∃ x148 : Int, vals143 = [v145, .int .i64 x146, .int .i64 x147, .int .i64 x148] ∧
jp (slices_partitionOrdered_int_J157 call n R X142 j141) fun j158 =>
cnd (decide (x147 ≤ x148)) (
(0 ≤ x147 ∧ x147 < alen v145) ∧
∃ x159 : Int, ldO false 1 (ixp 1 v145 x147) o144 = some (.int .i64 x159) ∧
(0 ≤ x146 ∧ x146 < alen v145) ∧
∃ x160 : Int, ldO false 1 (ixp 1 v145 x146) o144 = some (.int .i64 x160) ∧
call (.func n_cmp_Less_int) [.int .i64 x159, .int .i64 x160] o144 fun v161 o162 =>
∃ b163 : Bool, v161 = .bool b163 ∧
j158 [v145, .int .i64 x146, .int .i64 x147, .int .i64 x148, .bool b163] o162) (
j158 [v145, .int .i64 x146, .int .i64 x147, .int .i64 x148, .bool false] o144)

abbrev slices_partitionOrdered_int (call : CallO) (n : Nat) (R : AV → OS → Prop) (a0 : AV) (a1 : Int) (a2 : Int) (a3 : Int) (o : OS) : Prop :=
(0 ≤ a3 ∧ a3 < alen a0) ∧
∃ x0 : Int, ldO false 1 (ixp 1 a0 a3) o = some (.int .i64 x0) ∧
(0 ≤ a1 ∧ a1 < alen a0) ∧
∃ x1 : Int, ldO false 1 (ixp 1 a0 a1) o = some (.int .i64 x1) ∧
(0 ≤ a1 ∧ a1 < alen a0) ∧
∃ o2 : OS, stO (ixp 1 a0 a1) [.int .i64 x0] o = some o2 ∧
(0 ≤ a3 ∧ a3 < alen a0) ∧
∃ o3 : OS, stO (ixp 1 a0 a3) [.int .i64 x1] o2 = some o3 ∧
bnd (IntKind.wrap .i64 (a1 + (1 : Int))) fun x4 =>
bnd (IntKind.wrap .i64 (a2 - (1 : Int))) fun x5 =>
jp (slices_partitionOrdered_int_J140 call n R) fun j141 =>
lp n (slices_partitionOrdered_int_L164 call n R j141) [a0, .int .i64 a1, .int .i64 x4, .int .i64 x5] o3

theorem slices_partitionOrdered_int_eq (call : CallO) (n : Nat) (R : AV → OS → Prop) (a0 : AV) (a1 : Int) (a2 : Int) (a3 : Int) (o : OS) : gFun Try.prog call n 36 [a0, .int .i64 a1, .int .i64 a2, .int .i64 a3] o R = slices_partitionOrdered_int call n R a0 a1 a2 a3 o := by kernel_rfl
theorem slices_partitionOrdered_int_go (n : Nat) {a0 : AV} {a1 : Int} {a2 : Int} {a3 : Int} {o : OS} {K : AV → OS → Prop} (h : slices_partitionOrdered_int (GoF Try.prog) n (rt o K) a0 a1 a2 a3 o) : Go Try.prog n_slices_partitionOrdered_int [a0, .int .i64 a1, .int .i64 a2, .int .i64 a3] o K :=
  Go.of sane (n := n) ((slices_partitionOrdered_int_eq (GoF Try.prog) n (rt o K) a0 a1 a2 a3 o).mpr h)

/-! math/bits.Len32 -/
abbrev math_bits_Len32_J12 (call : CallO) (n : Nat) (R : AV → OS → Prop) : List AV → OS → Prop := fun vals4 o5 =>
∃ x6 : Int, ∃ x7 : Int, vals4 = [.int .u32 x6, .int .i64 x7] ∧
bnd (IntKind.wrap .u8 x6) fun x8 =>
(0 ≤ x8 ∧ x8 < ((ByteArray.size (ByteArray.mk #[0, 1, 2, 2, 3, 3, 3, 3, 4, 4, 4, 4, 4, 4, 4, 4, 5, 5, 5, 5, 5, 5, 5, 5, 5, 5, 5, 5, 5, 5, 5, 5, 6, 6, 6, 6, 6, 6, 6, 6, 6, 6, 6, 6, 6, 6, 6, 6, 6, 6, 6, 6, 6, 6, 6, 6, 6, 6, 6, 6, 6, 6, 6, 6, 7, 7, 7, 7, 7, 7, 7, 7, 7, 7, 7, 7, 7, 7, 7, 7, 7, 7, 7, 7, 7, 7, 7, 7, 7, 7, 7, 7, 7, 7, 7, 7, 7, 7, 7, 7, 7, 7, 7, 7, 7, 7, 7, 7, 7, 7, 7, 7, 7, 7, 7, 7, 7, 7, 7, 7, 7, 7, 7, 7, 7, 7, 7, 7, 8, 8, 8, 8, 8, 8, 8, 8, 8, 8, 8, 8, 8, 8, 8, 8, 8, 8, 8, 8, 8, 8, 8, 8, 8, 8, 8, 8, 8, 8, 8, 8, 8, 8, 8, 8, 8, 8, 8, 8, 8, 8, 8, 8, 8, 8, 8, 8, 8, 8, 8, 8, 8, 8, 8, 8, 8, 8, 8, 8, 8, 8, 8, 8, 8, 8, 8, 8, 8, 8, 8, 8, 8, 8, 8, 8, 8, 8, 8, 8, 8, 8, 8, 8, 8, 8, 8, 8, 8, 8, 8, 8, 8, 8, 8, 8, 8, 8, 8, 8, 8, 8, 8, 8, 8, 8, 8, 8, 8, 8, 8, 8, 8, 8, 8, 8, 8, 8, 8, 8, 8, 8, 8, 8, 8, 8, 8, 8]) : Nat) : Int)) ∧
bnd (byteAt (ByteArray.mk #[0, 1, 2, 2, 3, 3, 3, 3, 4, 4, 4, 4, 4, 4, 4, 4, 5, 5, 5, 5, 5, 5, 5, 5, 5, 5, 5, 5, 5, 5, 5, 5, 6, 6, 6, 6, 6, 6, 6, 6, 6, 6, 6, 6, 6, 6, 6, 6, 6, 6, 6, 6, 6, 6, 6, 6, 6, 6, 6, 6, 6, 6, 6, 6, 7, 7, 7, 7, 7, 7, 7, 7, 7, 7, 7, 7, 7, 7, 7, 7, 7, 7, 7, 7, 7, 7, 7, 7, 7, 7, 7, 7, 7, 7, 7, 7, 7, 7, 7, 7, 7, 7, 7, 7, 7, 7, 7, 7, 7, 7, 7, 7, 7, 7, 7, 7, 7, 7, 7, 7, 7, 7, 7, 7, 7, 7, 7, 7, 8, 8, 8, 8, 8, 8, 8, 8, 8, 8, 8, 8, 8, 8, 8, 8, 8, 8, 8, 8, 8, 8, 8, 8, 8, 8, 8, 8, 8, 8, 8, 8, 8, 8, 8, 8, 8, 8, 8, 8, 8, 8, 8, 8, 8, 8, 8, 8, 8, 8, 8, 8, 8, 8, 8, 8, 8, 8, 8, 8, 8, 8, 8, 8, 8, 8, 8, 8, 8, 8, 8, 8, 8, 8, 8, 8, 8, 8, 8, 8, 8, 8, 8, 8, 8, 8, 8, 8, 8, 8, 8, 8, 8, 8, 8, 8, 8, 8, 8, 8, 8, 8, 8, 8, 8, 8, 8, 8, 8, 8, 8, 8, 8, 8, 8, 8, 8, 8, 8, 8, 8, 8, 8, 8, 8, 8, 8, 8]) x8) fun x9 =>
bnd (IntKind.wrap .i64 x9) fun x10 =>
bnd (IntKind.wrap .i64 (x7 + x10)) fun x11 =>
R (AV.int .i64 x11) o5

abbrev math_bits_Len32_J16 (call : CallO) (n : Nat) (R : AV → OS → Prop) : List AV → OS → Prop := fun vals0 o1 =>
∃ x2 : Int, ∃ x3 : Int, vals0 = [.int .u32 x2, .int .i64 x3] ∧
jp (math_bits_Len32_J12 call n R) fun j13 =>
cnd (decide (x2 ≥ (256 : Int))) (
0 ≤ (8 : Int) ∧
bnd (Int.fdiv x2 (2 ^ (min (Int.toNat (8 : Int)) (IntKind.bits .u32)))) fun x14 =>
bnd (IntKind.wrap .i64 (x3 + (8 : Int))) fun x15 =>
j13 [.int .u32 x14, .int .i64 x15] o1) (
j13 [.int .u32 x2, .int .i64 x3] o1)

abbrev math_bits_Len32 (call : CallO) (n : Nat) (R : AV → OS → Prop) (a0 : Int) (o : OS) : Prop :=
jp (math_bits_Len32_J16 call n R) fun j17 =>
cnd (decide (a0 ≥ (65536 : Int))) (
0 ≤ (16 : Int) ∧
bnd (Int.fdiv a0 (2 ^ (min (Int.toNat (16 : Int)) (IntKind.bits .u32)))) fun x18 =>
j17 [.int .u32 x18, .int .i64 (16 : Int)] o) (
j17 [.int .u32 a0, .int .i64 (0 : Int)] o)

theorem math_bits_Len32_eq (call : CallO) (n : Nat) (R : AV → OS → Prop) (a0 : Int) (o : OS) : gFun Try.prog call n 37 [.int .u32 a0] o R = math_bits_Len32 call n R a0 o := by kernel_rfl
theorem math_bits_Len32_go (n : Nat) {a0 : Int} {o : OS} {K : AV → OS → Prop} (h : math_bits_Len32 (GoF Try.prog) n (rt o K) a0 o) : Go Try.prog n_math_bits_Len32 [.int .u32 a0] o K :=
  Go.of sane (n := n) ((math_bits_Len32_eq (GoF Try.prog) n (rt o K) a0 o).mpr h)

/-! math/bits.Len64 -/
abbrev math_bits_Len64_J16 (call : CallO) (n : Nat) (R : AV → OS → Prop) : List AV → OS → Prop := fun vals8 o9 =>
∃ x10 : Int, ∃ x11 : Int, vals8 = [.int .u64 x10, .int .i64 x11] ∧
bnd (IntKind.wrap .u8 x10) fun x12 =>
(0 ≤ x12 ∧ x12 < ((ByteArray.size (ByteArray.mk #[0, 1, 2, 2, 3, 3, 3, 3, 4, 4, 4, 4, 4, 4, 4, 4, 5, 5, 5, 5, 5, 5, 5, 5, 5, 5, 5, 5, 5, 5, 5, 5, 6, 6, 6, 6, 6, 6, 6, 6, 6, 6, 6, 6, 6, 6, 6, 6, 6, 6, 6, 6, 6, 6, 6, 6, 6, 6, 6, 6, 6, 6, 6, 6, 7, 7, 7, 7, 7, 7, 7, 7, 7, 7, 7, 7, 7, 7, 7, 7, 7, 7, 7, 7, 7, 7, 7, 7, 7, 7, 7, 7, 7, 7, 7, 7, 7, 7, 7, 7, 7, 7, 7, 7, 7, 7, 7, 7, 7, 7, 7, 7, 7, 7, 7, 7, 7, 7, 7, 7, 7, 7, 7, 7, 7, 7, 7, 7, 8, 8, 8, 8, 8, 8, 8, 8, 8, 8, 8, 8, 8, 8, 8, 8, 8, 8, 8, 8, 8, 8, 8, 8, 8, 8, 8, 8, 8, 8, 8, 8, 8, 8, 8, 8, 8, 8, 8, 8, 8, 8, 8, 8, 8, 8, 8, 8, 8, 8, 8, 8, 8, 8, 8, 8, 8, 8, 8, 8, 8, 8, 8, 8, 8, 8, 8, 8, 8, 8, 8, 8, 8, 8, 8, 8, 8, 8, 8, 8, 8, 8, 8, 8, 8, 8, 8, 8, 8, 8, 8, 8, 8, 8, 8, 8, 8, 8, 8, 8, 8, 8, 8, 8, 8, 8, 8, 8, 8, 8, 8, 8, 8, 8, 8, 8, 8, 8, 8, 8, 8, 8, 8, 8, 8, 8, 8, 8]) : Nat) : Int)) ∧
bnd (byteAt (ByteArray.mk #[0, 1, 2, 2, 3, 3, 3, 3, 4, 4, 4, 4, 4, 4, 4, 4, 5, 5, 5, 5, 5, 5, 5, 5, 5, 5, 5, 5, 5, 5, 5, 5, 6, 6, 6, 6, 6, 6, 6, 6, 6, 6, 6, 6, 6, 6, 6, 6, 6, 6, 6, 6, 6, 6, 6, 6, 6, 6, 6, 6, 6, 6, 6, 6, 7, 7, 7, 7, 7, 7, 7, 7, 7, 7, 7, 7, 7, 7, 7, 7, 7, 7, 7, 7, 7, 7, 7, 7, 7, 7, 7, 7, 7, 7, 7, 7, 7, 7, 7, 7, 7, 7, 7, 7, 7, 7, 7, 7, 7, 7, 7, 7, 7, 7, 7, 7, 7, 7, 7, 7, 7, 7, 7, 7, 7, 7, 7, 7, 8, 8, 8, 8, 8, 8, 8, 8, 8, 8, 8, 8, 8, 8, 8, 8, 8, 8, 8, 8, 8, 8, 8, 8, 8, 8, 8, 8, 8, 8, 8, 8, 8, 8, 8, 8, 8, 8, 8, 8, 8, 8, 8, 8, 8, 8, 8, 8, 8, 8, 8, 8, 8, 8, 8, 8, 8, 8, 8, 8, 8, 8, 8, 8, 8, 8, 8, 8, 8, 8, 8, 8, 8, 8, 8, 8, 8, 8, 8, 8, 8, 8, 8, 8, 8, 8, 8, 8, 8, 8, 8, 8, 8, 8, 8, 8, 8, 8, 8, 8, 8, 8, 8, 8, 8, 8, 8, 8, 8, 8, 8, 8, 8, 8, 8, 8, 8, 8, 8, 8, 8, 8, 8, 8, 8, 8, 8, 8]) x12) fun x13 =>
bnd (IntKind.wrap .i64 x13) fun x14 =>
bnd (IntKind.wrap .i64 (x11 + x14)) fun x15 =>
R (AV.int .i64 x15) o9

abbrev math_bits_Len64_J20 (call : CallO) (n : Nat) (R : AV → OS → Prop) : List AV → OS → Prop := fun vals4 o5 =>
∃ x6 : Int, ∃ x7 : Int, vals4 = [.int .u64 x6, .int .i64 x7] ∧
jp (math_bits_Len64_J16 call n R) fun j17 =>
cnd (decide (x6 ≥ (256 : Int))) (
0 ≤ (8 : Int) ∧
bnd (Int.fdiv x6 (2 ^ (min (Int.toNat (8 : Int)) (IntKind.bits .u64)))) fun x18 =>
bnd (IntKind.wrap .i64 (x7 + (8 : Int))) fun x19 =>
j17 [.int .u64 x18, .int .i64 x19] o5) (
j17 [.int .u64 x6, .int .i64 x7] o5)

abbrev math_bits_Len64_J24 (call : CallO) (n : Nat) (R : AV → OS → Prop) : List AV → OS → Prop := fun vals0 o1 =>
∃ x2 : Int, ∃ x3 : Int, vals0 = [.int .u64 x2, .int .i64 x3] ∧
jp (math_bits_Len64_J20 call n R) fun j21 =>
cnd (decide (x2 ≥ (65536 : Int))) (
0 ≤ (16 : Int) ∧
bnd (Int.fdiv x2 (2 ^ (min (Int.toNat (16 : Int)) (IntKind.bits .u64)))) fun x22 =>
bnd (IntKind.wrap .i64 (x3 + (16 : Int))) fun x23 =>
j21 [.int .u64 x22, .int .i64 x23] o1) (
j21 [.int .u64 x2, .int .i64 x3] o1)

abbrev math_bits_Len64 (call : CallO) (n : Nat) (R : AV → OS → Prop) (a0 : Int) (o : OS) : Prop :=
jp (math_bits_Len64_J24 call n R) fun j25 =>
cnd (decide (a0 ≥ (4294967296 : Int))) (
0 ≤ (32 : Int) ∧
bnd (Int.fdiv a0 (2 ^ (min (Int.toNat (32 : Int)) (IntKind.bits .u64)))) fun x26 =>
j25 [.int .u64 x26, .int .i64 (32 : Int)] o) (
j25 [.int .u64 a0, .int .i64 (0 : Int)] o)

theorem math_bits_Len64_eq (call : CallO) (n : Nat) (R : AV → OS → Prop) (a0 : Int) (o : OS) : gFun Try.prog call n 38 [.int .u64 a0] o R = math_bits_Len64 call n R a0 o := by kernel_rfl
theorem math_bits_Len64_go (n : Nat) {a0 : Int} {o : OS} {K : AV → OS → Prop} (h : math_bits_Len64 (GoF Try.prog) n (rt o K) a0 o) : Go Try.prog n_math_bits_Len64 [.int .u64 a0] o K :=
  Go.of sane (n := n) ((math_bits_Len64_eq (GoF Try.prog) n (rt o K) a0 o).mpr h)

/-! slices.siftDownOrdered[int] -/
abbrev slices_siftDownOrdered_int_J31 (call : CallO) (n : Nat) (R : AV → OS → Prop) (X0 : List AV → OS → Prop) : List AV → OS → Prop := fun vals9 o10 =>
∃ v11 : AV, ∃ x12 : Int, ∃ x13 : Int, ∃ x14 : Int, ∃ x15 : Int, vals9 = [v11, .int .i64 x12, .int .i64 x13, .int .i64 x14, .int .i64 x15] ∧
bnd (IntKind.wrap .i64 (x13 + x14)) fun x16 =>
(0 ≤ x16 ∧ x16 < alen v11) ∧
∃ x17 : Int, ldO false 1 (ixp 1 v11 x16) o10 = some (.int .i64 x17) ∧
bnd (IntKind.wrap .i64 (x13 + x15)) fun x18 =>
(0 ≤ x18 ∧ x18 < alen v11) ∧
∃ x19 : Int, ldO false 1 (ixp 1 v11 x18) o10 = some (.int .i64 x19) ∧
call (.func n_cmp_Less_int) [.int .i64 x17, .int .i64 x19] o10 fun v20 o21 =>
∃ b22 : Bool, v20 = .bool b22 ∧
cnd (!b22) (
R (AV.tuple []) o21) (
bnd (IntKind.wrap .i64 (x13 + x14)) fun x23 =>
bnd (IntKind.wrap .i64 (x13 + x15)) fun x24 =>
bnd (IntKind.wrap .i64 (x13 + x15)) fun x25 =>
(0 ≤ x25 ∧ x25 < alen v11) ∧
∃ x26 : Int, ldO false 1 (ixp 1 v11 x25) o21 = some (.int .i64 x26) ∧
bnd (IntKind.wrap .i64 (x13 + x14)) fun x27 =>
(0 ≤ x27 ∧ x27 < alen v11) ∧
∃ x28 : Int, ldO false 1 (ixp 1 v11 x27) o21 = some (.int .i64 x28) ∧
(0 ≤ x23 ∧ x23 < alen v11) ∧
∃ o29 : OS, stO (ixp 1 v11 x23) [.int .i64 x26] o21 = some o29 ∧
(0 ≤ x24 ∧ x24 < alen v11) ∧
∃ o30 : OS, stO (ixp 1 v11 x24) [.int .i64 x28] o29 = some o30 ∧
X0 [v11, .int .i64 x12, .int .i64 x13, .int .i64 x15] o30)

abbrev slices_siftDownOrdered_int_J42 (call : CallO) (n : Nat) (R : AV → OS → Prop) (j32 : List AV → OS → Prop) : List AV → OS → Prop := fun vals33 o34 =>
∃ v35 : AV, ∃ x36 : Int, ∃ x37 : Int, ∃ x38 : Int, ∃ x39 : Int, ∃ b40 : Bool, vals33 = [v35, .int .i64 x36, .int .i64 x37, .int .i64 x38, .int .i64 x39, .bool b40] ∧
cnd b40 (
bnd (IntKind.wrap .i64 (x39 + (1 : Int))) fun x41 =>
j32 [v35, .int .i64 x36, .int .i64 x37, .int .i64 x38, .int .i64 x41] o34) (
j32 [v35, .int .i64 x36, .int .i64 x37, .int .i64 x38, .int .i64 x39] o34)

abbrev slices_siftDownOrdered_int_L53 (call : CallO) (n : Nat) (R : AV → OS → Prop) : (List AV → OS → Prop) → List AV → OS → Prop := fun X0 vals1 o2 =>
∃ v3 : AV, ∃ x4 : Int, ∃ x5 : Int, ∃ x6 : Int, vals1 = [v3, .int .i64 x4, .int .i64 x5, .int .i64 x6] ∧
bnd (IntKind.wrap .i64 ((2 : Int) * x6)) fun x7 =>
bnd (IntKind.wrap .i64 (x7 + (1 : Int))) fun x8 =>
cnd (decide (x8 ≥ x4)) (
R (AV.tuple []) o2) (
jp (slices_siftDownOrdered_int_J31 call n R X0) fun j32 =>
jp (slices_siftDownOrdered_int_J42 call n R j32) fun j43 =>
bnd (IntKind.wrap .i64 (x8 + (1 : Int))) fun x44 =>
cnd (decide (x44 < x4)) (
bnd (IntKind.wrap .i64 (x5 + x8)) fun x45 =>
(0 ≤ x45 ∧ x45 < alen v3) ∧
∃ x46 : Int, ldO false 1 (ixp 1 v3 x45) o2 = some (.int .i64 x46) ∧
bnd (IntKind.wrap .i64 (x5 + x8)) fun x47 =>
bnd (IntKind.wrap .i64 (x47 + (1 : Int))) fun x48 =>
(0 ≤ x48 ∧ x48 < alen v3) ∧
∃ x49 : Int, ldO false 1 (ixp 1 v3 x48) o2 = some (.int .i64 x49) ∧
call (.func n_cmp_Less_int) [.int .i64 x46, .int .i64 x49] o2 fun v50 o51 =>
∃ b52 : Bool, v50 = .bool b52 ∧
j43 [v3, .int .i64 x4, .int .i64 x5, .int .i64 x6, .int .i64 x8, .bool b52] o51) (
j43 [v3, .int .i64 x4, .int .i64 x5, .int .i64 x6, .int .i64 x8, .bool false] o2))

abbrev slices_siftDownOrdered_int (call : CallO) (n : Nat) (R : AV → OS → Prop) (a0 : AV) (a1 : Int) (a2 : Int) (a3 : Int) (o : OS) : Prop :=
lp n (slices_siftDownOrdered_int_L53 call n R) [a0, .int .i64 a2, .int .i64 a3, .int .i64 a1] o

theorem slices_siftDownOrdered_int_eq (call : CallO) (n : Nat) (R : AV → OS → Prop) (a0 : AV) (a1 : Int) (a2 : Int) (a3 : Int) (o : OS) : gFun Try.prog call n 40 [a0, .int .i64 a1, .int .i64 a2, .int .i64 a3] o R = slices_siftDownOrdered_int call n R a0 a1 a2 a3 o := by kernel_rfl
theorem slices_siftDownOrdered_int_go (n : Nat) {a0 : AV} {a1 : Int} {a2 : Int} {a3 : Int} {o : OS} {K : AV → OS → Prop} (h : slices_siftDownOrdered_int (GoF Try.prog) n (rt o K) a0 a1 a2 a3 o) : Go Try.prog n_slices_siftDownOrdered_int [a0, .int .i64 a1, .int .i64 a2, .int .i64 a3] o K :=
  Go.of sane (n := n) ((slices_siftDownOrdered_int_eq (GoF Try.prog) n (rt o K) a0 a1 a2 a3 o).mpr h)

/-! slices.nextPowerOfTwo -/

abbrev slices_nextPowerOfTwo (call : CallO) (n : Nat) (R : AV → OS → Prop) (a0 : Int) (o : OS) : Prop :=
bnd (IntKind.wrap .u64 a0) fun x0 =>
call (.func n_math_bits_Len) [.int .u64 x0] o fun v1 o2 =>
∃ x3 : Int, v1 = .int .i64 x3 ∧
0 ≤ x3 ∧
bnd (IntKind.wrap .u64 ((1 : Int) * 2 ^ (min (Int.toNat x3) (IntKind.bits .u64)))) fun x4 =>
R (AV.int .u64 x4) o2

theorem slices_nextPowerOfTwo_eq (call : CallO) (n : Nat) (R : AV → OS → Prop) (a0 : Int) (o : OS) : gFun Try.prog call n 41 [.int .i64 a0] o R = slices_nextPowerOfTwo call n R a0 o := by kernel_rfl
theorem slices_nextPowerOfTwo_go (n : Nat) {a0 : Int} {o : OS} {K : AV → OS → Prop} (h : slices_nextPowerOfTwo (GoF Try.prog) n (rt o K) a0 o) : Go Try.prog n_slices_nextPowerOfTwo [.int .i64 a0] o K :=
  Go.of sane (n := n) ((slices_nextPowerOfTwo_eq (GoF Try.prog) n (rt o K) a0 o).mpr h)

/-! (*slices.xorshift).Next -/

abbrev slices_xorshift_Next (call : CallO) (n : Nat) (R : AV → OS → Prop) (a0 : AV) (o : OS) : Prop :=
AV.nnil a0 = true ∧
∃ x0 : Int, ldO false 1 a0 o = some (.int .u64 x0) ∧
AV.nnil a0 = true ∧
∃ x1 : Int, ldO false 1 a0 o = some (.int .u64 x1) ∧
0 ≤ (13 : Int) ∧
bnd (IntKind.wrap .u64 (x1 * 2 ^ (min (Int.toNat (13 : Int)) (IntKind.bits .u64)))) fun x2 =>
bnd (IntKind.wrap .u64 (BitVec.toNat (BitVec.ofInt (IntKind.bits .u64) x0 ^^^ BitVec.ofInt (IntKind.bits .u64) x2))) fun x3 =>
AV.nnil a0 = true ∧
∃ o4 : OS, stO a0 [.int .u64 x3] o = some o4 ∧
AV.nnil a0 = true ∧
∃ x5 : Int, ldO false 1 a0 o4 = some (.int .u64 x5) ∧
AV.nnil a0 = true ∧
∃ x6 : Int, ldO false 1 a0 o4 = some (.int .u64 x6) ∧
0 ≤ (7 : Int) ∧
bnd (Int.fdiv x6 (2 ^ (min (Int.toNat (7 : Int)) (IntKind.bits .u64)))) fun x7 =>
bnd (IntKind.wrap .u64 (BitVec.toNat (BitVec.ofInt (IntKind.bits .u64) x5 ^^^ BitVec.ofInt (IntKind.bits .u64) x7))) fun x8 =>
AV.nnil a0 = true ∧
∃ o9 : OS, stO a0 [.int .u64 x8] o4 = some o9 ∧
AV.nnil a0 = true ∧
∃ x10 : Int, ldO false 1 a0 o9 = some (.int .u64 x10) ∧
AV.nnil a0 = true ∧
∃ x11 : Int, ldO false 1 a0 o9 = some (.int .u64 x11) ∧
0 ≤ (17 : Int) ∧
bnd (IntKind.wrap .u64 (x11 * 2 ^ (min (Int.toNat (17 : Int)) (IntKind.bits .u64)))) fun x12 =>
bnd (IntKind.wrap .u64 (BitVec.toNat (BitVec.ofInt (IntKind.bits .u64) x10 ^^^ BitVec.ofInt (IntKind.bits .u64) x12))) fun x13 =>
AV.nnil a0 = true ∧
∃ o14 : OS, stO a0 [.int .u64 x13] o9 = some o14 ∧
AV.nnil a0 = true ∧
∃ x15 : Int, ldO false 1 a0 o14 = some (.int .u64 x15) ∧
R (AV.int .u64 x15) o14

theorem slices_xorshift_Next_eq (call : CallO) (n : Nat) (R : AV → OS → Prop) (a0 : AV) (o : OS) : gFun Try.prog call n 42 [a0] o R = slices_xorshift_Next call n R a0 o := by kernel_rfl
theorem slices_xorshift_Next_go (n : Nat) {a0 : AV} {o : OS} {K : AV → OS → Prop} (h : slices_xorshift_Next (GoF Try.prog) n (rt o K) a0 o) : Go Try.prog n_slices_xorshift_Next [a0] o K :=
  Go.of sane (n := n) ((slices_xorshift_Next_eq (GoF Try.prog) n (rt o K) a0 o).mpr h)

/-! slices.medianAdjacentOrdered[int] -/

abbrev slices_medianAdjacentOrdered_int (call : CallO) (n : Nat) (R : AV → OS → Prop) (a0 : AV) (a1 : Int) (a2 : AV) (o : OS) : Prop :=
bnd (IntKind.wrap .i64 (a1 - (1 : Int))) fun x0 =>
bnd (IntKind.wrap .i64 (a1 + (1 : Int))) fun x1 =>
call (.func n_slices_medianOrdered_int) [a0, .int .i64 x0, .int .i64 a1, .int .i64 x1, a2] o fun v2 o3 =>
∃ x4 : Int, v2 = .int .i64 x4 ∧
R (AV.int .i64 x4) o3

theorem slices_medianAdjacentOrdered_int_eq (call : CallO) (n : Nat) (R : AV → OS → Prop) (a0 : AV) (a1 : Int) (a2 : AV) (o : OS) : gFun Try.prog call n 43 [a0, .int .i64 a1, a2] o R = slices_medianAdjacentOrdered_int call n R a0 a1 a2 o := by kernel_rfl
theorem slices_medianAdjacentOrdered_int_go (n : Nat) {a0 : AV} {a1 : Int} {a2 : AV} {o : OS} {K : AV → OS → Prop} (h : slices_medianAdjacentOrdered_int (GoF Try.prog) n (rt o K) a0 a1 a2 o) : Go Try.prog n_slices_medianAdjacentOrdered_int [a0, .int .i64 a1, a2] o K :=
  Go.of sane (n := n) ((slices_medianAdjacentOrdered_int_eq (GoF Try.prog) n (rt o K) a0 a1 a2 o).mpr h)

/-! slices.medianOrdered[int] -/

abbrev slices_medianOrdered_int (call : CallO) (n : Nat) (R : AV → OS → Prop) (a0 : AV) (a1 : Int) (a2 : Int) (a3 : Int) (a4 : AV) (o : OS) : Prop :=
call (.func n_slices_order2Ordered_int) [a0, .int .i64 a1, .int .i64 a2, a4] o fun v0 o1 =>
∃ x2 : Int, ∃ x3 : Int, v0 = .tuple [.int .i64 x2, .int .i64 x3] ∧
call (.func n_slices_order2Ordered_int) [a0, .int .i64 x3, .int .i64 a3, a4] o1 fun v4 o5 =>
∃ x6 : Int, ∃ x7 : Int, v4 = .tuple [.int .i64 x6, .int .i64 x7] ∧
call (.func n_slices_order2Ordered_int) [a0, .int .i64 x2, .int .i64 x6, a4] o5 fun v8 o9 =>
∃ x10 : Int, ∃ x11 : Int, v8 = .tuple [.int .i64 x10, .int .i64 x11] ∧
R (AV.int .i64 x11) o9

theorem slices_medianOrdered_int_eq (call : CallO) (n : Nat) (R : AV → OS → Prop) (a0 : AV) (a1 : Int) (a2 : Int) (a3 : Int) (a4 : AV) (o : OS) : gFun Try.prog call n 44 [a0, .int .i64 a1, .int .i64 a2, .int .i64 a3, a4] o R = slices_medianOrdered_int call n R a0 a1 a2 a3 a4 o := by kernel_rfl
theorem slices_medianOrdered_int_go (n : Nat) {a0 : AV} {a1 : Int} {a2 : Int} {a3 : Int} {a4 : AV} {o : OS} {K : AV → OS → Prop} (h : slices_medianOrdered_int (GoF Try.prog) n (rt o K) a0 a1 a2 a3 a4 o) : Go Try.prog n_slices_medianOrdered_int [a0, .int .i64 a1, .int .i64 a2, .int .i64 a3, a4] o K :=
  Go.of sane (n := n) ((slices_medianOrdered_int_eq (GoF Try.prog) n (rt o K) a0 a1 a2 a3 a4 o).mpr h)

/-! cmp.isNaN[int] -/

abbrev cmp_isNaN_int (call : CallO) (n : Nat) (R : AV → OS → Prop) (a0 : Int) (o : OS) : Prop :=
R (AV.bool (a0 != a0)) o

theorem cmp_isNaN_int_eq (call : CallO) (n : Nat) (R : AV → OS → Prop) (a0 : Int) (o : OS) : gFun Try.prog call n 45 [.int .i64 a0] o R = cmp_isNaN_int call n R a0 o := by kernel_rfl
theorem cmp_isNaN_int_go (n : Nat) {a0 : Int} {o : OS} {K : AV → OS → Prop} (h : cmp_isNaN_int (GoF Try.prog) n (rt o K) a0 o) : Go Try.prog n_cmp_isNaN_int [.int .i64 a0] o K :=
  Go.of sane (n := n) ((cmp_isNaN_int_eq (GoF Try.prog) n (rt o K) a0 o).mpr h)

/-! slices.order2Ordered[int] -/

abbrev slices_order2Ordered_int (call : CallO) (n : Nat) (R : AV → OS → Prop) (a0 : AV) (a1 : Int) (a2 : Int) (a3 : AV) (o : OS) : Prop :=
(0 ≤ a2 ∧ a2 < alen a0) ∧
∃ x0 : Int, ldO false 1 (ixp 1 a0 a2) o = some (.int .i64 x0) ∧
(0 ≤ a1 ∧ a1 < alen a0) ∧
∃ x1 : Int, ldO false 1 (ixp 1 a0 a1) o = some (.int .i64 x1) ∧
call (.func n_cmp_Less_int) [.int .i64 x0, .int .i64 x1] o fun v2 o3 =>
∃ b4 : Bool, v2 = .bool b4 ∧
cnd b4 (
AV.nnil a3 = true ∧
∃ x5 : Int, ldO false 1 a3 o3 = some (.int .i64 x5) ∧
bnd (IntKind.wrap .i64 (x5 + (1 : Int))) fun x6 =>
AV.nnil a3 = true ∧
∃ o7 : OS, stO a3 [.int .i64 x6] o3 = some o7 ∧
R (AV.tuple [.int .i64 a2, .int .i64 a1]) o7) (
R (AV.tuple [.int .i64 a1, .int .i64 a2]) o3)

theorem slices_order2Ordered_int_eq (call : CallO) (n : Nat) (R : AV → OS → Prop) (a0 : AV) (a1 : Int) (a2 : Int) (a3 : AV) (o : OS) : gFun Try.prog call n 47 [a0, .int .i64 a1, .int .i64 a2, a3] o R = slices_order2Ordered_int call n R a0 a1 a2 a3 o := by kernel_rfl
theorem slices_order2Ordered_int_go (n : Nat) {a0 : AV} {a1 : Int} {a2 : Int} {a3 : AV} {o : OS} {K : AV → OS → Prop} (h : slices_order2Ordered_int (GoF Try.prog) n (rt o K) a0 a1 a2 a3 o) : Go Try.prog n_slices_order2Ordered_int [a0, .int .i64 a1, .int .i64 a2, a3] o K :=
  Go.of sane (n := n) ((slices_order2Ordered_int_eq (GoF Try.prog) n (rt o K) a0 a1 a2 a3 o).mpr h)

end Go.Proofs.Ytlcapliakfomhaa
