/- T1: functions of the program in the typed form, printed by a program of our own (wip/laws/Print.lean.txt). -/
import Derived.Test.YtlcapliakfomhaaT0
set_option linter.all false
set_option maxRecDepth 100000
set_option autoImplicit false
namespace Go.Proofs.Ytlcapliakfomhaa
open Go Go.Ab
/-! twain/twainlaw47.StatsRanks -/
abbrev twainlaw47_StatsRanks_J34 (call : CallO) (n : Nat) (R : AV → OS → Prop) : List AV → OS → Prop := fun vals31 o32 =>
∃ b33 : Bool, vals31 = [.bool b33] ∧
R (AV.bool b33) o32

abbrev twainlaw47_StatsRanks_J42 (call : CallO) (n : Nat) (R : AV → OS → Prop) : List AV → OS → Prop := fun vals26 o27 =>
∃ v28 : AV, ∃ v29 : AV, ∃ x30 : Int, vals26 = [v28, v29, .int .i64 x30] ∧
jp (twainlaw47_StatsRanks_J34 call n R) fun j35 =>
AV.isS v29 = true ∧
cnd ((alen v29) == (0 : Int)) (
call (.func n_twainlaw47_lives) [] o27 fun v36 o37 =>
∃ b38 : Bool, v36 = .bool b38 ∧
j35 [.bool b38] o37) (
AV.isS v28 = true ∧
cnd (x30 == (alen v28)) (
call (.func n_twainlaw47_lives) [] o27 fun v39 o40 =>
∃ b41 : Bool, v39 = .bool b41 ∧
j35 [.bool b41] o40) (
j35 [.bool false] o27))

abbrev twainlaw47_StatsRanks_L56 (call : CallO) (n : Nat) (R : AV → OS → Prop) (j43 : List AV → OS → Prop) : (List AV → OS → Prop) → List AV → OS → Prop := fun X44 vals45 o46 =>
∃ v47 : AV, ∃ v48 : AV, ∃ x49 : Int, ∃ v50 : AV, ∃ x51 : Int, ∃ x52 : Int, vals45 = [v47, v48, .int .i64 x49, v50, .int .i64 x51, .int .i64 x52] ∧
cnd (decide (x52 < x51)) (
(0 ≤ x52 ∧ x52 < alen v50) ∧
∃ x53 : Int, ldO false 1 (ixp 1 v50 x52) o46 = some (.int .i64 x53) ∧
bnd (IntKind.wrap .i64 (x49 + x53)) fun x54 =>
bnd (IntKind.wrap .i64 (x52 + (1 : Int))) fun x55 =>
X44 [v47, v48, .int .i64 x54, v50, .int .i64 x51, .int .i64 x55] o46) (
j43 [v47, v48, .int .i64 x49] o46)

abbrev twainlaw47_StatsRanks_J57 (call : CallO) (n : Nat) (R : AV → OS → Prop) : List AV → OS → Prop := fun vals21 o22 =>
∃ v23 : AV, ∃ v24 : AV, ∃ b25 : Bool, vals21 = [v23, v24, .bool b25] ∧
cnd b25 (
R (AV.bool false) o22) (
jp (twainlaw47_StatsRanks_J42 call n R) fun j43 =>
AV.isS v24 = true ∧
lp n (twainlaw47_StatsRanks_L56 call n R j43) [v23, v24, .int .i64 (0 : Int), v24, .int .i64 (alen v24), .int .i64 (0 : Int)] o22)

abbrev twainlaw47_StatsRanks (call : CallO) (n : Nat) (R : AV → OS → Prop) (a0 : AV) (a1x0 : Int) (a1x1 : Int) (a1x2 : Int) (a1x3 : Int) (o : OS) : Prop :=
bnd (o ++ [AO.cells true [.int .i64 a1x0, .int .i64 a1x1, .int .i64 a1x2, .int .i64 a1x3]]) fun o0 =>
AV.isP (AV.ptr (List.length o) 0) = true ∧
∃ x1 : Int, ldO false 1 (padd 0 (AV.ptr (List.length o) 0)) o0 = some (.int .i64 x1) ∧
AV.isP (AV.ptr (List.length o) 0) = true ∧
∃ x2 : Int, ldO false 1 (padd 1 (AV.ptr (List.length o) 0)) o0 = some (.int .i64 x2) ∧
AV.isP (AV.ptr (List.length o) 0) = true ∧
∃ x3 : Int, ldO false 1 (padd 2 (AV.ptr (List.length o) 0)) o0 = some (.int .i64 x3) ∧
AV.isP (AV.ptr (List.length o) 0) = true ∧
∃ x4 : Int, ldO false 1 (padd 3 (AV.ptr (List.length o) 0)) o0 = some (.int .i64 x4) ∧
AV.isS a0 = true ∧
cnd (decide ((alen a0) > (200 : Int))) (
call (.func n_twainlaw47_lives) [] o0 fun v5 o6 =>
∃ b7 : Bool, v5 = .bool b7 ∧
R (AV.bool b7) o6) (
bnd (o0 ++ [AO.cells true []]) fun o8 =>
∃ (v9 : AV) (o10 : OS), appO 1 8 (AV.slice (List.length o0) 0 0 0 0) a0 o8 = some (v9, o10) ∧
call (.func n_stats_Rank) [v9, .int .i64 x1, .int .i64 x2] o10 fun v11 o12 =>
∃ x13 : Int, ∃ b14 : Bool, v11 = .tuple [.int .i64 x13, .bool b14] ∧
call (.func n_twainref47_Rank) [a0, .int .i64 x1, .int .i64 x2] o12 fun v15 o16 =>
∃ x17 : Int, ∃ b18 : Bool, v15 = .tuple [.int .i64 x17, .bool b18] ∧
call (.func n_stats_Bars) [v9, .int .i64 x3, .int .i64 x4] o16 fun v19 o20 =>
jp (twainlaw47_StatsRanks_J57 call n R) fun j58 =>
cnd (x13 != x17) (
j58 [a0, v19, .bool true] o20) (
cnd (!(b14 == b18)) (
j58 [a0, v19, .bool true] o20) (
call (.func n_twainref47_Bars) [a0, .int .i64 x3, .int .i64 x4] o20 fun v59 o60 =>
call (.func n_twainref01_Ints) [v19, v59] o60 fun v61 o62 =>
∃ b63 : Bool, v61 = .bool b63 ∧
cnd (!b63) (
j58 [a0, v19, .bool true] o62) (
call (.func n_twainref01_Ints) [v9, a0] o62 fun v64 o65 =>
∃ b66 : Bool, v64 = .bool b66 ∧
j58 [a0, v19, .bool (!b66)] o65))))

theorem twainlaw47_StatsRanks_eq (call : CallO) (n : Nat) (R : AV → OS → Prop) (a0 : AV) (a1x0 : Int) (a1x1 : Int) (a1x2 : Int) (a1x3 : Int) (o : OS) : gFun Try.prog call n 3 [a0, .agg [.int .i64 a1x0, .int .i64 a1x1, .int .i64 a1x2, .int .i64 a1x3]] o R = twainlaw47_StatsRanks call n R a0 a1x0 a1x1 a1x2 a1x3 o := by kernel_rfl
theorem twainlaw47_StatsRanks_go (n : Nat) {a0 : AV} {a1x0 : Int} {a1x1 : Int} {a1x2 : Int} {a1x3 : Int} {o : OS} {K : AV → OS → Prop} (h : twainlaw47_StatsRanks (GoF Try.prog) n (rt o K) a0 a1x0 a1x1 a1x2 a1x3 o) : Go Try.prog n_twainlaw47_StatsRanks [a0, .agg [.int .i64 a1x0, .int .i64 a1x1, .int .i64 a1x2, .int .i64 a1x3]] o K :=
  Go.of sane (n := n) ((twainlaw47_StatsRanks_eq (GoF Try.prog) n (rt o K) a0 a1x0 a1x1 a1x2 a1x3 o).mpr h)

/-! twain/twainlaw47.StatsWaits -/
abbrev twainlaw47_StatsWaits_J12 (call : CallO) (n : Nat) (R : AV → OS → Prop) : List AV → OS → Prop := fun vals9 o10 =>
∃ b11 : Bool, vals9 = [.bool b11] ∧
R (AV.bool b11) o10

abbrev twainlaw47_StatsWaits_J30 (call : CallO) (n : Nat) (R : AV → OS → Prop) : List AV → OS → Prop := fun vals0 o1 =>
∃ v2 : AV, ∃ b3 : Bool, vals0 = [v2, .bool b3] ∧
cnd b3 (
call (.func n_twainlaw47_lives) [] o1 fun v4 o5 =>
∃ b6 : Bool, v4 = .bool b6 ∧
R (AV.bool b6) o5) (
call (.func n_twainlaw36_Raw) [v2] o1 fun v7 o8 =>
jp (twainlaw47_StatsWaits_J12 call n R) fun j13 =>
call (.func n_stats_Waits) [v7] o8 fun v14 o15 =>
call (.func n_twainref47_Waits) [v2] o15 fun v16 o17 =>
call (.func n_twainref01_Ints) [v14, v16] o17 fun v18 o19 =>
∃ b20 : Bool, v18 = .bool b20 ∧
cnd b20 (
call (.func n_stats_Most) [v7] o19 fun v21 o22 =>
∃ x23 : Int, v21 = .int .i64 x23 ∧
call (.func n_twainref47_Most) [v2] o22 fun v24 o25 =>
∃ x26 : Int, v24 = .int .i64 x26 ∧
cnd (x23 == x26) (
call (.func n_twainlaw47_lives) [] o25 fun v27 o28 =>
∃ b29 : Bool, v27 = .bool b29 ∧
j13 [.bool b29] o28) (
j13 [.bool false] o25)) (
j13 [.bool false] o19))

abbrev twainlaw47_StatsWaits (call : CallO) (n : Nat) (R : AV → OS → Prop) (a0 : AV) (o : OS) : Prop :=
jp (twainlaw47_StatsWaits_J30 call n R) fun j31 =>
call (.func n_twainlaw36_Few) [a0] o fun v32 o33 =>
∃ b34 : Bool, v32 = .bool b34 ∧
cnd (!b34) (
j31 [a0, .bool true] o33) (
AV.isS a0 = true ∧
j31 [a0, .bool (decide ((alen a0) > (30 : Int)))] o33)

theorem twainlaw47_StatsWaits_eq (call : CallO) (n : Nat) (R : AV → OS → Prop) (a0 : AV) (o : OS) : gFun Try.prog call n 4 [a0] o R = twainlaw47_StatsWaits call n R a0 o := by kernel_rfl
theorem twainlaw47_StatsWaits_go (n : Nat) {a0 : AV} {o : OS} {K : AV → OS → Prop} (h : twainlaw47_StatsWaits (GoF Try.prog) n (rt o K) a0 o) : Go Try.prog n_twainlaw47_StatsWaits [a0] o K :=
  Go.of sane (n := n) ((twainlaw47_StatsWaits_eq (GoF Try.prog) n (rt o K) a0 o).mpr h)

/-! twain/twainlaw47.lives -/
abbrev twainlaw47_lives_J8 (call : CallO) (n : Nat) (R : AV → OS → Prop) : List AV → OS → Prop := fun vals5 o6 =>
∃ b7 : Bool, vals5 = [.bool b7] ∧
R (AV.bool b7) o6

abbrev twainlaw47_lives (call : CallO) (n : Nat) (R : AV → OS → Prop) (o : OS) : Prop :=
bnd (o ++ [AO.cells true [.int .i64 (5 : Int), .int .i64 (1 : Int), .int .i64 (3 : Int)]]) fun o0 =>
call (.func n_stats_Rank) [(AV.slice (List.length o) 0 3 3 0), .int .i64 (1 : Int), .int .i64 (2 : Int)] o0 fun v1 o2 =>
∃ x3 : Int, ∃ b4 : Bool, v1 = .tuple [.int .i64 x3, .bool b4] ∧
jp (twainlaw47_lives_J8 call n R) fun j9 =>
cnd (x3 == (3 : Int)) (
cnd b4 (
bnd (o2 ++ [AO.cells true [.int .i64 (0 : Int), .int .i64 (4 : Int), .int .i64 (9 : Int)]]) fun o10 =>
call (.func n_stats_Bars) [(AV.slice (List.length o2) 0 3 3 0), .int .i64 (5 : Int), .int .i64 (2 : Int)] o10 fun v11 o12 =>
bnd (o12 ++ [AO.cells true [.int .i64 (2 : Int), .int .i64 (1 : Int)]]) fun o13 =>
call (.func n_twainref01_Ints) [v11, (AV.slice (List.length o12) 0 2 2 0)] o13 fun v14 o15 =>
∃ b16 : Bool, v14 = .bool b16 ∧
cnd b16 (
AV.one .nilslice = true ∧
AV.one .nilslice = true ∧
bnd (o15 ++ [AO.cells true [.int .i64 (2 : Int), .int .i64 (0 : Int), .int .i64 (0 : Int), .int .i64 (0 : Int), .int .i64 (0 : Int), .int .i64 (0 : Int), .nilslice, .nilslice]]) fun o17 =>
call (.func n_stats_Of) [(AV.slice (List.length o15) 0 1 1 0), .int .i64 (0 : Int)] o17 fun v18 o19 =>
∃ x20 : Int, ∃ x21 : Int, ∃ x22 : Int, ∃ x23 : Int, ∃ x24 : Int, ∃ x25 : Int, v18 = .agg [.int .i64 x20, .int .i64 x21, .int .i64 x22, .int .i64 x23, .int .i64 x24, .int .i64 x25] ∧
j9 [.bool (x24 == (1 : Int))] o19) (
j9 [.bool false] o15)) (
j9 [.bool false] o2)) (
j9 [.bool false] o2)

theorem twainlaw47_lives_eq (call : CallO) (n : Nat) (R : AV → OS → Prop) (o : OS) : gFun Try.prog call n 5 [] o R = twainlaw47_lives call n R o := by kernel_rfl
theorem twainlaw47_lives_go (n : Nat) {o : OS} {K : AV → OS → Prop} (h : twainlaw47_lives (GoF Try.prog) n (rt o K) o) : Go Try.prog n_twainlaw47_lives [] o K :=
  Go.of sane (n := n) ((twainlaw47_lives_eq (GoF Try.prog) n (rt o K) o).mpr h)

/-! twain/stats.Rank -/
abbrev stats_Rank_J15 (call : CallO) (n : Nat) (R : AV → OS → Prop) : List AV → OS → Prop := fun vals0 o1 =>
∃ v2 : AV, ∃ x3 : Int, ∃ x4 : Int, ∃ b5 : Bool, vals0 = [v2, .int .i64 x3, .int .i64 x4, .bool b5] ∧
cnd b5 (
R (AV.tuple [.int .i64 (0 : Int), .bool false]) o1) (
AV.isS v2 = true ∧
(0 ≤ (alen v2) ∧ (alen v2) ≤ (alen v2) ∧ (alen v2) ≤ 4294967296) ∧
bnd (o1 ++ [AO.cells true (times [.int .i64 (0 : Int)] (Int.toNat (alen v2)))]) fun o6 =>
∃ (x7 : Int) (o8 : OS), cpO 1 (AV.slice (List.length o1) 0 (Int.toNat (alen v2)) (Int.toNat (alen v2)) 0) v2 o6 = some (x7, o8) ∧
call (.func n_slices_Sort__intint) [(AV.slice (List.length o1) 0 (Int.toNat (alen v2)) (Int.toNat (alen v2)) 0)] o8 fun v9 o10 =>
AV.isS v2 = true ∧
bnd (IntKind.wrap .i64 ((alen v2) - (1 : Int))) fun x11 =>
bnd (IntKind.wrap .i64 (x11 * x3)) fun x12 =>
x4 ≠ 0 ∧
bnd (IntKind.wrap .i64 (Int.tdiv x12 x4)) fun x13 =>
(0 ≤ x13 ∧ x13 < alen (AV.slice (List.length o1) 0 (Int.toNat (alen v2)) (Int.toNat (alen v2)) 0)) ∧
∃ x14 : Int, ldO false 1 (ixp 1 (AV.slice (List.length o1) 0 (Int.toNat (alen v2)) (Int.toNat (alen v2)) 0) x13) o10 = some (.int .i64 x14) ∧
R (AV.tuple [.int .i64 x14, .bool true]) o10)

abbrev stats_Rank (call : CallO) (n : Nat) (R : AV → OS → Prop) (a0 : AV) (a1 : Int) (a2 : Int) (o : OS) : Prop :=
jp (stats_Rank_J15 call n R) fun j16 =>
AV.isS a0 = true ∧
cnd ((alen a0) == (0 : Int)) (
j16 [a0, .int .i64 a1, .int .i64 a2, .bool true] o) (
cnd (decide (a2 < (1 : Int))) (
j16 [a0, .int .i64 a1, .int .i64 a2, .bool true] o) (
cnd (decide (a2 > (1000 : Int))) (
j16 [a0, .int .i64 a1, .int .i64 a2, .bool true] o) (
cnd (decide (a1 < (0 : Int))) (
j16 [a0, .int .i64 a1, .int .i64 a2, .bool true] o) (
j16 [a0, .int .i64 a1, .int .i64 a2, .bool (decide (a1 > a2))] o))))

theorem stats_Rank_eq (call : CallO) (n : Nat) (R : AV → OS → Prop) (a0 : AV) (a1 : Int) (a2 : Int) (o : OS) : gFun Try.prog call n 6 [a0, .int .i64 a1, .int .i64 a2] o R = stats_Rank call n R a0 a1 a2 o := by kernel_rfl
theorem stats_Rank_go (n : Nat) {a0 : AV} {a1 : Int} {a2 : Int} {o : OS} {K : AV → OS → Prop} (h : stats_Rank (GoF Try.prog) n (rt o K) a0 a1 a2 o) : Go Try.prog n_stats_Rank [a0, .int .i64 a1, .int .i64 a2] o K :=
  Go.of sane (n := n) ((stats_Rank_eq (GoF Try.prog) n (rt o K) a0 a1 a2 o).mpr h)

/-! twain/twainref47.Rank -/
abbrev twainref47_Rank_J12 (call : CallO) (n : Nat) (R : AV → OS → Prop) : List AV → OS → Prop := fun vals0 o1 =>
∃ v2 : AV, ∃ x3 : Int, ∃ x4 : Int, ∃ b5 : Bool, vals0 = [v2, .int .i64 x3, .int .i64 x4, .bool b5] ∧
cnd b5 (
R (AV.tuple [.int .i64 (0 : Int), .bool false]) o1) (
AV.isS v2 = true ∧
bnd (IntKind.wrap .i64 ((alen v2) - (1 : Int))) fun x6 =>
bnd (IntKind.wrap .i64 (x6 * x3)) fun x7 =>
x4 ≠ 0 ∧
bnd (IntKind.wrap .i64 (Int.tdiv x7 x4)) fun x8 =>
call (.func n_twainref47_sorted) [v2] o1 fun v9 o10 =>
AV.isS v2 = true ∧
(AV.int .i64 (alen v2)) = (AV.int .i64 (alen v2)) ∧
beqA (AV.int .i64 (alen v2)) (AV.int .i64 (alen v2)) = true ∧
(0 ≤ x8 ∧ x8 < alen v9) ∧
∃ x11 : Int, ldO false 1 (ixp 1 v9 x8) o10 = some (.int .i64 x11) ∧
R (AV.tuple [.int .i64 x11, .bool true]) o10)

abbrev twainref47_Rank (call : CallO) (n : Nat) (R : AV → OS → Prop) (a0 : AV) (a1 : Int) (a2 : Int) (o : OS) : Prop :=
jp (twainref47_Rank_J12 call n R) fun j13 =>
AV.isS a0 = true ∧
cnd ((alen a0) == (0 : Int)) (
j13 [a0, .int .i64 a1, .int .i64 a2, .bool true] o) (
cnd (decide (a2 < (1 : Int))) (
j13 [a0, .int .i64 a1, .int .i64 a2, .bool true] o) (
cnd (decide (a2 > (1000 : Int))) (
j13 [a0, .int .i64 a1, .int .i64 a2, .bool true] o) (
cnd (decide (a1 < (0 : Int))) (
j13 [a0, .int .i64 a1, .int .i64 a2, .bool true] o) (
j13 [a0, .int .i64 a1, .int .i64 a2, .bool (decide (a1 > a2))] o))))

theorem twainref47_Rank_eq (call : CallO) (n : Nat) (R : AV → OS → Prop) (a0 : AV) (a1 : Int) (a2 : Int) (o : OS) : gFun Try.prog call n 7 [a0, .int .i64 a1, .int .i64 a2] o R = twainref47_Rank call n R a0 a1 a2 o := by kernel_rfl
theorem twainref47_Rank_go (n : Nat) {a0 : AV} {a1 : Int} {a2 : Int} {o : OS} {K : AV → OS → Prop} (h : twainref47_Rank (GoF Try.prog) n (rt o K) a0 a1 a2 o) : Go Try.prog n_twainref47_Rank [a0, .int .i64 a1, .int .i64 a2] o K :=
  Go.of sane (n := n) ((twainref47_Rank_eq (GoF Try.prog) n (rt o K) a0 a1 a2 o).mpr h)

/-! twain/stats.Bars -/
abbrev stats_Bars_J10 (call : CallO) (n : Nat) (R : AV → OS → Prop) : List AV → OS → Prop := fun vals7 o8 =>
∃ v9 : AV, vals7 = [v9] ∧
R v9 o8

abbrev stats_Bars_L30 (call : CallO) (n : Nat) (R : AV → OS → Prop) (j11 : List AV → OS → Prop) : (List AV → OS → Prop) → List AV → OS → Prop := fun X12 vals13 o14 =>
∃ x15 : Int, ∃ x16 : Int, ∃ v17 : AV, ∃ v18 : AV, ∃ x19 : Int, ∃ x20 : Int, vals13 = [.int .i64 x15, .int .i64 x16, v17, v18, .int .i64 x19, .int .i64 x20] ∧
cnd (decide (x20 < x19)) (
(0 ≤ x20 ∧ x20 < alen v18) ∧
∃ x21 : Int, ldO false 1 (ixp 1 v18 x20) o14 = some (.int .i64 x21) ∧
bnd ((if (0 : Int) > x21 then (0 : Int) else x21)) fun x22 =>
x15 ≠ 0 ∧
bnd (IntKind.wrap .i64 (Int.tdiv x22 x15)) fun x23 =>
bnd (IntKind.wrap .i64 (x16 - (1 : Int))) fun x24 =>
bnd ((if x24 < x23 then x24 else x23)) fun x25 =>
(0 ≤ x25 ∧ x25 < alen v17) ∧
∃ x26 : Int, ldO false 1 (ixp 1 v17 x25) o14 = some (.int .i64 x26) ∧
bnd (IntKind.wrap .i64 (x26 + (1 : Int))) fun x27 =>
(0 ≤ x25 ∧ x25 < alen v17) ∧
∃ o28 : OS, stO (ixp 1 v17 x25) [.int .i64 x27] o14 = some o28 ∧
bnd (IntKind.wrap .i64 (x20 + (1 : Int))) fun x29 =>
X12 [.int .i64 x15, .int .i64 x16, v17, v18, .int .i64 x19, .int .i64 x29] o28) (
j11 [v17] o14)

abbrev stats_Bars_J31 (call : CallO) (n : Nat) (R : AV → OS → Prop) : List AV → OS → Prop := fun vals0 o1 =>
∃ v2 : AV, ∃ x3 : Int, ∃ x4 : Int, ∃ b5 : Bool, vals0 = [v2, .int .i64 x3, .int .i64 x4, .bool b5] ∧
cnd b5 (
R .nilslice o1) (
(0 ≤ x4 ∧ x4 ≤ x4 ∧ x4 ≤ 4294967296) ∧
bnd (o1 ++ [AO.cells true (times [.int .i64 (0 : Int)] (Int.toNat x4))]) fun o6 =>
jp (stats_Bars_J10 call n R) fun j11 =>
AV.isS v2 = true ∧
lp n (stats_Bars_L30 call n R j11) [.int .i64 x3, .int .i64 x4, (AV.slice (List.length o1) 0 (Int.toNat x4) (Int.toNat x4) 0), v2, .int .i64 (alen v2), .int .i64 (0 : Int)] o6)

abbrev stats_Bars (call : CallO) (n : Nat) (R : AV → OS → Prop) (a0 : AV) (a1 : Int) (a2 : Int) (o : OS) : Prop :=
jp (stats_Bars_J31 call n R) fun j32 =>
cnd (decide (a1 < (1 : Int))) (
j32 [a0, .int .i64 a1, .int .i64 a2, .bool true] o) (
cnd (decide (a2 < (1 : Int))) (
j32 [a0, .int .i64 a1, .int .i64 a2, .bool true] o) (
j32 [a0, .int .i64 a1, .int .i64 a2, .bool (decide (a2 > (100 : Int)))] o))

theorem stats_Bars_eq (call : CallO) (n : Nat) (R : AV → OS → Prop) (a0 : AV) (a1 : Int) (a2 : Int) (o : OS) : gFun Try.prog call n 8 [a0, .int .i64 a1, .int .i64 a2] o R = stats_Bars call n R a0 a1 a2 o := by kernel_rfl
theorem stats_Bars_go (n : Nat) {a0 : AV} {a1 : Int} {a2 : Int} {o : OS} {K : AV → OS → Prop} (h : stats_Bars (GoF Try.prog) n (rt o K) a0 a1 a2 o) : Go Try.prog n_stats_Bars [a0, .int .i64 a1, .int .i64 a2] o K :=
  Go.of sane (n := n) ((stats_Bars_eq (GoF Try.prog) n (rt o K) a0 a1 a2 o).mpr h)

/-! twain/twainref01.Ints -/
abbrev twainref01_Ints_J2 (call : CallO) (n : Nat) (R : AV → OS → Prop) : List AV → OS → Prop := fun vals0 o1 =>
vals0 = [] ∧
R (AV.bool true) o1

abbrev twainref01_Ints_L14 (call : CallO) (n : Nat) (R : AV → OS → Prop) (j3 : List AV → OS → Prop) : (List AV → OS → Prop) → List AV → OS → Prop := fun X4 vals5 o6 =>
∃ v7 : AV, ∃ v8 : AV, ∃ x9 : Int, ∃ x10 : Int, vals5 = [v7, v8, .int .i64 x9, .int .i64 x10] ∧
cnd (decide (x10 < x9)) (
(0 ≤ x10 ∧ x10 < alen v7) ∧
∃ x11 : Int, ldO false 1 (ixp 1 v7 x10) o6 = some (.int .i64 x11) ∧
(0 ≤ x10 ∧ x10 < alen v8) ∧
∃ x12 : Int, ldO false 1 (ixp 1 v8 x10) o6 = some (.int .i64 x12) ∧
cnd (x11 != x12) (
R (AV.bool false) o6) (
bnd (IntKind.wrap .i64 (x10 + (1 : Int))) fun x13 =>
X4 [v7, v8, .int .i64 x9, .int .i64 x13] o6)) (
j3 [] o6)

abbrev twainref01_Ints (call : CallO) (n : Nat) (R : AV → OS → Prop) (a0 : AV) (a1 : AV) (o : OS) : Prop :=
AV.isS a0 = true ∧
AV.isS a1 = true ∧
cnd ((alen a0) != (alen a1)) (
R (AV.bool false) o) (
jp (twainref01_Ints_J2 call n R) fun j3 =>
AV.isS a0 = true ∧
lp n (twainref01_Ints_L14 call n R j3) [a0, a1, .int .i64 (alen a0), .int .i64 (0 : Int)] o)

theorem twainref01_Ints_eq (call : CallO) (n : Nat) (R : AV → OS → Prop) (a0 : AV) (a1 : AV) (o : OS) : gFun Try.prog call n 9 [a0, a1] o R = twainref01_Ints call n R a0 a1 o := by kernel_rfl
theorem twainref01_Ints_go (n : Nat) {a0 : AV} {a1 : AV} {o : OS} {K : AV → OS → Prop} (h : twainref01_Ints (GoF Try.prog) n (rt o K) a0 a1 o) : Go Try.prog n_twainref01_Ints [a0, a1] o K :=
  Go.of sane (n := n) ((twainref01_Ints_eq (GoF Try.prog) n (rt o K) a0 a1 o).mpr h)

/-! twain/twainref47.Bars -/
abbrev twainref47_Bars_J10 (call : CallO) (n : Nat) (R : AV → OS → Prop) : List AV → OS → Prop := fun vals7 o8 =>
∃ v9 : AV, vals7 = [v9] ∧
R v9 o8

abbrev twainref47_Bars_J44 (call : CallO) (n : Nat) (R : AV → OS → Prop) (X12 : List AV → OS → Prop) : List AV → OS → Prop := fun vals31 o32 =>
∃ x33 : Int, ∃ x34 : Int, ∃ v35 : AV, ∃ x36 : Int, ∃ v37 : AV, ∃ x38 : Int, ∃ x39 : Int, vals31 = [.int .i64 x33, .int .i64 x34, v35, .int .i64 x36, v37, .int .i64 x38, .int .i64 x39] ∧
(0 ≤ x36 ∧ x36 < alen v35) ∧
∃ x40 : Int, ldO false 1 (ixp 1 v35 x36) o32 = some (.int .i64 x40) ∧
bnd (IntKind.wrap .i64 (x40 + (1 : Int))) fun x41 =>
(0 ≤ x36 ∧ x36 < alen v35) ∧
∃ o42 : OS, stO (ixp 1 v35 x36) [.int .i64 x41] o32 = some o42 ∧
bnd (IntKind.wrap .i64 (x39 + (1 : Int))) fun x43 =>
X12 [.int .i64 x33, .int .i64 x34, v35, v37, .int .i64 x38, .int .i64 x43] o42

abbrev twainref47_Bars_J47 (call : CallO) (n : Nat) (R : AV → OS → Prop) (X12 : List AV → OS → Prop) : List AV → OS → Prop := fun vals22 o23 =>
∃ x24 : Int, ∃ x25 : Int, ∃ v26 : AV, ∃ x27 : Int, ∃ v28 : AV, ∃ x29 : Int, ∃ x30 : Int, vals22 = [.int .i64 x24, .int .i64 x25, v26, .int .i64 x27, v28, .int .i64 x29, .int .i64 x30] ∧
jp (twainref47_Bars_J44 call n R X12) fun j45 =>
cnd (decide (x27 ≥ x25)) (
bnd (IntKind.wrap .i64 (x25 - (1 : Int))) fun x46 =>
j45 [.int .i64 x24, .int .i64 x25, v26, .int .i64 x46, v28, .int .i64 x29, .int .i64 x30] o23) (
j45 [.int .i64 x24, .int .i64 x25, v26, .int .i64 x27, v28, .int .i64 x29, .int .i64 x30] o23)

abbrev twainref47_Bars_L50 (call : CallO) (n : Nat) (R : AV → OS → Prop) (j11 : List AV → OS → Prop) : (List AV → OS → Prop) → List AV → OS → Prop := fun X12 vals13 o14 =>
∃ x15 : Int, ∃ x16 : Int, ∃ v17 : AV, ∃ v18 : AV, ∃ x19 : Int, ∃ x20 : Int, vals13 = [.int .i64 x15, .int .i64 x16, v17, v18, .int .i64 x19, .int .i64 x20] ∧
cnd (decide (x20 < x19)) (
(0 ≤ x20 ∧ x20 < alen v18) ∧
∃ x21 : Int, ldO false 1 (ixp 1 v18 x20) o14 = some (.int .i64 x21) ∧
jp (twainref47_Bars_J47 call n R X12) fun j48 =>
cnd (decide (x21 > (0 : Int))) (
x15 ≠ 0 ∧
bnd (IntKind.wrap .i64 (Int.tdiv x21 x15)) fun x49 =>
j48 [.int .i64 x15, .int .i64 x16, v17, .int .i64 x49, v18, .int .i64 x19, .int .i64 x20] o14) (
j48 [.int .i64 x15, .int .i64 x16, v17, .int .i64 (0 : Int), v18, .int .i64 x19, .int .i64 x20] o14)) (
j11 [v17] o14)

abbrev twainref47_Bars_J51 (call : CallO) (n : Nat) (R : AV → OS → Prop) : List AV → OS → Prop := fun vals0 o1 =>
∃ v2 : AV, ∃ x3 : Int, ∃ x4 : Int, ∃ b5 : Bool, vals0 = [v2, .int .i64 x3, .int .i64 x4, .bool b5] ∧
cnd b5 (
R .nilslice o1) (
(0 ≤ x4 ∧ x4 ≤ x4 ∧ x4 ≤ 4294967296) ∧
bnd (o1 ++ [AO.cells true (times [.int .i64 (0 : Int)] (Int.toNat x4))]) fun o6 =>
jp (twainref47_Bars_J10 call n R) fun j11 =>
AV.isS v2 = true ∧
lp n (twainref47_Bars_L50 call n R j11) [.int .i64 x3, .int .i64 x4, (AV.slice (List.length o1) 0 (Int.toNat x4) (Int.toNat x4) 0), v2, .int .i64 (alen v2), .int .i64 (0 : Int)] o6)

abbrev twainref47_Bars (call : CallO) (n : Nat) (R : AV → OS → Prop) (a0 : AV) (a1 : Int) (a2 : Int) (o : OS) : Prop :=
jp (twainref47_Bars_J51 call n R) fun j52 =>
cnd (decide (a1 < (1 : Int))) (
j52 [a0, .int .i64 a1, .int .i64 a2, .bool true] o) (
cnd (decide (a2 < (1 : Int))) (
j52 [a0, .int .i64 a1, .int .i64 a2, .bool true] o) (
j52 [a0, .int .i64 a1, .int .i64 a2, .bool (decide (a2 > (100 : Int)))] o))

theorem twainref47_Bars_eq (call : CallO) (n : Nat) (R : AV → OS → Prop) (a0 : AV) (a1 : Int) (a2 : Int) (o : OS) : gFun Try.prog call n 10 [a0, .int .i64 a1, .int .i64 a2] o R = twainref47_Bars call n R a0 a1 a2 o := by kernel_rfl
theorem twainref47_Bars_go (n : Nat) {a0 : AV} {a1 : Int} {a2 : Int} {o : OS} {K : AV → OS → Prop} (h : twainref47_Bars (GoF Try.prog) n (rt o K) a0 a1 a2 o) : Go Try.prog n_twainref47_Bars [a0, .int .i64 a1, .int .i64 a2] o K :=
  Go.of sane (n := n) ((twainref47_Bars_eq (GoF Try.prog) n (rt o K) a0 a1 a2 o).mpr h)

/-! twain/twainlaw36.Few -/
abbrev twainlaw36_Few_J2 (call : CallO) (n : Nat) (R : AV → OS → Prop) : List AV → OS → Prop := fun vals0 o1 =>
vals0 = [] ∧
R (AV.bool true) o1

abbrev twainlaw36_Few_J27 (call : CallO) (n : Nat) (R : AV → OS → Prop) (X4 : List AV → OS → Prop) : List AV → OS → Prop := fun vals20 o21 =>
∃ v22 : AV, ∃ x23 : Int, ∃ x24 : Int, ∃ b25 : Bool, vals20 = [v22, .int .i64 x23, .int .i64 x24, .bool b25] ∧
cnd b25 (
R (AV.bool false) o21) (
bnd (IntKind.wrap .i64 (x24 + (1 : Int))) fun x26 =>
X4 [v22, .int .i64 x23, .int .i64 x26] o21)

abbrev twainlaw36_Few_L31 (call : CallO) (n : Nat) (R : AV → OS → Prop) (j3 : List AV → OS → Prop) : (List AV → OS → Prop) → List AV → OS → Prop := fun X4 vals5 o6 =>
∃ v7 : AV, ∃ x8 : Int, ∃ x9 : Int, vals5 = [v7, .int .i64 x8, .int .i64 x9] ∧
cnd (decide (x9 < x8)) (
(0 ≤ x9 ∧ x9 < alen v7) ∧
∃ x10 : Int, ∃ x11 : Int, ∃ x12 : Int, ∃ x13 : Int, ∃ x14 : Int, ∃ x15 : Int, ∃ v16 : AV, ∃ v17 : AV, ldO true 8 (ixp 8 v7 x9) o6 = some (.agg [.int .i64 x10, .int .i64 x11, .int .i64 x12, .int .i64 x13, .int .i64 x14, .int .i64 x15, v16, v17]) ∧
bnd (o6 ++ [AO.cells true [.int .i64 (0 : Int), .int .i64 (0 : Int), .int .i64 (0 : Int), .int .i64 (0 : Int), .int .i64 (0 : Int), .int .i64 (0 : Int), .nilslice, .nilslice]]) fun o18 =>
AV.one v16 = true ∧
AV.one v17 = true ∧
∃ o19 : OS, stO (AV.ptr (List.length o6) 0) [.int .i64 x10, .int .i64 x11, .int .i64 x12, .int .i64 x13, .int .i64 x14, .int .i64 x15, v16, v17] o18 = some o19 ∧
jp (twainlaw36_Few_J27 call n R X4) fun j28 =>
AV.isP (AV.ptr (List.length o6) 0) = true ∧
∃ v29 : AV, ldO false 1 (padd 7 (AV.ptr (List.length o6) 0)) o19 = some (v29) ∧
AV.isS v29 = true ∧
cnd (decide ((alen v29) > (300 : Int))) (
j28 [v7, .int .i64 x8, .int .i64 x9, .bool true] o19) (
AV.isP (AV.ptr (List.length o6) 0) = true ∧
AV.isP (padd 3 (AV.ptr (List.length o6) 0)) = true ∧
∃ v30 : AV, ldO false 1 (padd 3 (padd 3 (AV.ptr (List.length o6) 0))) o19 = some (v30) ∧
AV.isS v30 = true ∧
j28 [v7, .int .i64 x8, .int .i64 x9, .bool (decide ((alen v30) > (300 : Int)))] o19)) (
j3 [] o6)

abbrev twainlaw36_Few (call : CallO) (n : Nat) (R : AV → OS → Prop) (a0 : AV) (o : OS) : Prop :=
AV.isS a0 = true ∧
cnd (decide ((alen a0) > (100 : Int))) (
R (AV.bool false) o) (
jp (twainlaw36_Few_J2 call n R) fun j3 =>
AV.isS a0 = true ∧
lp n (twainlaw36_Few_L31 call n R j3) [a0, .int .i64 (alen a0), .int .i64 (0 : Int)] o)

theorem twainlaw36_Few_eq (call : CallO) (n : Nat) (R : AV → OS → Prop) (a0 : AV) (o : OS) : gFun Try.prog call n 11 [a0] o R = twainlaw36_Few call n R a0 o := by kernel_rfl
theorem twainlaw36_Few_go (n : Nat) {a0 : AV} {o : OS} {K : AV → OS → Prop} (h : twainlaw36_Few (GoF Try.prog) n (rt o K) a0 o) : Go Try.prog n_twainlaw36_Few [a0] o K :=
  Go.of sane (n := n) ((twainlaw36_Few_eq (GoF Try.prog) n (rt o K) a0 o).mpr h)

/-! twain/twainlaw36.Raw -/
abbrev twainlaw36_Raw_J3 (call : CallO) (n : Nat) (R : AV → OS → Prop) : List AV → OS → Prop := fun vals0 o1 =>
∃ v2 : AV, vals0 = [v2] ∧
R v2 o1

abbrev twainlaw36_Raw_L34 (call : CallO) (n : Nat) (R : AV → OS → Prop) (j4 : List AV → OS → Prop) : (List AV → OS → Prop) → List AV → OS → Prop := fun X5 vals6 o7 =>
∃ v8 : AV, ∃ v9 : AV, ∃ x10 : Int, ∃ x11 : Int, vals6 = [v8, v9, .int .i64 x10, .int .i64 x11] ∧
cnd (decide (x11 < x10)) (
(0 ≤ x11 ∧ x11 < alen v9) ∧
∃ x12 : Int, ∃ x13 : Int, ∃ x14 : Int, ∃ x15 : Int, ∃ x16 : Int, ∃ x17 : Int, ∃ v18 : AV, ∃ v19 : AV, ldO true 8 (ixp 8 v9 x11) o7 = some (.agg [.int .i64 x12, .int .i64 x13, .int .i64 x14, .int .i64 x15, .int .i64 x16, .int .i64 x17, v18, v19]) ∧
bnd (o7 ++ [AO.cells true [.int .i64 (0 : Int), .int .i64 (0 : Int), .int .i64 (0 : Int), .int .i64 (0 : Int), .int .i64 (0 : Int), .int .i64 (0 : Int), .nilslice, .nilslice]]) fun o20 =>
AV.one v18 = true ∧
AV.one v19 = true ∧
∃ o21 : OS, stO (AV.ptr (List.length o7) 0) [.int .i64 x12, .int .i64 x13, .int .i64 x14, .int .i64 x15, .int .i64 x16, .int .i64 x17, v18, v19] o20 = some o21 ∧
∃ x22 : Int, ∃ x23 : Int, ∃ x24 : Int, ∃ x25 : Int, ∃ x26 : Int, ∃ x27 : Int, ∃ v28 : AV, ∃ v29 : AV, ldO true 8 (AV.ptr (List.length o7) 0) o21 = some (.agg [.int .i64 x22, .int .i64 x23, .int .i64 x24, .int .i64 x25, .int .i64 x26, .int .i64 x27, v28, v29]) ∧
AV.one v28 = true ∧
AV.one v29 = true ∧
bnd (o21 ++ [AO.cells true [.int .i64 x22, .int .i64 x23, .int .i64 x24, .int .i64 x25, .int .i64 x26, .int .i64 x27, v28, v29]]) fun o30 =>
∃ (v31 : AV) (o32 : OS), appO 8 96 v8 (AV.slice (List.length o21) 0 1 1 0) o30 = some (v31, o32) ∧
bnd (IntKind.wrap .i64 (x11 + (1 : Int))) fun x33 =>
X5 [v31, v9, .int .i64 x10, .int .i64 x33] o32) (
j4 [v8] o7)

abbrev twainlaw36_Raw (call : CallO) (n : Nat) (R : AV → OS → Prop) (a0 : AV) (o : OS) : Prop :=
jp (twainlaw36_Raw_J3 call n R) fun j4 =>
AV.isS a0 = true ∧
lp n (twainlaw36_Raw_L34 call n R j4) [.nilslice, a0, .int .i64 (alen a0), .int .i64 (0 : Int)] o

theorem twainlaw36_Raw_eq (call : CallO) (n : Nat) (R : AV → OS → Prop) (a0 : AV) (o : OS) : gFun Try.prog call n 12 [a0] o R = twainlaw36_Raw call n R a0 o := by kernel_rfl
theorem twainlaw36_Raw_go (n : Nat) {a0 : AV} {o : OS} {K : AV → OS → Prop} (h : twainlaw36_Raw (GoF Try.prog) n (rt o K) a0 o) : Go Try.prog n_twainlaw36_Raw [a0] o K :=
  Go.of sane (n := n) ((twainlaw36_Raw_eq (GoF Try.prog) n (rt o K) a0 o).mpr h)

/-! twain/stats.Waits -/
abbrev stats_Waits_J5 (call : CallO) (n : Nat) (R : AV → OS → Prop) : List AV → OS → Prop := fun vals2 o3 =>
∃ v4 : AV, vals2 = [v4] ∧
R v4 o3

abbrev stats_Waits_J21 (call : CallO) (n : Nat) (R : AV → OS → Prop) (X7 : List AV → OS → Prop) : List AV → OS → Prop := fun vals14 o15 =>
∃ v16 : AV, ∃ v17 : AV, ∃ x18 : Int, ∃ x19 : Int, vals14 = [v16, v17, .int .i64 x18, .int .i64 x19] ∧
bnd (IntKind.wrap .i64 (x19 + (1 : Int))) fun x20 =>
X7 [v16, v17, .int .i64 x18, .int .i64 x20] o15

abbrev stats_Waits_L29 (call : CallO) (n : Nat) (R : AV → OS → Prop) (j6 : List AV → OS → Prop) : (List AV → OS → Prop) → List AV → OS → Prop := fun X7 vals8 o9 =>
∃ v10 : AV, ∃ v11 : AV, ∃ x12 : Int, ∃ x13 : Int, vals8 = [v10, v11, .int .i64 x12, .int .i64 x13] ∧
cnd (decide (x13 < x12)) (
jp (stats_Waits_J21 call n R X7) fun j22 =>
∃ x23 : Int, ∃ b24 : Bool, lookupA Try.prog 52 v10 (AV.int .i64 x13) true (mk o9) = some (.tuple [.int .i64 x23, .bool b24]) ∧
cnd b24 (
bnd (IntKind.wrap .i64 (x23 - x13)) fun x25 =>
bnd (o9 ++ [AO.cells true [.int .i64 x25]]) fun o26 =>
∃ (v27 : AV) (o28 : OS), appO 1 8 v11 (AV.slice (List.length o9) 0 1 1 0) o26 = some (v27, o28) ∧
j22 [v10, v27, .int .i64 x12, .int .i64 x13] o28) (
j22 [v10, v11, .int .i64 x12, .int .i64 x13] o9)) (
j6 [v11] o9)

abbrev stats_Waits (call : CallO) (n : Nat) (R : AV → OS → Prop) (a0 : AV) (o : OS) : Prop :=
call (.func n_stats_pairs) [a0] o fun v0 o1 =>
jp (stats_Waits_J5 call n R) fun j6 =>
AV.isS a0 = true ∧
lp n (stats_Waits_L29 call n R j6) [v0, .nilslice, .int .i64 (alen a0), .int .i64 (0 : Int)] o1

theorem stats_Waits_eq (call : CallO) (n : Nat) (R : AV → OS → Prop) (a0 : AV) (o : OS) : gFun Try.prog call n 13 [a0] o R = stats_Waits call n R a0 o := by kernel_rfl
theorem stats_Waits_go (n : Nat) {a0 : AV} {o : OS} {K : AV → OS → Prop} (h : stats_Waits (GoF Try.prog) n (rt o K) a0 o) : Go Try.prog n_stats_Waits [a0] o K :=
  Go.of sane (n := n) ((stats_Waits_eq (GoF Try.prog) n (rt o K) a0 o).mpr h)

/-! twain/twainref47.Waits -/
abbrev twainref47_Waits_J3 (call : CallO) (n : Nat) (R : AV → OS → Prop) : List AV → OS → Prop := fun vals0 o1 =>
∃ v2 : AV, vals0 = [v2] ∧
R v2 o1

abbrev twainref47_Waits_J21 (call : CallO) (n : Nat) (R : AV → OS → Prop) (X5 : List AV → OS → Prop) : List AV → OS → Prop := fun vals13 o14 =>
∃ v15 : AV, ∃ v16 : AV, ∃ v17 : AV, ∃ x18 : Int, ∃ x19 : Int, vals13 = [v15, v16, v17, .int .i64 x18, .int .i64 x19] ∧
bnd (IntKind.wrap .i64 (x19 + (1 : Int))) fun x20 =>
X5 [v15, v16, v17, .int .i64 x18, .int .i64 x20] o14

abbrev twainref47_Waits_L41 (call : CallO) (n : Nat) (R : AV → OS → Prop) (j4 : List AV → OS → Prop) : (List AV → OS → Prop) → List AV → OS → Prop := fun X5 vals6 o7 =>
∃ v8 : AV, ∃ v9 : AV, ∃ v10 : AV, ∃ x11 : Int, ∃ x12 : Int, vals6 = [v8, v9, v10, .int .i64 x11, .int .i64 x12] ∧
cnd (decide (x12 < x11)) (
jp (twainref47_Waits_J21 call n R X5) fun j22 =>
(0 ≤ x12 ∧ x12 < alen v10) ∧
∃ x23 : Int, ∃ x24 : Int, ∃ x25 : Int, ∃ x26 : Int, ∃ x27 : Int, ∃ x28 : Int, ∃ v29 : AV, ∃ v30 : AV, ldO true 8 (ixp 8 v10 x12) o7 = some (.agg [.int .i64 x23, .int .i64 x24, .int .i64 x25, .int .i64 x26, .int .i64 x27, .int .i64 x28, v29, v30]) ∧
bnd (o7 ++ [AO.cells true [.int .i64 (0 : Int), .int .i64 (0 : Int), .int .i64 (0 : Int), .int .i64 (0 : Int), .int .i64 (0 : Int), .int .i64 (0 : Int), .nilslice, .nilslice]]) fun o31 =>
AV.one v29 = true ∧
AV.one v30 = true ∧
∃ o32 : OS, stO (AV.ptr (List.length o7) 0) [.int .i64 x23, .int .i64 x24, .int .i64 x25, .int .i64 x26, .int .i64 x27, .int .i64 x28, v29, v30] o31 = some o32 ∧
AV.isP (AV.ptr (List.length o7) 0) = true ∧
∃ x33 : Int, ldO false 1 (padd 0 (AV.ptr (List.length o7) 0)) o32 = some (.int .i64 x33) ∧
cnd (x33 != (0 : Int)) (
j22 [v8, v9, v10, .int .i64 x11, .int .i64 x12] o32) (
call (.func n_twainref47_end) [v8, .int .i64 x12] o32 fun v34 o35 =>
∃ x36 : Int, v34 = .int .i64 x36 ∧
cnd (decide (x36 ≥ (0 : Int))) (
bnd (IntKind.wrap .i64 (x36 - x12)) fun x37 =>
bnd (o35 ++ [AO.cells true [.int .i64 x37]]) fun o38 =>
∃ (v39 : AV) (o40 : OS), appO 1 8 v9 (AV.slice (List.length o35) 0 1 1 0) o38 = some (v39, o40) ∧
j22 [v8, v39, v10, .int .i64 x11, .int .i64 x12] o40) (
j22 [v8, v9, v10, .int .i64 x11, .int .i64 x12] o35))) (
j4 [v9] o7)

abbrev twainref47_Waits (call : CallO) (n : Nat) (R : AV → OS → Prop) (a0 : AV) (o : OS) : Prop :=
jp (twainref47_Waits_J3 call n R) fun j4 =>
AV.isS a0 = true ∧
lp n (twainref47_Waits_L41 call n R j4) [a0, .nilslice, a0, .int .i64 (alen a0), .int .i64 (0 : Int)] o

theorem twainref47_Waits_eq (call : CallO) (n : Nat) (R : AV → OS → Prop) (a0 : AV) (o : OS) : gFun Try.prog call n 14 [a0] o R = twainref47_Waits call n R a0 o := by kernel_rfl
theorem twainref47_Waits_go (n : Nat) {a0 : AV} {o : OS} {K : AV → OS → Prop} (h : twainref47_Waits (GoF Try.prog) n (rt o K) a0 o) : Go Try.prog n_twainref47_Waits [a0] o K :=
  Go.of sane (n := n) ((twainref47_Waits_eq (GoF Try.prog) n (rt o K) a0 o).mpr h)

/-! twain/stats.Most -/
abbrev stats_Most_J17 (call : CallO) (n : Nat) (R : AV → OS → Prop) : List AV → OS → Prop := fun vals14 o15 =>
∃ x16 : Int, vals14 = [.int .i64 x16] ∧
R (AV.int .i64 x16) o15

abbrev stats_Most_J61 (call : CallO) (n : Nat) (R : AV → OS → Prop) (X19 : List AV → OS → Prop) : List AV → OS → Prop := fun vals44 o45 =>
∃ v46 : AV, ∃ v47 : AV, ∃ v48 : AV, ∃ x49 : Int, ∃ x50 : Int, ∃ v51 : AV, ∃ x52 : Int, ∃ v53 : AV, ∃ x54 : Int, ∃ x55 : Int, vals44 = [v46, .func (Fn.func 22) [] [v47, v48], .int .i64 x49, .int .i64 x50, v51, .int .i64 x52, v53, .int .i64 x54, .int .i64 x55] ∧
∃ es56 : List (AV × AV × Nat), mapEs v51 (mk o45) = some es56 ∧
bnd (IntKind.wrap .i64 (((List.length es56 : Nat) : Int) - x52)) fun x57 =>
bnd (IntKind.wrap .i64 (x50 + x57)) fun x58 =>
bnd ((if x58 > x49 then x58 else x49)) fun x59 =>
bnd (IntKind.wrap .i64 (x55 + (1 : Int))) fun x60 =>
X19 [v46, .func (Fn.func 22) [] [v47, v48], .int .i64 x59, .int .i64 x58, v53, .int .i64 x54, .int .i64 x60] o45

abbrev stats_Most_L69 (call : CallO) (n : Nat) (R : AV → OS → Prop) (j18 : List AV → OS → Prop) : (List AV → OS → Prop) → List AV → OS → Prop := fun X19 vals20 o21 =>
∃ v22 : AV, ∃ v23 : AV, ∃ v24 : AV, ∃ x25 : Int, ∃ x26 : Int, ∃ v27 : AV, ∃ x28 : Int, ∃ x29 : Int, vals20 = [v22, .func (Fn.func 22) [] [v23, v24], .int .i64 x25, .int .i64 x26, v27, .int .i64 x28, .int .i64 x29] ∧
cnd (decide (x29 < x28)) (
(0 ≤ x29 ∧ x29 < alen v27) ∧
∃ x30 : Int, ∃ x31 : Int, ∃ x32 : Int, ∃ x33 : Int, ∃ x34 : Int, ∃ x35 : Int, ∃ v36 : AV, ∃ v37 : AV, ldO true 8 (ixp 8 v27 x29) o21 = some (.agg [.int .i64 x30, .int .i64 x31, .int .i64 x32, .int .i64 x33, .int .i64 x34, .int .i64 x35, v36, v37]) ∧
bnd (o21 ++ [AO.cells true [.int .i64 (0 : Int), .int .i64 (0 : Int), .int .i64 (0 : Int), .int .i64 (0 : Int), .int .i64 (0 : Int), .int .i64 (0 : Int), .nilslice, .nilslice]]) fun o38 =>
AV.one v36 = true ∧
AV.one v37 = true ∧
∃ o39 : OS, stO (AV.ptr (List.length o21) 0) [.int .i64 x30, .int .i64 x31, .int .i64 x32, .int .i64 x33, .int .i64 x34, .int .i64 x35, v36, v37] o38 = some o39 ∧
AV.isP (AV.ptr (List.length o21) 0) = true ∧
∃ x40 : Int, ldO false 1 (padd 1 (AV.ptr (List.length o21) 0)) o39 = some (.int .i64 x40) ∧
call (.func n_stats_Most_1) [.int .i64 x40, v23, v24] o39 fun v41 o42 =>
∃ es43 : List (AV × AV × Nat), mapEs v41 (mk o42) = some es43 ∧
jp (stats_Most_J61 call n R X19) fun j62 =>
AV.isP (AV.ptr (List.length o21) 0) = true ∧
∃ x63 : Int, ldO false 1 (padd 0 (AV.ptr (List.length o21) 0)) o42 = some (.int .i64 x63) ∧
cnd (x63 == (0 : Int)) (
∃ s64 : St, mapUpdateA Try.prog 55 v41 (AV.int .i64 x29) (AV.bool true) (mk o42) = some s64 ∧
j62 [v22, .func (Fn.func 22) [] [v23, v24], .int .i64 x25, .int .i64 x26, v41, .int .i64 ((List.length es43 : Nat) : Int), v27, .int .i64 x28, .int .i64 x29] (St.objs s64)) (
cnd (x63 == (1 : Int)) (
∃ x65 : Int, ∃ b66 : Bool, lookupA Try.prog 52 v22 (AV.int .i64 x29) true (mk o42) = some (.tuple [.int .i64 x65, .bool b66]) ∧
cnd b66 (
∃ s67 : St, deleteA Try.prog 55 v41 (AV.int .i64 x65) (mk o42) = some s67 ∧
j62 [v22, .func (Fn.func 22) [] [v23, v24], .int .i64 x25, .int .i64 x26, v41, .int .i64 ((List.length es43 : Nat) : Int), v27, .int .i64 x28, .int .i64 x29] (St.objs s67)) (
j62 [v22, .func (Fn.func 22) [] [v23, v24], .int .i64 x25, .int .i64 x26, v41, .int .i64 ((List.length es43 : Nat) : Int), v27, .int .i64 x28, .int .i64 x29] o42)) (
cnd (x63 == (2 : Int)) (
∃ s68 : St, clearA Try.prog 55 v41 (mk o42) = some s68 ∧
j62 [v22, .func (Fn.func 22) [] [v23, v24], .int .i64 x25, .int .i64 x26, v41, .int .i64 ((List.length es43 : Nat) : Int), v27, .int .i64 x28, .int .i64 x29] (St.objs s68)) (
j62 [v22, .func (Fn.func 22) [] [v23, v24], .int .i64 x25, .int .i64 x26, v41, .int .i64 ((List.length es43 : Nat) : Int), v27, .int .i64 x28, .int .i64 x29] o42)))) (
j18 [.int .i64 x25] o21)

abbrev stats_Most_J70 (call : CallO) (n : Nat) (R : AV → OS → Prop) : List AV → OS → Prop := fun vals3 o4 =>
∃ v5 : AV, ∃ v6 : AV, vals3 = [v5, v6] ∧
bnd (o4 ++ [AO.map [] 0]) fun o7 =>
bnd (o7 ++ [AO.map [] 0]) fun o8 =>
AV.one (AV.map (List.length o4)) = true ∧
AV.one (AV.map (List.length o7)) = true ∧
bnd (o8 ++ [AO.cells true [.nilmap, .nilmap]]) fun o9 =>
AV.one (AV.map (List.length o4)) = true ∧
AV.one (AV.map (List.length o7)) = true ∧
∃ o10 : OS, stO (AV.ptr (List.length o8) 0) [(AV.map (List.length o4)), (AV.map (List.length o7))] o9 = some o10 ∧
bnd (o10 ++ [AO.map [] 0]) fun o11 =>
bnd (o11 ++ [AO.cells true [.nilmap]]) fun o12 =>
AV.one (AV.map (List.length o10)) = true ∧
∃ o13 : OS, stO (AV.ptr (List.length o11) 0) [(AV.map (List.length o10))] o12 = some o13 ∧
jp (stats_Most_J17 call n R) fun j18 =>
AV.isS v5 = true ∧
lp n (stats_Most_L69 call n R j18) [v6, .func (Fn.func 22) [] [(AV.ptr (List.length o8) 0), (AV.ptr (List.length o11) 0)], .int .i64 (0 : Int), .int .i64 (0 : Int), v5, .int .i64 (alen v5), .int .i64 (0 : Int)] o13

abbrev stats_Most_J88 (call : CallO) (n : Nat) (R : AV → OS → Prop) (X72 : List AV → OS → Prop) : List AV → OS → Prop := fun vals80 o81 =>
∃ v82 : AV, ∃ v83 : AV, ∃ v84 : AV, ∃ x85 : Int, ∃ x86 : Int, vals80 = [v82, v83, v84, .int .i64 x85, .int .i64 x86] ∧
bnd (IntKind.wrap .i64 (x86 + (1 : Int))) fun x87 =>
X72 [v82, v83, v84, .int .i64 x85, .int .i64 x87] o81

abbrev stats_Most_L93 (call : CallO) (n : Nat) (R : AV → OS → Prop) (j71 : List AV → OS → Prop) : (List AV → OS → Prop) → List AV → OS → Prop := fun X72 vals73 o74 =>
∃ v75 : AV, ∃ v76 : AV, ∃ v77 : AV, ∃ x78 : Int, ∃ x79 : Int, vals73 = [v75, v76, v77, .int .i64 x78, .int .i64 x79] ∧
cnd (decide (x79 < x78)) (
jp (stats_Most_J88 call n R X72) fun j89 =>
∃ x90 : Int, ∃ b91 : Bool, lookupA Try.prog 52 v76 (AV.int .i64 x79) true (mk o74) = some (.tuple [.int .i64 x90, .bool b91]) ∧
cnd b91 (
∃ s92 : St, mapUpdateA Try.prog 52 v77 (AV.int .i64 x90) (AV.int .i64 x79) (mk o74) = some s92 ∧
j89 [v75, v76, v77, .int .i64 x78, .int .i64 x79] (St.objs s92)) (
j89 [v75, v76, v77, .int .i64 x78, .int .i64 x79] o74)) (
j71 [v75, v77] o74)

abbrev stats_Most (call : CallO) (n : Nat) (R : AV → OS → Prop) (a0 : AV) (o : OS) : Prop :=
call (.func n_stats_pairs) [a0] o fun v0 o1 =>
bnd (o1 ++ [AO.map [] 0]) fun o2 =>
jp (stats_Most_J70 call n R) fun j71 =>
AV.isS a0 = true ∧
lp n (stats_Most_L93 call n R j71) [a0, v0, (AV.map (List.length o1)), .int .i64 (alen a0), .int .i64 (0 : Int)] o2

theorem stats_Most_eq (call : CallO) (n : Nat) (R : AV → OS → Prop) (a0 : AV) (o : OS) : gFun Try.prog call n 15 [a0] o R = stats_Most call n R a0 o := by kernel_rfl
theorem stats_Most_go (n : Nat) {a0 : AV} {o : OS} {K : AV → OS → Prop} (h : stats_Most (GoF Try.prog) n (rt o K) a0 o) : Go Try.prog n_stats_Most [a0] o K :=
  Go.of sane (n := n) ((stats_Most_eq (GoF Try.prog) n (rt o K) a0 o).mpr h)

/-! twain/twainref47.Most -/
abbrev twainref47_Most_J3 (call : CallO) (n : Nat) (R : AV → OS → Prop) : List AV → OS → Prop := fun vals0 o1 =>
∃ x2 : Int, vals0 = [.int .i64 x2] ∧
R (AV.int .i64 x2) o1

abbrev twainref47_Most_J19 (call : CallO) (n : Nat) (R : AV → OS → Prop) (X5 : List AV → OS → Prop) : List AV → OS → Prop := fun vals12 o13 =>
∃ v14 : AV, ∃ x15 : Int, ∃ x16 : Int, ∃ x17 : Int, vals12 = [v14, .int .i64 x15, .int .i64 x16, .int .i64 x17] ∧
bnd (IntKind.wrap .i64 (x17 + (1 : Int))) fun x18 =>
X5 [v14, .int .i64 x15, .int .i64 x16, .int .i64 x18] o13

abbrev twainref47_Most_J28 (call : CallO) (n : Nat) (R : AV → OS → Prop) (j20 : List AV → OS → Prop) : List AV → OS → Prop := fun vals21 o22 =>
∃ v23 : AV, ∃ x24 : Int, ∃ x25 : Int, ∃ x26 : Int, ∃ x27 : Int, vals21 = [v23, .int .i64 x24, .int .i64 x25, .int .i64 x26, .int .i64 x27] ∧
cnd (decide (x25 > x24)) (
j20 [v23, .int .i64 x25, .int .i64 x26, .int .i64 x27] o22) (
j20 [v23, .int .i64 x24, .int .i64 x26, .int .i64 x27] o22)

abbrev twainref47_Most_J50 (call : CallO) (n : Nat) (R : AV → OS → Prop) (X30 : List AV → OS → Prop) : List AV → OS → Prop := fun vals40 o41 =>
∃ v42 : AV, ∃ x43 : Int, ∃ x44 : Int, ∃ x45 : Int, ∃ x46 : Int, ∃ x47 : Int, ∃ x48 : Int, vals40 = [v42, .int .i64 x43, .int .i64 x44, .int .i64 x45, .int .i64 x46, .int .i64 x47, .int .i64 x48] ∧
bnd (IntKind.wrap .i64 (x46 + (1 : Int))) fun x49 =>
X30 [v42, .int .i64 x43, .int .i64 x44, .int .i64 x45, .int .i64 x49, .int .i64 x47, .int .i64 x48] o41

abbrev twainref47_Most_J64 (call : CallO) (n : Nat) (R : AV → OS → Prop) (j51 : List AV → OS → Prop) : List AV → OS → Prop := fun vals53 o54 =>
∃ v55 : AV, ∃ x56 : Int, ∃ x57 : Int, ∃ x58 : Int, ∃ x59 : Int, ∃ b60 : Bool, ∃ x61 : Int, ∃ x62 : Int, vals53 = [v55, .int .i64 x56, .int .i64 x57, .int .i64 x58, .int .i64 x59, .bool b60, .int .i64 x61, .int .i64 x62] ∧
cnd b60 (
bnd (IntKind.wrap .i64 (x58 + (1 : Int))) fun x63 =>
j51 [v55, .int .i64 x56, .int .i64 x57, .int .i64 x63, .int .i64 x59, .int .i64 x61, .int .i64 x62] o54) (
j51 [v55, .int .i64 x56, .int .i64 x57, .int .i64 x58, .int .i64 x59, .int .i64 x61, .int .i64 x62] o54)

abbrev twainref47_Most_J103 (call : CallO) (n : Nat) (R : AV → OS → Prop) (X67 : List AV → OS → Prop) : List AV → OS → Prop := fun vals91 o92 =>
∃ v93 : AV, ∃ x94 : Int, ∃ x95 : Int, ∃ x96 : Int, ∃ x97 : Int, ∃ b98 : Bool, ∃ x99 : Int, ∃ x100 : Int, ∃ x101 : Int, vals91 = [v93, .int .i64 x94, .int .i64 x95, .int .i64 x96, .int .i64 x97, .bool b98, .int .i64 x99, .int .i64 x100, .int .i64 x101] ∧
bnd (IntKind.wrap .i64 (x99 + (1 : Int))) fun x102 =>
X67 [v93, .int .i64 x94, .int .i64 x95, .int .i64 x96, .int .i64 x97, .bool b98, .int .i64 x102, .int .i64 x100, .int .i64 x101] o92

abbrev twainref47_Most_J117 (call : CallO) (n : Nat) (R : AV → OS → Prop) (j104 : List AV → OS → Prop) : List AV → OS → Prop := fun vals105 o106 =>
∃ v107 : AV, ∃ x108 : Int, ∃ x109 : Int, ∃ x110 : Int, ∃ x111 : Int, ∃ b112 : Bool, ∃ x113 : Int, ∃ x114 : Int, ∃ x115 : Int, ∃ b116 : Bool, vals105 = [v107, .int .i64 x108, .int .i64 x109, .int .i64 x110, .int .i64 x111, .bool b112, .int .i64 x113, .int .i64 x114, .int .i64 x115, .bool b116] ∧
cnd b116 (
j104 [v107, .int .i64 x108, .int .i64 x109, .int .i64 x110, .int .i64 x111, .bool false, .int .i64 x113, .int .i64 x114, .int .i64 x115] o106) (
j104 [v107, .int .i64 x108, .int .i64 x109, .int .i64 x110, .int .i64 x111, .bool b112, .int .i64 x113, .int .i64 x114, .int .i64 x115] o106)

abbrev twainref47_Most_J128 (call : CallO) (n : Nat) (R : AV → OS → Prop) (X67 : List AV → OS → Prop) (j65 : List AV → OS → Prop) : List AV → OS → Prop := fun vals79 o80 =>
∃ v81 : AV, ∃ x82 : Int, ∃ x83 : Int, ∃ x84 : Int, ∃ x85 : Int, ∃ b86 : Bool, ∃ x87 : Int, ∃ x88 : Int, ∃ x89 : Int, ∃ b90 : Bool, vals79 = [v81, .int .i64 x82, .int .i64 x83, .int .i64 x84, .int .i64 x85, .bool b86, .int .i64 x87, .int .i64 x88, .int .i64 x89, .bool b90] ∧
cnd b90 (
jp (twainref47_Most_J103 call n R X67) fun j104 =>
jp (twainref47_Most_J117 call n R j104) fun j118 =>
(0 ≤ x87 ∧ x87 < alen v81) ∧
AV.isP (ixp 8 v81 x87) = true ∧
∃ x119 : Int, ldO false 1 (padd 0 (ixp 8 v81 x87)) o80 = some (.int .i64 x119) ∧
cnd (x119 == (2 : Int)) (
(0 ≤ x87 ∧ x87 < alen v81) ∧
AV.isP (ixp 8 v81 x87) = true ∧
∃ x120 : Int, ldO false 1 (padd 1 (ixp 8 v81 x87)) o80 = some (.int .i64 x120) ∧
(0 ≤ x85 ∧ x85 < alen v81) ∧
AV.isP (ixp 8 v81 x85) = true ∧
∃ x121 : Int, ldO false 1 (padd 1 (ixp 8 v81 x85)) o80 = some (.int .i64 x121) ∧
cnd (x120 == x121) (
j118 [v81, .int .i64 x82, .int .i64 x83, .int .i64 x84, .int .i64 x85, .bool b86, .int .i64 x87, .int .i64 x88, .int .i64 x89, .bool true] o80) (
call (.func n_twainref47_end) [v81, .int .i64 x85] o80 fun v122 o123 =>
∃ x124 : Int, v122 = .int .i64 x124 ∧
j118 [v81, .int .i64 x82, .int .i64 x83, .int .i64 x84, .int .i64 x85, .bool b86, .int .i64 x87, .int .i64 x88, .int .i64 x89, .bool (x87 == x124)] o123)) (
call (.func n_twainref47_end) [v81, .int .i64 x85] o80 fun v125 o126 =>
∃ x127 : Int, v125 = .int .i64 x127 ∧
j118 [v81, .int .i64 x82, .int .i64 x83, .int .i64 x84, .int .i64 x85, .bool b86, .int .i64 x87, .int .i64 x88, .int .i64 x89, .bool (x87 == x127)] o126)) (
j65 [v81, .int .i64 x82, .int .i64 x83, .int .i64 x84, .int .i64 x85, .bool b86, .int .i64 x88, .int .i64 x89] o80)

abbrev twainref47_Most_L130 (call : CallO) (n : Nat) (R : AV → OS → Prop) (j65 : List AV → OS → Prop) : (List AV → OS → Prop) → List AV → OS → Prop := fun X67 vals68 o69 =>
∃ v70 : AV, ∃ x71 : Int, ∃ x72 : Int, ∃ x73 : Int, ∃ x74 : Int, ∃ b75 : Bool, ∃ x76 : Int, ∃ x77 : Int, ∃ x78 : Int, vals68 = [v70, .int .i64 x71, .int .i64 x72, .int .i64 x73, .int .i64 x74, .bool b75, .int .i64 x76, .int .i64 x77, .int .i64 x78] ∧
jp (twainref47_Most_J128 call n R X67 j65) fun j129 =>
cnd (decide (x76 ≤ x72)) (
j129 [v70, .int .i64 x71, .int .i64 x72, .int .i64 x73, .int .i64 x74, .bool b75, .int .i64 x76, .int .i64 x77, .int .i64 x78, .bool b75] o69) (
j129 [v70, .int .i64 x71, .int .i64 x72, .int .i64 x73, .int .i64 x74, .bool b75, .int .i64 x76, .int .i64 x77, .int .i64 x78, .bool false] o69)

abbrev twainref47_Most_L131 (call : CallO) (n : Nat) (R : AV → OS → Prop) (j29 : List AV → OS → Prop) : (List AV → OS → Prop) → List AV → OS → Prop := fun X30 vals31 o32 =>
∃ v33 : AV, ∃ x34 : Int, ∃ x35 : Int, ∃ x36 : Int, ∃ x37 : Int, ∃ x38 : Int, ∃ x39 : Int, vals31 = [v33, .int .i64 x34, .int .i64 x35, .int .i64 x36, .int .i64 x37, .int .i64 x38, .int .i64 x39] ∧
cnd (decide (x37 ≤ x35)) (
jp (twainref47_Most_J50 call n R X30) fun j51 =>
(0 ≤ x37 ∧ x37 < alen v33) ∧
AV.isP (ixp 8 v33 x37) = true ∧
∃ x52 : Int, ldO false 1 (padd 0 (ixp 8 v33 x37)) o32 = some (.int .i64 x52) ∧
jp (twainref47_Most_J64 call n R j51) fun j65 =>
bnd (IntKind.wrap .i64 (x37 + (1 : Int))) fun x66 =>
lp n (twainref47_Most_L130 call n R j65) [v33, .int .i64 x34, .int .i64 x35, .int .i64 x36, .int .i64 x37, .bool (x52 == (0 : Int)), .int .i64 x66, .int .i64 x38, .int .i64 x39] o32) (
j29 [v33, .int .i64 x34, .int .i64 x36, .int .i64 x38, .int .i64 x39] o32)

abbrev twainref47_Most_L132 (call : CallO) (n : Nat) (R : AV → OS → Prop) (j4 : List AV → OS → Prop) : (List AV → OS → Prop) → List AV → OS → Prop := fun X5 vals6 o7 =>
∃ v8 : AV, ∃ x9 : Int, ∃ x10 : Int, ∃ x11 : Int, vals6 = [v8, .int .i64 x9, .int .i64 x10, .int .i64 x11] ∧
cnd (decide (x11 < x10)) (
jp (twainref47_Most_J19 call n R X5) fun j20 =>
jp (twainref47_Most_J28 call n R j20) fun j29 =>
lp n (twainref47_Most_L131 call n R j29) [v8, .int .i64 x9, .int .i64 x11, .int .i64 (0 : Int), .int .i64 (0 : Int), .int .i64 x10, .int .i64 x11] o7) (
j4 [.int .i64 x9] o7)

abbrev twainref47_Most (call : CallO) (n : Nat) (R : AV → OS → Prop) (a0 : AV) (o : OS) : Prop :=
jp (twainref47_Most_J3 call n R) fun j4 =>
AV.isS a0 = true ∧
lp n (twainref47_Most_L132 call n R j4) [a0, .int .i64 (0 : Int), .int .i64 (alen a0), .int .i64 (0 : Int)] o

theorem twainref47_Most_eq (call : CallO) (n : Nat) (R : AV → OS → Prop) (a0 : AV) (o : OS) : gFun Try.prog call n 16 [a0] o R = twainref47_Most call n R a0 o := by kernel_rfl
theorem twainref47_Most_go (n : Nat) {a0 : AV} {o : OS} {K : AV → OS → Prop} (h : twainref47_Most (GoF Try.prog) n (rt o K) a0 o) : Go Try.prog n_twainref47_Most [a0] o K :=
  Go.of sane (n := n) ((twainref47_Most_eq (GoF Try.prog) n (rt o K) a0 o).mpr h)

/-! twain/stats.Of -/
abbrev stats_Of_J19 (call : CallO) (n : Nat) (R : AV → OS → Prop) : List AV → OS → Prop := fun vals2 o3 =>
∃ v4 : AV, ∃ v5 : AV, vals2 = [v4, v5] ∧
∃ x6 : Int, ∃ x7 : Int, ∃ x8 : Int, ∃ x9 : Int, ∃ x10 : Int, ∃ x11 : Int, ldO true 6 v5 o3 = some (.agg [.int .i64 x6, .int .i64 x7, .int .i64 x8, .int .i64 x9, .int .i64 x10, .int .i64 x11]) ∧
∃ o12 : OS, stO v4 [.int .i64 x6, .int .i64 x7, .int .i64 x8, .int .i64 x9, .int .i64 x10, .int .i64 x11] o3 = some o12 ∧
∃ x13 : Int, ∃ x14 : Int, ∃ x15 : Int, ∃ x16 : Int, ∃ x17 : Int, ∃ x18 : Int, ldO true 6 v4 o12 = some (.agg [.int .i64 x13, .int .i64 x14, .int .i64 x15, .int .i64 x16, .int .i64 x17, .int .i64 x18]) ∧
R (AV.agg [.int .i64 x13, .int .i64 x14, .int .i64 x15, .int .i64 x16, .int .i64 x17, .int .i64 x18]) o12

abbrev stats_Of_J39 (call : CallO) (n : Nat) (R : AV → OS → Prop) (X21 : List AV → OS → Prop) : List AV → OS → Prop := fun vals30 o31 =>
∃ x32 : Int, ∃ v33 : AV, ∃ v34 : AV, ∃ v35 : AV, ∃ x36 : Int, ∃ x37 : Int, vals30 = [.int .i64 x32, v33, v34, v35, .int .i64 x36, .int .i64 x37] ∧
bnd (IntKind.wrap .i64 (x37 + (1 : Int))) fun x38 =>
X21 [.int .i64 x32, v33, v34, v35, .int .i64 x36, .int .i64 x38] o31

abbrev stats_Of_J74 (call : CallO) (n : Nat) (R : AV → OS → Prop) (j40 : List AV → OS → Prop) : List AV → OS → Prop := fun vals51 o52 =>
∃ x53 : Int, ∃ v54 : AV, ∃ v55 : AV, ∃ v56 : AV, ∃ v57 : AV, ∃ x58 : Int, ∃ x59 : Int, ∃ b60 : Bool, vals51 = [.int .i64 x53, v54, v55, v56, v57, .int .i64 x58, .int .i64 x59, .bool b60] ∧
cnd b60 (
j40 [.int .i64 x53, v54, v55, v57, .int .i64 x58, .int .i64 x59] o52) (
AV.isP v56 = true ∧
∃ x61 : Int, ldO false 1 (padd 0 v56) o52 = some (.int .i64 x61) ∧
cnd (x61 == (0 : Int)) (
AV.isP v56 = true ∧
∃ x62 : Int, ∃ x63 : Int, ∃ x64 : Int, ∃ v65 : AV, ldO true 4 (padd 3 v56) o52 = some (.agg [.int .i64 x62, .int .i64 x63, .int .i64 x64, v65]) ∧
call (.func n_stats_Stats_ask) [v55, .agg [.int .i64 x62, .int .i64 x63, .int .i64 x64, v65]] o52 fun v66 o67 =>
j40 [.int .i64 x53, v54, v55, v57, .int .i64 x58, .int .i64 x59] o67) (
cnd (x61 == (1 : Int)) (
AV.isP v55 = true ∧
∃ x68 : Int, ldO false 1 (padd 3 v55) o52 = some (.int .i64 x68) ∧
bnd (IntKind.wrap .i64 (x68 + (1 : Int))) fun x69 =>
AV.isP v55 = true ∧
∃ o70 : OS, stO (padd 3 v55) [.int .i64 x69] o52 = some o70 ∧
j40 [.int .i64 x53, v54, v55, v57, .int .i64 x58, .int .i64 x59] o70) (
cnd (x61 == (2 : Int)) (
AV.isP v55 = true ∧
∃ x71 : Int, ldO false 1 (padd 4 v55) o52 = some (.int .i64 x71) ∧
bnd (IntKind.wrap .i64 (x71 + (1 : Int))) fun x72 =>
AV.isP v55 = true ∧
∃ o73 : OS, stO (padd 4 v55) [.int .i64 x72] o52 = some o73 ∧
j40 [.int .i64 x53, v54, v55, v57, .int .i64 x58, .int .i64 x59] o73) (
j40 [.int .i64 x53, v54, v55, v57, .int .i64 x58, .int .i64 x59] o52))))

abbrev stats_Of_L77 (call : CallO) (n : Nat) (R : AV → OS → Prop) (j20 : List AV → OS → Prop) : (List AV → OS → Prop) → List AV → OS → Prop := fun X21 vals22 o23 =>
∃ x24 : Int, ∃ v25 : AV, ∃ v26 : AV, ∃ v27 : AV, ∃ x28 : Int, ∃ x29 : Int, vals22 = [.int .i64 x24, v25, v26, v27, .int .i64 x28, .int .i64 x29] ∧
cnd (decide (x29 < x28)) (
jp (stats_Of_J39 call n R X21) fun j40 =>
(0 ≤ x29 ∧ x29 < alen v27) ∧
∃ x41 : Int, ∃ x42 : Int, ∃ x43 : Int, ∃ x44 : Int, ∃ x45 : Int, ∃ x46 : Int, ∃ v47 : AV, ∃ v48 : AV, ldO true 8 (ixp 8 v27 x29) o23 = some (.agg [.int .i64 x41, .int .i64 x42, .int .i64 x43, .int .i64 x44, .int .i64 x45, .int .i64 x46, v47, v48]) ∧
bnd (o23 ++ [AO.cells true [.int .i64 (0 : Int), .int .i64 (0 : Int), .int .i64 (0 : Int), .int .i64 (0 : Int), .int .i64 (0 : Int), .int .i64 (0 : Int), .nilslice, .nilslice]]) fun o49 =>
AV.one v47 = true ∧
AV.one v48 = true ∧
∃ o50 : OS, stO (AV.ptr (List.length o23) 0) [.int .i64 x41, .int .i64 x42, .int .i64 x43, .int .i64 x44, .int .i64 x45, .int .i64 x46, v47, v48] o49 = some o50 ∧
jp (stats_Of_J74 call n R j40) fun j75 =>
cnd (decide (x24 ≥ (0 : Int))) (
AV.isP (AV.ptr (List.length o23) 0) = true ∧
∃ x76 : Int, ldO false 1 (padd 1 (AV.ptr (List.length o23) 0)) o50 = some (.int .i64 x76) ∧
j75 [.int .i64 x24, v25, v26, (AV.ptr (List.length o23) 0), v27, .int .i64 x28, .int .i64 x29, .bool (x76 != x24)] o50) (
j75 [.int .i64 x24, v25, v26, (AV.ptr (List.length o23) 0), v27, .int .i64 x28, .int .i64 x29, .bool false] o50)) (
j20 [v25, v26] o23)

abbrev stats_Of (call : CallO) (n : Nat) (R : AV → OS → Prop) (a0 : AV) (a1 : Int) (o : OS) : Prop :=
bnd (o ++ [AO.cells true [.int .i64 (0 : Int), .int .i64 (0 : Int), .int .i64 (0 : Int), .int .i64 (0 : Int), .int .i64 (0 : Int), .int .i64 (0 : Int)]]) fun o0 =>
bnd (o0 ++ [AO.cells true [.int .i64 (0 : Int), .int .i64 (0 : Int), .int .i64 (0 : Int), .int .i64 (0 : Int), .int .i64 (0 : Int), .int .i64 (0 : Int)]]) fun o1 =>
jp (stats_Of_J19 call n R) fun j20 =>
AV.isS a0 = true ∧
lp n (stats_Of_L77 call n R j20) [.int .i64 a1, (AV.ptr (List.length o) 0), (AV.ptr (List.length o0) 0), a0, .int .i64 (alen a0), .int .i64 (0 : Int)] o1

theorem stats_Of_eq (call : CallO) (n : Nat) (R : AV → OS → Prop) (a0 : AV) (a1 : Int) (o : OS) : gFun Try.prog call n 17 [a0, .int .i64 a1] o R = stats_Of call n R a0 a1 o := by kernel_rfl
theorem stats_Of_go (n : Nat) {a0 : AV} {a1 : Int} {o : OS} {K : AV → OS → Prop} (h : stats_Of (GoF Try.prog) n (rt o K) a0 a1 o) : Go Try.prog n_stats_Of [a0, .int .i64 a1] o K :=
  Go.of sane (n := n) ((stats_Of_eq (GoF Try.prog) n (rt o K) a0 a1 o).mpr h)

/-! twain/twainref47.sorted -/
abbrev twainref47_sorted_J6 (call : CallO) (n : Nat) (R : AV → OS → Prop) : List AV → OS → Prop := fun vals3 o4 =>
∃ v5 : AV, vals3 = [v5] ∧
R v5 o4

abbrev twainref47_sorted_J20 (call : CallO) (n : Nat) (R : AV → OS → Prop) (X8 : List AV → OS → Prop) : List AV → OS → Prop := fun vals14 o15 =>
∃ v16 : AV, ∃ x17 : Int, ∃ x18 : Int, vals14 = [v16, .int .i64 x17, .int .i64 x18] ∧
bnd (IntKind.wrap .i64 (x18 + (1 : Int))) fun x19 =>
X8 [v16, .int .i64 x17, .int .i64 x19] o15

abbrev twainref47_sorted_J43 (call : CallO) (n : Nat) (R : AV → OS → Prop) (X22 : List AV → OS → Prop) (j21 : List AV → OS → Prop) : List AV → OS → Prop := fun vals29 o30 =>
∃ v31 : AV, ∃ x32 : Int, ∃ x33 : Int, ∃ x34 : Int, ∃ b35 : Bool, vals29 = [v31, .int .i64 x32, .int .i64 x33, .int .i64 x34, .bool b35] ∧
cnd b35 (
bnd (IntKind.wrap .i64 (x32 - (1 : Int))) fun x36 =>
(0 ≤ x32 ∧ x32 < alen v31) ∧
∃ x37 : Int, ldO false 1 (ixp 1 v31 x32) o30 = some (.int .i64 x37) ∧
bnd (IntKind.wrap .i64 (x32 - (1 : Int))) fun x38 =>
(0 ≤ x38 ∧ x38 < alen v31) ∧
∃ x39 : Int, ldO false 1 (ixp 1 v31 x38) o30 = some (.int .i64 x39) ∧
(0 ≤ x36 ∧ x36 < alen v31) ∧
∃ o40 : OS, stO (ixp 1 v31 x36) [.int .i64 x37] o30 = some o40 ∧
(0 ≤ x32 ∧ x32 < alen v31) ∧
∃ o41 : OS, stO (ixp 1 v31 x32) [.int .i64 x39] o40 = some o41 ∧
bnd (IntKind.wrap .i64 (x32 - (1 : Int))) fun x42 =>
X22 [v31, .int .i64 x42, .int .i64 x33, .int .i64 x34] o41) (
j21 [v31, .int .i64 x33, .int .i64 x34] o30)

abbrev twainref47_sorted_L48 (call : CallO) (n : Nat) (R : AV → OS → Prop) (j21 : List AV → OS → Prop) : (List AV → OS → Prop) → List AV → OS → Prop := fun X22 vals23 o24 =>
∃ v25 : AV, ∃ x26 : Int, ∃ x27 : Int, ∃ x28 : Int, vals23 = [v25, .int .i64 x26, .int .i64 x27, .int .i64 x28] ∧
jp (twainref47_sorted_J43 call n R X22 j21) fun j44 =>
cnd (decide (x26 > (0 : Int))) (
bnd (IntKind.wrap .i64 (x26 - (1 : Int))) fun x45 =>
(0 ≤ x45 ∧ x45 < alen v25) ∧
∃ x46 : Int, ldO false 1 (ixp 1 v25 x45) o24 = some (.int .i64 x46) ∧
(0 ≤ x26 ∧ x26 < alen v25) ∧
∃ x47 : Int, ldO false 1 (ixp 1 v25 x26) o24 = some (.int .i64 x47) ∧
j44 [v25, .int .i64 x26, .int .i64 x27, .int .i64 x28, .bool (decide (x46 > x47))] o24) (
j44 [v25, .int .i64 x26, .int .i64 x27, .int .i64 x28, .bool false] o24)

abbrev twainref47_sorted_L49 (call : CallO) (n : Nat) (R : AV → OS → Prop) (j7 : List AV → OS → Prop) : (List AV → OS → Prop) → List AV → OS → Prop := fun X8 vals9 o10 =>
∃ v11 : AV, ∃ x12 : Int, ∃ x13 : Int, vals9 = [v11, .int .i64 x12, .int .i64 x13] ∧
cnd (decide (x13 < x12)) (
jp (twainref47_sorted_J20 call n R X8) fun j21 =>
lp n (twainref47_sorted_L48 call n R j21) [v11, .int .i64 x13, .int .i64 x12, .int .i64 x13] o10) (
j7 [v11] o10)

abbrev twainref47_sorted (call : CallO) (n : Nat) (R : AV → OS → Prop) (a0 : AV) (o : OS) : Prop :=
bnd (o ++ [AO.cells true []]) fun o0 =>
∃ (v1 : AV) (o2 : OS), appO 1 8 (AV.slice (List.length o) 0 0 0 0) a0 o0 = some (v1, o2) ∧
jp (twainref47_sorted_J6 call n R) fun j7 =>
AV.isS v1 = true ∧
lp n (twainref47_sorted_L49 call n R j7) [v1, .int .i64 (alen v1), .int .i64 (0 : Int)] o2

theorem twainref47_sorted_eq (call : CallO) (n : Nat) (R : AV → OS → Prop) (a0 : AV) (o : OS) : gFun Try.prog call n 19 [a0] o R = twainref47_sorted call n R a0 o := by kernel_rfl
theorem twainref47_sorted_go (n : Nat) {a0 : AV} {o : OS} {K : AV → OS → Prop} (h : twainref47_sorted (GoF Try.prog) n (rt o K) a0 o) : Go Try.prog n_twainref47_sorted [a0] o K :=
  Go.of sane (n := n) ((twainref47_sorted_eq (GoF Try.prog) n (rt o K) a0 o).mpr h)

/-! twain/stats.pairs -/
abbrev stats_pairs_J7 (call : CallO) (n : Nat) (R : AV → OS → Prop) : List AV → OS → Prop := fun vals2 o3 =>
∃ v4 : AV, ∃ v5 : AV, vals2 = [v4, v5] ∧
∃ s6 : St, clearA Try.prog 63 v4 (mk o3) = some s6 ∧
R v5 (St.objs s6)

abbrev stats_pairs_J25 (call : CallO) (n : Nat) (R : AV → OS → Prop) (X9 : List AV → OS → Prop) : List AV → OS → Prop := fun vals17 o18 =>
∃ v19 : AV, ∃ v20 : AV, ∃ v21 : AV, ∃ x22 : Int, ∃ x23 : Int, vals17 = [v19, v20, v21, .int .i64 x22, .int .i64 x23] ∧
bnd (IntKind.wrap .i64 (x23 + (1 : Int))) fun x24 =>
X9 [v19, v20, v21, .int .i64 x22, .int .i64 x24] o18

abbrev stats_pairs_J74 (call : CallO) (n : Nat) (R : AV → OS → Prop) (j26 : List AV → OS → Prop) : List AV → OS → Prop := fun vals61 o62 =>
∃ v63 : AV, ∃ v64 : AV, ∃ x65 : Int, ∃ x66 : Int, ∃ v67 : AV, ∃ x68 : Int, ∃ x69 : Int, ∃ b70 : Bool, vals61 = [v63, v64, .int .i64 x65, .int .i64 x66, v67, .int .i64 x68, .int .i64 x69, .bool b70] ∧
cnd b70 (
∃ x71 : Int, ∃ b72 : Bool, lookupA Try.prog 52 v64 (AV.int .i64 x66) true (mk o62) = some (.tuple [.int .i64 x71, .bool b72]) ∧
cnd (!b72) (
∃ s73 : St, mapUpdateA Try.prog 52 v64 (AV.int .i64 x66) (AV.int .i64 x65) (mk o62) = some s73 ∧
j26 [v63, v64, v67, .int .i64 x68, .int .i64 x69] (St.objs s73)) (
j26 [v63, v64, v67, .int .i64 x68, .int .i64 x69] o62)) (
j26 [v63, v64, v67, .int .i64 x68, .int .i64 x69] o62)

abbrev stats_pairs_J77 (call : CallO) (n : Nat) (R : AV → OS → Prop) (j26 : List AV → OS → Prop) : List AV → OS → Prop := fun vals45 o46 =>
∃ v47 : AV, ∃ v48 : AV, ∃ x49 : Int, ∃ v50 : AV, ∃ v51 : AV, ∃ x52 : Int, ∃ b53 : Bool, ∃ v54 : AV, ∃ x55 : Int, ∃ x56 : Int, ∃ b57 : Bool, vals45 = [v47, v48, .int .i64 x49, v50, v51, .int .i64 x52, .bool b53, v54, .int .i64 x55, .int .i64 x56, .bool b57] ∧
cnd b57 (
∃ x58 : Int, ∃ x59 : Int, ldO true 2 v51 o46 = some (.agg [.int .i64 x58, .int .i64 x59]) ∧
∃ s60 : St, mapUpdateA Try.prog 63 v47 (AV.agg [.int .i64 x58, .int .i64 x59]) (AV.int .i64 x49) (mk o46) = some s60 ∧
j26 [v47, v48, v54, .int .i64 x55, .int .i64 x56] (St.objs s60)) (
jp (stats_pairs_J74 call n R j26) fun j75 =>
AV.isP v50 = true ∧
∃ x76 : Int, ldO false 1 (padd 0 v50) o46 = some (.int .i64 x76) ∧
cnd (x76 == (1 : Int)) (
j75 [v47, v48, .int .i64 x49, .int .i64 x52, v54, .int .i64 x55, .int .i64 x56, .bool b53] o46) (
j75 [v47, v48, .int .i64 x49, .int .i64 x52, v54, .int .i64 x55, .int .i64 x56, .bool false] o46))

abbrev stats_pairs_L80 (call : CallO) (n : Nat) (R : AV → OS → Prop) (j8 : List AV → OS → Prop) : (List AV → OS → Prop) → List AV → OS → Prop := fun X9 vals10 o11 =>
∃ v12 : AV, ∃ v13 : AV, ∃ v14 : AV, ∃ x15 : Int, ∃ x16 : Int, vals10 = [v12, v13, v14, .int .i64 x15, .int .i64 x16] ∧
cnd (decide (x16 < x15)) (
jp (stats_pairs_J25 call n R X9) fun j26 =>
(0 ≤ x16 ∧ x16 < alen v14) ∧
∃ x27 : Int, ∃ x28 : Int, ∃ x29 : Int, ∃ x30 : Int, ∃ x31 : Int, ∃ x32 : Int, ∃ v33 : AV, ∃ v34 : AV, ldO true 8 (ixp 8 v14 x16) o11 = some (.agg [.int .i64 x27, .int .i64 x28, .int .i64 x29, .int .i64 x30, .int .i64 x31, .int .i64 x32, v33, v34]) ∧
bnd (o11 ++ [AO.cells true [.int .i64 (0 : Int), .int .i64 (0 : Int), .int .i64 (0 : Int), .int .i64 (0 : Int), .int .i64 (0 : Int), .int .i64 (0 : Int), .nilslice, .nilslice]]) fun o35 =>
AV.one v33 = true ∧
AV.one v34 = true ∧
∃ o36 : OS, stO (AV.ptr (List.length o11) 0) [.int .i64 x27, .int .i64 x28, .int .i64 x29, .int .i64 x30, .int .i64 x31, .int .i64 x32, v33, v34] o35 = some o36 ∧
AV.isP (AV.ptr (List.length o11) 0) = true ∧
∃ x37 : Int, ldO false 1 (padd 1 (AV.ptr (List.length o11) 0)) o36 = some (.int .i64 x37) ∧
AV.isP (AV.ptr (List.length o11) 0) = true ∧
∃ x38 : Int, ldO false 1 (padd 2 (AV.ptr (List.length o11) 0)) o36 = some (.int .i64 x38) ∧
bnd (o36 ++ [AO.cells true [.int .i64 (0 : Int), .int .i64 (0 : Int)]]) fun o39 =>
∃ o40 : OS, stO (AV.ptr (List.length o36) 0) [.int .i64 x37, .int .i64 x38] o39 = some o40 ∧
∃ x41 : Int, ∃ x42 : Int, ldO true 2 (AV.ptr (List.length o36) 0) o40 = some (.agg [.int .i64 x41, .int .i64 x42]) ∧
∃ x43 : Int, ∃ b44 : Bool, lookupA Try.prog 63 v12 (AV.agg [.int .i64 x41, .int .i64 x42]) true (mk o40) = some (.tuple [.int .i64 x43, .bool b44]) ∧
jp (stats_pairs_J77 call n R j26) fun j78 =>
AV.isP (AV.ptr (List.length o11) 0) = true ∧
∃ x79 : Int, ldO false 1 (padd 0 (AV.ptr (List.length o11) 0)) o40 = some (.int .i64 x79) ∧
cnd (x79 == (0 : Int)) (
j78 [v12, v13, .int .i64 x16, (AV.ptr (List.length o11) 0), (AV.ptr (List.length o36) 0), .int .i64 x43, .bool b44, v14, .int .i64 x15, .int .i64 x16, .bool (!b44)] o40) (
j78 [v12, v13, .int .i64 x16, (AV.ptr (List.length o11) 0), (AV.ptr (List.length o36) 0), .int .i64 x43, .bool b44, v14, .int .i64 x15, .int .i64 x16, .bool false] o40)) (
j8 [v12, v13] o11)

abbrev stats_pairs (call : CallO) (n : Nat) (R : AV → OS → Prop) (a0 : AV) (o : OS) : Prop :=
bnd (o ++ [AO.map [] 0]) fun o0 =>
bnd (o0 ++ [AO.map [] 0]) fun o1 =>
jp (stats_pairs_J7 call n R) fun j8 =>
AV.isS a0 = true ∧
lp n (stats_pairs_L80 call n R j8) [(AV.map (List.length o)), (AV.map (List.length o0)), a0, .int .i64 (alen a0), .int .i64 (0 : Int)] o1

theorem stats_pairs_eq (call : CallO) (n : Nat) (R : AV → OS → Prop) (a0 : AV) (o : OS) : gFun Try.prog call n 20 [a0] o R = stats_pairs call n R a0 o := by kernel_rfl
theorem stats_pairs_go (n : Nat) {a0 : AV} {o : OS} {K : AV → OS → Prop} (h : stats_pairs (GoF Try.prog) n (rt o K) a0 o) : Go Try.prog n_stats_pairs [a0] o K :=
  Go.of sane (n := n) ((stats_pairs_eq (GoF Try.prog) n (rt o K) a0 o).mpr h)

/-! twain/twainref47.end -/
abbrev twainref47_end_J7 (call : CallO) (n : Nat) (R : AV → OS → Prop) : List AV → OS → Prop := fun vals5 o6 =>
vals5 = [] ∧
R (AV.int .i64 (-1 : Int)) o6

abbrev twainref47_end_J23 (call : CallO) (n : Nat) (R : AV → OS → Prop) (X10 : List AV → OS → Prop) : List AV → OS → Prop := fun vals16 o17 =>
∃ v18 : AV, ∃ x19 : Int, ∃ x20 : Int, ∃ b21 : Bool, vals16 = [v18, .int .i64 x19, .int .i64 x20, .bool b21] ∧
cnd b21 (
R (AV.int .i64 x20) o17) (
bnd (IntKind.wrap .i64 (x20 + (1 : Int))) fun x22 =>
X10 [v18, .int .i64 x19, .int .i64 x22] o17)

abbrev twainref47_end_L30 (call : CallO) (n : Nat) (R : AV → OS → Prop) (j8 : List AV → OS → Prop) : (List AV → OS → Prop) → List AV → OS → Prop := fun X10 vals11 o12 =>
∃ v13 : AV, ∃ x14 : Int, ∃ x15 : Int, vals11 = [v13, .int .i64 x14, .int .i64 x15] ∧
AV.isS v13 = true ∧
cnd (decide (x15 < (alen v13))) (
jp (twainref47_end_J23 call n R X10) fun j24 =>
(0 ≤ x15 ∧ x15 < alen v13) ∧
AV.isP (ixp 8 v13 x15) = true ∧
∃ x25 : Int, ldO false 1 (padd 0 (ixp 8 v13 x15)) o12 = some (.int .i64 x25) ∧
cnd (x25 == (1 : Int)) (
(0 ≤ x15 ∧ x15 < alen v13) ∧
AV.isP (ixp 8 v13 x15) = true ∧
∃ x26 : Int, ldO false 1 (padd 1 (ixp 8 v13 x15)) o12 = some (.int .i64 x26) ∧
(0 ≤ x14 ∧ x14 < alen v13) ∧
AV.isP (ixp 8 v13 x14) = true ∧
∃ x27 : Int, ldO false 1 (padd 1 (ixp 8 v13 x14)) o12 = some (.int .i64 x27) ∧
cnd (x26 == x27) (
(0 ≤ x15 ∧ x15 < alen v13) ∧
AV.isP (ixp 8 v13 x15) = true ∧
∃ x28 : Int, ldO false 1 (padd 2 (ixp 8 v13 x15)) o12 = some (.int .i64 x28) ∧
(0 ≤ x14 ∧ x14 < alen v13) ∧
AV.isP (ixp 8 v13 x14) = true ∧
∃ x29 : Int, ldO false 1 (padd 2 (ixp 8 v13 x14)) o12 = some (.int .i64 x29) ∧
j24 [v13, .int .i64 x14, .int .i64 x15, .bool (x28 == x29)] o12) (
j24 [v13, .int .i64 x14, .int .i64 x15, .bool false] o12)) (
j24 [v13, .int .i64 x14, .int .i64 x15, .bool false] o12)) (
j8 [] o12)

abbrev twainref47_end (call : CallO) (n : Nat) (R : AV → OS → Prop) (a0 : AV) (a1 : Int) (o : OS) : Prop :=
call (.func n_twainref36_Open) [a0] o fun v0 o1 =>
call (.func n_twainref47_in) [v0, .int .i64 a1] o1 fun v2 o3 =>
∃ b4 : Bool, v2 = .bool b4 ∧
cnd b4 (
R (AV.int .i64 (-1 : Int)) o3) (
jp (twainref47_end_J7 call n R) fun j8 =>
bnd (IntKind.wrap .i64 (a1 + (1 : Int))) fun x9 =>
lp n (twainref47_end_L30 call n R j8) [a0, .int .i64 a1, .int .i64 x9] o3)

theorem twainref47_end_eq (call : CallO) (n : Nat) (R : AV → OS → Prop) (a0 : AV) (a1 : Int) (o : OS) : gFun Try.prog call n 21 [a0, .int .i64 a1] o R = twainref47_end call n R a0 a1 o := by kernel_rfl
theorem twainref47_end_go (n : Nat) {a0 : AV} {a1 : Int} {o : OS} {K : AV → OS → Prop} (h : twainref47_end (GoF Try.prog) n (rt o K) a0 a1 o) : Go Try.prog n_twainref47_end [a0, .int .i64 a1] o K :=
  Go.of sane (n := n) ((twainref47_end_eq (GoF Try.prog) n (rt o K) a0 a1 o).mpr h)

/-! twain/stats.Most$1 -/
abbrev stats_Most_1_J13 (call : CallO) (n : Nat) (R : AV → OS → Prop) : List AV → OS → Prop := fun vals7 o8 =>
∃ x9 : Int, ∃ v10 : AV, vals7 = [.int .i64 x9, v10] ∧
∃ v11 : AV, ldO false 1 v10 o8 = some (v11) ∧
∃ v12 : AV, lookupA Try.prog 57 v11 (AV.int .i64 x9) false (mk o8) = some (v12) ∧
R v12 o8

abbrev stats_Most_1_J21 (call : CallO) (n : Nat) (R : AV → OS → Prop) : List AV → OS → Prop := fun vals0 o1 =>
∃ x2 : Int, ∃ v3 : AV, ∃ v4 : AV, ∃ b5 : Bool, vals0 = [.int .i64 x2, v3, v4, .bool b5] ∧
cnd b5 (
AV.isP v3 = true ∧
(0 ≤ x2 ∧ x2 < ((2 : Nat) : Int)) ∧
∃ v6 : AV, ldO false 1 (padd (Int.toNat x2 * 1) v3) o1 = some (v6) ∧
R v6 o1) (
jp (stats_Most_1_J13 call n R) fun j14 =>
∃ v15 : AV, ldO false 1 v4 o1 = some (v15) ∧
∃ v16 : AV, lookupA Try.prog 57 v15 (AV.int .i64 x2) false (mk o1) = some (v16) ∧
∃ b17 : Bool, nilM2 v16 .nilmap = some b17 ∧
cnd b17 (
∃ v18 : AV, ldO false 1 v4 o1 = some (v18) ∧
bnd (o1 ++ [AO.map [] 0]) fun o19 =>
∃ s20 : St, mapUpdateA Try.prog 57 v18 (AV.int .i64 x2) (AV.map (List.length o1)) (mk o19) = some s20 ∧
j14 [.int .i64 x2, v4] (St.objs s20)) (
j14 [.int .i64 x2, v4] o1))

abbrev stats_Most_1 (call : CallO) (n : Nat) (R : AV → OS → Prop) (a0 : Int) (a1 : AV) (a2 : AV) (o : OS) : Prop :=
jp (stats_Most_1_J21 call n R) fun j22 =>
cnd (a0 == (0 : Int)) (
j22 [.int .i64 a0, a1, a2, .bool true] o) (
j22 [.int .i64 a0, a1, a2, .bool (a0 == (1 : Int))] o)

theorem stats_Most_1_eq (call : CallO) (n : Nat) (R : AV → OS → Prop) (a0 : Int) (a1 : AV) (a2 : AV) (o : OS) : gFun Try.prog call n 22 [.int .i64 a0, a1, a2] o R = stats_Most_1 call n R a0 a1 a2 o := by kernel_rfl
theorem stats_Most_1_go (n : Nat) {a0 : Int} {a1 : AV} {a2 : AV} {o : OS} {K : AV → OS → Prop} (h : stats_Most_1 (GoF Try.prog) n (rt o K) a0 a1 a2 o) : Go Try.prog n_stats_Most_1 [.int .i64 a0, a1, a2] o K :=
  Go.of sane (n := n) ((stats_Most_1_eq (GoF Try.prog) n (rt o K) a0 a1 a2 o).mpr h)

/-! (*twain/stats.Stats).ask -/
abbrev stats_Stats_ask_J14 (call : CallO) (n : Nat) (R : AV → OS → Prop) : List AV → OS → Prop := fun vals6 o7 =>
∃ v8 : AV, ∃ x9 : Int, ∃ b10 : Bool, vals6 = [v8, .int .i64 x9, .bool b10] ∧
cnd b10 (
AV.nnil v8 = true ∧
AV.isP v8 = true ∧
∃ x11 : Int, ldO false 1 (padd 5 v8) o7 = some (.int .i64 x11) ∧
bnd (IntKind.wrap .i64 (x11 + x9)) fun x12 =>
AV.nnil v8 = true ∧
AV.isP v8 = true ∧
∃ o13 : OS, stO (padd 5 v8) [.int .i64 x12] o7 = some o13 ∧
R (AV.tuple []) o13) (
R (AV.tuple []) o7)

abbrev stats_Stats_ask_J18 (call : CallO) (n : Nat) (R : AV → OS → Prop) : List AV → OS → Prop := fun vals1 o2 =>
∃ v3 : AV, ∃ v4 : AV, vals1 = [v3, v4] ∧
AV.isP v4 = true ∧
AV.isP (padd 1 v4) = true ∧
∃ x5 : Int, ldO false 1 (padd 1 (padd 1 v4)) o2 = some (.int .i64 x5) ∧
jp (stats_Stats_ask_J14 call n R) fun j15 =>
AV.isP v4 = true ∧
∃ x16 : Int, ldO false 1 (padd 0 v4) o2 = some (.int .i64 x16) ∧
cnd (x16 == (0 : Int)) (
cnd (decide (x5 ≥ (0 : Int))) (
j15 [v3, .int .i64 x5, .bool (decide (x5 ≤ (256 : Int)))] o2) (
j15 [v3, .int .i64 x5, .bool false] o2)) (
AV.isP v4 = true ∧
∃ x17 : Int, ldO false 1 (padd 0 v4) o2 = some (.int .i64 x17) ∧
cnd (x17 == (1 : Int)) (
cnd (decide (x5 ≥ (0 : Int))) (
j15 [v3, .int .i64 x5, .bool (decide (x5 ≤ (256 : Int)))] o2) (
j15 [v3, .int .i64 x5, .bool false] o2)) (
j15 [v3, .int .i64 x5, .bool false] o2))

abbrev stats_Stats_ask (call : CallO) (n : Nat) (R : AV → OS → Prop) (a0 : AV) (a1x0 : Int) (a1x1 : Int) (a1x2 : Int) (a1x3 : AV) (o : OS) : Prop :=
AV.one a1x3 = true ∧
bnd (o ++ [AO.cells true [.int .i64 a1x0, .int .i64 a1x1, .int .i64 a1x2, a1x3]]) fun o0 =>
jp (stats_Stats_ask_J18 call n R) fun j19 =>
AV.isP (AV.ptr (List.length o) 0) = true ∧
∃ x20 : Int, ldO false 1 (padd 0 (AV.ptr (List.length o) 0)) o0 = some (.int .i64 x20) ∧
cnd (x20 == (0 : Int)) (
AV.nnil a0 = true ∧
AV.isP a0 = true ∧
∃ x21 : Int, ldO false 1 (padd 0 a0) o0 = some (.int .i64 x21) ∧
bnd (IntKind.wrap .i64 (x21 + (1 : Int))) fun x22 =>
AV.nnil a0 = true ∧
AV.isP a0 = true ∧
∃ o23 : OS, stO (padd 0 a0) [.int .i64 x22] o0 = some o23 ∧
j19 [a0, (AV.ptr (List.length o) 0)] o23) (
cnd (x20 == (1 : Int)) (
AV.nnil a0 = true ∧
AV.isP a0 = true ∧
∃ x24 : Int, ldO false 1 (padd 1 a0) o0 = some (.int .i64 x24) ∧
bnd (IntKind.wrap .i64 (x24 + (1 : Int))) fun x25 =>
AV.nnil a0 = true ∧
AV.isP a0 = true ∧
∃ o26 : OS, stO (padd 1 a0) [.int .i64 x25] o0 = some o26 ∧
j19 [a0, (AV.ptr (List.length o) 0)] o26) (
cnd (x20 == (2 : Int)) (
AV.nnil a0 = true ∧
AV.isP a0 = true ∧
∃ x27 : Int, ldO false 1 (padd 2 a0) o0 = some (.int .i64 x27) ∧
bnd (IntKind.wrap .i64 (x27 + (1 : Int))) fun x28 =>
AV.nnil a0 = true ∧
AV.isP a0 = true ∧
∃ o29 : OS, stO (padd 2 a0) [.int .i64 x28] o0 = some o29 ∧
j19 [a0, (AV.ptr (List.length o) 0)] o29) (
j19 [a0, (AV.ptr (List.length o) 0)] o0)))

theorem stats_Stats_ask_eq (call : CallO) (n : Nat) (R : AV → OS → Prop) (a0 : AV) (a1x0 : Int) (a1x1 : Int) (a1x2 : Int) (a1x3 : AV) (o : OS) : gFun Try.prog call n 23 [a0, .agg [.int .i64 a1x0, .int .i64 a1x1, .int .i64 a1x2, a1x3]] o R = stats_Stats_ask call n R a0 a1x0 a1x1 a1x2 a1x3 o := by kernel_rfl
theorem stats_Stats_ask_go (n : Nat) {a0 : AV} {a1x0 : Int} {a1x1 : Int} {a1x2 : Int} {a1x3 : AV} {o : OS} {K : AV → OS → Prop} (h : stats_Stats_ask (GoF Try.prog) n (rt o K) a0 a1x0 a1x1 a1x2 a1x3 o) : Go Try.prog n_stats_Stats_ask [a0, .agg [.int .i64 a1x0, .int .i64 a1x1, .int .i64 a1x2, a1x3]] o K :=
  Go.of sane (n := n) ((stats_Stats_ask_eq (GoF Try.prog) n (rt o K) a0 a1x0 a1x1 a1x2 a1x3 o).mpr h)

/-! twain/twainref47.in -/
abbrev twainref47_in_J2 (call : CallO) (n : Nat) (R : AV → OS → Prop) : List AV → OS → Prop := fun vals0 o1 =>
vals0 = [] ∧
R (AV.bool false) o1

abbrev twainref47_in_L13 (call : CallO) (n : Nat) (R : AV → OS → Prop) (j3 : List AV → OS → Prop) : (List AV → OS → Prop) → List AV → OS → Prop := fun X4 vals5 o6 =>
∃ x7 : Int, ∃ v8 : AV, ∃ x9 : Int, ∃ x10 : Int, vals5 = [.int .i64 x7, v8, .int .i64 x9, .int .i64 x10] ∧
cnd (decide (x10 < x9)) (
(0 ≤ x10 ∧ x10 < alen v8) ∧
∃ x11 : Int, ldO false 1 (ixp 1 v8 x10) o6 = some (.int .i64 x11) ∧
cnd (x11 == x7) (
R (AV.bool true) o6) (
bnd (IntKind.wrap .i64 (x10 + (1 : Int))) fun x12 =>
X4 [.int .i64 x7, v8, .int .i64 x9, .int .i64 x12] o6)) (
j3 [] o6)

abbrev twainref47_in (call : CallO) (n : Nat) (R : AV → OS → Prop) (a0 : AV) (a1 : Int) (o : OS) : Prop :=
jp (twainref47_in_J2 call n R) fun j3 =>
AV.isS a0 = true ∧
lp n (twainref47_in_L13 call n R j3) [.int .i64 a1, a0, .int .i64 (alen a0), .int .i64 (0 : Int)] o

theorem twainref47_in_eq (call : CallO) (n : Nat) (R : AV → OS → Prop) (a0 : AV) (a1 : Int) (o : OS) : gFun Try.prog call n 26 [a0, .int .i64 a1] o R = twainref47_in call n R a0 a1 o := by kernel_rfl
theorem twainref47_in_go (n : Nat) {a0 : AV} {a1 : Int} {o : OS} {K : AV → OS → Prop} (h : twainref47_in (GoF Try.prog) n (rt o K) a0 a1 o) : Go Try.prog n_twainref47_in [a0, .int .i64 a1] o K :=
  Go.of sane (n := n) ((twainref47_in_eq (GoF Try.prog) n (rt o K) a0 a1 o).mpr h)

/-! twain/twainref36.Open -/
abbrev twainref36_Open_J3 (call : CallO) (n : Nat) (R : AV → OS → Prop) : List AV → OS → Prop := fun vals0 o1 =>
∃ v2 : AV, vals0 = [v2] ∧
R v2 o1

abbrev twainref36_Open_J21 (call : CallO) (n : Nat) (R : AV → OS → Prop) (X5 : List AV → OS → Prop) : List AV → OS → Prop := fun vals13 o14 =>
∃ v15 : AV, ∃ v16 : AV, ∃ v17 : AV, ∃ x18 : Int, ∃ x19 : Int, vals13 = [v15, v16, v17, .int .i64 x18, .int .i64 x19] ∧
bnd (IntKind.wrap .i64 (x19 + (1 : Int))) fun x20 =>
X5 [v15, v16, v17, .int .i64 x18, .int .i64 x20] o14

abbrev twainref36_Open_J45 (call : CallO) (n : Nat) (R : AV → OS → Prop) (j22 : List AV → OS → Prop) : List AV → OS → Prop := fun vals33 o34 =>
∃ v35 : AV, ∃ v36 : AV, ∃ x37 : Int, ∃ v38 : AV, ∃ x39 : Int, ∃ x40 : Int, ∃ b41 : Bool, vals33 = [v35, v36, .int .i64 x37, v38, .int .i64 x39, .int .i64 x40, .bool b41] ∧
cnd b41 (
bnd (o34 ++ [AO.cells true [.int .i64 x37]]) fun o42 =>
∃ (v43 : AV) (o44 : OS), appO 1 8 v36 (AV.slice (List.length o34) 0 1 1 0) o42 = some (v43, o44) ∧
j22 [v35, v43, v38, .int .i64 x39, .int .i64 x40] o44) (
j22 [v35, v36, v38, .int .i64 x39, .int .i64 x40] o34)

abbrev twainref36_Open_L51 (call : CallO) (n : Nat) (R : AV → OS → Prop) (j4 : List AV → OS → Prop) : (List AV → OS → Prop) → List AV → OS → Prop := fun X5 vals6 o7 =>
∃ v8 : AV, ∃ v9 : AV, ∃ v10 : AV, ∃ x11 : Int, ∃ x12 : Int, vals6 = [v8, v9, v10, .int .i64 x11, .int .i64 x12] ∧
cnd (decide (x12 < x11)) (
jp (twainref36_Open_J21 call n R X5) fun j22 =>
(0 ≤ x12 ∧ x12 < alen v10) ∧
∃ x23 : Int, ∃ x24 : Int, ∃ x25 : Int, ∃ x26 : Int, ∃ x27 : Int, ∃ x28 : Int, ∃ v29 : AV, ∃ v30 : AV, ldO true 8 (ixp 8 v10 x12) o7 = some (.agg [.int .i64 x23, .int .i64 x24, .int .i64 x25, .int .i64 x26, .int .i64 x27, .int .i64 x28, v29, v30]) ∧
bnd (o7 ++ [AO.cells true [.int .i64 (0 : Int), .int .i64 (0 : Int), .int .i64 (0 : Int), .int .i64 (0 : Int), .int .i64 (0 : Int), .int .i64 (0 : Int), .nilslice, .nilslice]]) fun o31 =>
AV.one v29 = true ∧
AV.one v30 = true ∧
∃ o32 : OS, stO (AV.ptr (List.length o7) 0) [.int .i64 x23, .int .i64 x24, .int .i64 x25, .int .i64 x26, .int .i64 x27, .int .i64 x28, v29, v30] o31 = some o32 ∧
jp (twainref36_Open_J45 call n R j22) fun j46 =>
AV.isP (AV.ptr (List.length o7) 0) = true ∧
∃ x47 : Int, ldO false 1 (padd 0 (AV.ptr (List.length o7) 0)) o32 = some (.int .i64 x47) ∧
cnd (x47 == (0 : Int)) (
call (.func n_twainref36_ended) [v8, .int .i64 x12] o32 fun v48 o49 =>
∃ x50 : Int, v48 = .int .i64 x50 ∧
j46 [v8, v9, .int .i64 x12, v10, .int .i64 x11, .int .i64 x12, .bool (decide (x50 < (0 : Int)))] o49) (
j46 [v8, v9, .int .i64 x12, v10, .int .i64 x11, .int .i64 x12, .bool false] o32)) (
j4 [v9] o7)

abbrev twainref36_Open (call : CallO) (n : Nat) (R : AV → OS → Prop) (a0 : AV) (o : OS) : Prop :=
jp (twainref36_Open_J3 call n R) fun j4 =>
AV.isS a0 = true ∧
lp n (twainref36_Open_L51 call n R j4) [a0, .nilslice, a0, .int .i64 (alen a0), .int .i64 (0 : Int)] o

theorem twainref36_Open_eq (call : CallO) (n : Nat) (R : AV → OS → Prop) (a0 : AV) (o : OS) : gFun Try.prog call n 27 [a0] o R = twainref36_Open call n R a0 o := by kernel_rfl
theorem twainref36_Open_go (n : Nat) {a0 : AV} {o : OS} {K : AV → OS → Prop} (h : twainref36_Open (GoF Try.prog) n (rt o K) a0 o) : Go Try.prog n_twainref36_Open [a0] o K :=
  Go.of sane (n := n) ((twainref36_Open_eq (GoF Try.prog) n (rt o K) a0 o).mpr h)

/-! twain/twainref36.ended -/
abbrev twainref36_ended_J2 (call : CallO) (n : Nat) (R : AV → OS → Prop) : List AV → OS → Prop := fun vals0 o1 =>
vals0 = [] ∧
R (AV.int .i64 (-1 : Int)) o1

abbrev twainref36_ended_J18 (call : CallO) (n : Nat) (R : AV → OS → Prop) (X5 : List AV → OS → Prop) : List AV → OS → Prop := fun vals11 o12 =>
∃ v13 : AV, ∃ x14 : Int, ∃ x15 : Int, ∃ b16 : Bool, vals11 = [v13, .int .i64 x14, .int .i64 x15, .bool b16] ∧
cnd b16 (
R (AV.int .i64 x15) o12) (
bnd (IntKind.wrap .i64 (x15 + (1 : Int))) fun x17 =>
X5 [v13, .int .i64 x14, .int .i64 x17] o12)

abbrev twainref36_ended_L24 (call : CallO) (n : Nat) (R : AV → OS → Prop) (j3 : List AV → OS → Prop) : (List AV → OS → Prop) → List AV → OS → Prop := fun X5 vals6 o7 =>
∃ v8 : AV, ∃ x9 : Int, ∃ x10 : Int, vals6 = [v8, .int .i64 x9, .int .i64 x10] ∧
AV.isS v8 = true ∧
cnd (decide (x10 < (alen v8))) (
jp (twainref36_ended_J18 call n R X5) fun j19 =>
(0 ≤ x10 ∧ x10 < alen v8) ∧
AV.isP (ixp 8 v8 x10) = true ∧
∃ x20 : Int, ldO false 1 (padd 0 (ixp 8 v8 x10)) o7 = some (.int .i64 x20) ∧
cnd (x20 == (1 : Int)) (
call (.func n_twainref36_asked) [v8, .int .i64 x10] o7 fun v21 o22 =>
∃ x23 : Int, v21 = .int .i64 x23 ∧
j19 [v8, .int .i64 x9, .int .i64 x10, .bool (x23 == x9)] o22) (
j19 [v8, .int .i64 x9, .int .i64 x10, .bool false] o7)) (
j3 [] o7)

abbrev twainref36_ended (call : CallO) (n : Nat) (R : AV → OS → Prop) (a0 : AV) (a1 : Int) (o : OS) : Prop :=
jp (twainref36_ended_J2 call n R) fun j3 =>
bnd (IntKind.wrap .i64 (a1 + (1 : Int))) fun x4 =>
lp n (twainref36_ended_L24 call n R j3) [a0, .int .i64 a1, .int .i64 x4] o

theorem twainref36_ended_eq (call : CallO) (n : Nat) (R : AV → OS → Prop) (a0 : AV) (a1 : Int) (o : OS) : gFun Try.prog call n 39 [a0, .int .i64 a1] o R = twainref36_ended call n R a0 a1 o := by kernel_rfl
theorem twainref36_ended_go (n : Nat) {a0 : AV} {a1 : Int} {o : OS} {K : AV → OS → Prop} (h : twainref36_ended (GoF Try.prog) n (rt o K) a0 a1 o) : Go Try.prog n_twainref36_ended [a0, .int .i64 a1] o K :=
  Go.of sane (n := n) ((twainref36_ended_eq (GoF Try.prog) n (rt o K) a0 a1 o).mpr h)

/-! twain/twainref36.asked -/
abbrev twainref36_asked_J2 (call : CallO) (n : Nat) (R : AV → OS → Prop) : List AV → OS → Prop := fun vals0 o1 =>
vals0 = [] ∧
R (AV.int .i64 (-1 : Int)) o1

abbrev twainref36_asked_J17 (call : CallO) (n : Nat) (R : AV → OS → Prop) (X4 : List AV → OS → Prop) : List AV → OS → Prop := fun vals10 o11 =>
∃ v12 : AV, ∃ x13 : Int, ∃ x14 : Int, ∃ b15 : Bool, vals10 = [v12, .int .i64 x13, .int .i64 x14, .bool b15] ∧
cnd b15 (
R (AV.int .i64 x14) o11) (
bnd (IntKind.wrap .i64 (x14 + (1 : Int))) fun x16 =>
X4 [v12, .int .i64 x13, .int .i64 x16] o11)

abbrev twainref36_asked_L24 (call : CallO) (n : Nat) (R : AV → OS → Prop) (j3 : List AV → OS → Prop) : (List AV → OS → Prop) → List AV → OS → Prop := fun X4 vals5 o6 =>
∃ v7 : AV, ∃ x8 : Int, ∃ x9 : Int, vals5 = [v7, .int .i64 x8, .int .i64 x9] ∧
cnd (decide (x9 < x8)) (
jp (twainref36_asked_J17 call n R X4) fun j18 =>
(0 ≤ x9 ∧ x9 < alen v7) ∧
AV.isP (ixp 8 v7 x9) = true ∧
∃ x19 : Int, ldO false 1 (padd 0 (ixp 8 v7 x9)) o6 = some (.int .i64 x19) ∧
cnd (x19 == (0 : Int)) (
(0 ≤ x9 ∧ x9 < alen v7) ∧
AV.isP (ixp 8 v7 x9) = true ∧
∃ x20 : Int, ldO false 1 (padd 1 (ixp 8 v7 x9)) o6 = some (.int .i64 x20) ∧
(0 ≤ x8 ∧ x8 < alen v7) ∧
AV.isP (ixp 8 v7 x8) = true ∧
∃ x21 : Int, ldO false 1 (padd 1 (ixp 8 v7 x8)) o6 = some (.int .i64 x21) ∧
cnd (x20 == x21) (
(0 ≤ x9 ∧ x9 < alen v7) ∧
AV.isP (ixp 8 v7 x9) = true ∧
∃ x22 : Int, ldO false 1 (padd 2 (ixp 8 v7 x9)) o6 = some (.int .i64 x22) ∧
(0 ≤ x8 ∧ x8 < alen v7) ∧
AV.isP (ixp 8 v7 x8) = true ∧
∃ x23 : Int, ldO false 1 (padd 2 (ixp 8 v7 x8)) o6 = some (.int .i64 x23) ∧
j18 [v7, .int .i64 x8, .int .i64 x9, .bool (x22 == x23)] o6) (
j18 [v7, .int .i64 x8, .int .i64 x9, .bool false] o6)) (
j18 [v7, .int .i64 x8, .int .i64 x9, .bool false] o6)) (
j3 [] o6)

abbrev twainref36_asked (call : CallO) (n : Nat) (R : AV → OS → Prop) (a0 : AV) (a1 : Int) (o : OS) : Prop :=
jp (twainref36_asked_J2 call n R) fun j3 =>
lp n (twainref36_asked_L24 call n R j3) [a0, .int .i64 a1, .int .i64 (0 : Int)] o

theorem twainref36_asked_eq (call : CallO) (n : Nat) (R : AV → OS → Prop) (a0 : AV) (a1 : Int) (o : OS) : gFun Try.prog call n 46 [a0, .int .i64 a1] o R = twainref36_asked call n R a0 a1 o := by kernel_rfl
theorem twainref36_asked_go (n : Nat) {a0 : AV} {a1 : Int} {o : OS} {K : AV → OS → Prop} (h : twainref36_asked (GoF Try.prog) n (rt o K) a0 a1 o) : Go Try.prog n_twainref36_asked [a0, .int .i64 a1] o K :=
  Go.of sane (n := n) ((twainref36_asked_eq (GoF Try.prog) n (rt o K) a0 a1 o).mpr h)

end Go.Proofs.Ytlcapliakfomhaa
