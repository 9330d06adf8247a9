/- WorldNone: its call, whatever the act. -/
import Derived.Test.YtkjdkaaekpammabGreatT1
import Derived.Test.YtkjdkaaekpammabGreatL1
set_option linter.all false
namespace Go.Proofs.YtkjdkaaekpammabGreat
open Go Go.Ab
theorem run_lives {o : OS} {K : AV → OS → Prop} (hK : K (.bool true) o) : Go Tryz.prog n_twainlaw34_lives [] o K :=
  Go.alone' sane rfl rfl lives34.all hK

abbrev zeroW : List AV := [.int .i64 (0 : Int), .int .i64 (0 : Int), .int .i64 (0 : Int), .int .i64 (0 : Int), .int .i64 (0 : Int), .nilptr, .nilptr, .int .u64 (0 : Int), .nilptr, .nilptr, .int .u64 (0 : Int), .nilptr, .nilslice]
abbrev zero5 : List AV := [.int .i64 (0 : Int), .int .i64 (0 : Int), .int .i64 (0 : Int), .int .i64 (0 : Int), .int .i64 (0 : Int)]
/-- A world that no call made: none, or an empty one. -/
def NoW (o : OS) (v : AV) : Prop := v = .nilptr ∨ ∃ id, v = .ptr id 0 ∧ o[id]? = some (.cells true zeroW)
section
variable {o o' : OS} {v : AV} {K : AV → OS → Prop}
theorem NoW.gr (h : NoW o v) (hg : Gr o o') : NoW o' v := by
  rcases h with h | ⟨id, h1, h2⟩
  · exact .inl h
  · exact .inr ⟨id, h1, hg _ _ h2⟩
theorem run_is (h : NoW o v) (hK : K (.bool false) o) : Go Tryz.prog n_world_World_is [v] o K := by
  refine world_World_is_go 1 ?_
  unfold world_World_is
  rw [jp_eq]
  rcases h with rfl | ⟨id, rfl, h2⟩
  · exact ⟨_, rfl, _, rfl, rt_in hK⟩
  · refine ⟨false, rfl, rfl, rfl, .nilptr, by simp [padd, ldO, h2], true, rfl, _, rfl, rt_in hK⟩
theorem run_has {a : Int} (h : NoW o v) (hK : K (.bool false) o) : Go Tryz.prog n_world_World_has [v, .int .i64 a] o K := by
  refine world_World_has_go 1 ?_
  unfold world_World_has
  rw [jp_eq]
  refine run_is h ⟨_, rfl, ?_⟩
  exact ⟨_, rfl, rt_in hK⟩
theorem run_Do {k0 k1 k2 k3 k4 k5 k6 : Int} {w : AV} (hw : w.one = true) (h : NoW o v) (hK : K (.tuple [.int .i64 0, .int .i64 1]) o) : Go Tryz.prog n_world_World_Do [v, .agg [.int .i64 k0, .int .i64 k1, .int .i64 k2, .int .u64 k3, .int .i64 k4, .int .i64 k5, .int .i64 k6, w]] o K := by
  refine world_World_Do_go 1 ⟨hw, bnd_of rfl ?_⟩
  refine run_is (h.gr ((Gr.refl o).push _)) ⟨_, rfl, ?_⟩
  exact rt_old rfl ((Gr.refl o).push _) hK
theorem run_Node {a : Int} (h : NoW o v) (hK : K .nilptr o) : Go Tryz.prog n_world_World_Node [v, .int .i64 a] o K :=
  world_World_Node_go 1 (run_has h ⟨_, rfl, rt_in hK⟩)
theorem run_Disk {a : Int} (h : NoW o v) (hK : K .nilptr o) : Go Tryz.prog n_world_World_Disk [v, .int .i64 a] o K :=
  world_World_Disk_go 1 (run_has h ⟨_, rfl, rt_in hK⟩)
theorem run_Net (h : NoW o v) (hK : K .nilptr o) : Go Tryz.prog n_world_World_Net [v] o K :=
  world_World_Net_go 1 (run_is h ⟨_, rfl, rt_in hK⟩)
theorem run_Events (h : NoW o v) (hK : K .nilslice o) : Go Tryz.prog n_world_World_Events [v] o K :=
  world_World_Events_go 1 (run_is h ⟨_, rfl, rt_in hK⟩)
theorem run_Config (h : NoW o v) (hK : K (.agg zero5) o) : Go Tryz.prog n_world_World_Config [v] o K := by
  refine world_World_Config_go 1 (bnd_of rfl ?_)
  have g : Gr o (o ++ [AO.cells true zero5]) := (Gr.refl o).push _
  have hc : (o ++ [AO.cells true zero5])[o.length]? = some (.cells true zero5) := by simp
  generalize (o ++ [AO.cells true zero5]) = o1 at g hc ⊢
  refine run_is (h.gr g) ⟨_, rfl, ?_⟩
  rw [Bool.not_false, cnd_true]
  refine ⟨o1.set o.length (.cells true zero5), by simp [stO, hc, splice], 0, 0, 0, 0, 0, ?_, rt_old rfl (g.set (Nat.le_refl _) _) hK⟩
  have : (o1.set o.length (.cells true zero5))[o.length]? = some (.cells true zero5) := List.getElem?_set_self (getElem?_lt hc)
  simp [ldO, this]
end
section
variable {n : Nat} {R : AV → OS → Prop} {o : OS} {aid sid : Nat} {k0 k1 k2 k3 k4 k5 k6 : Int} {w : AV} {j9 : List AV → OS → Prop}
theorem none_round {X : List AV → OS → Prop} {x : Int} {v : AV} (h0 : 0 ≤ x) (h1 : x < 2) (ha : o[aid]? = some (.cells true [.int .i64 k0, .int .i64 k1, .int .i64 k2, .int .u64 k3, .int .i64 k4, .int .i64 k5, .int .i64 k6, w]))
    (hw : w.one = true) (hv : ldO false 1 (ixp 1 (.slice sid 0 2 2 0) x) o = some v) (hm : NoW o v) (hX : X [.ptr aid 0, .slice sid 0 2 2 0, .int .i64 2, .int .i64 (x + 1)] o) :
    twainlaw34_WorldNone_L61 (GoF Tryz.prog) n R j9 X [.ptr aid 0, .slice sid 0 2 2 0, .int .i64 2, .int .i64 x] o := by
  have hk : ldO false 1 (padd 1 (AV.ptr aid 0)) o = some (.int .i64 k1) := by simp [padd, ldO, ha]
  refine ⟨_, _, _, _, rfl, ?_⟩
  rw [cnd_dec, if_pos h1]
  refine ⟨⟨h0, h1⟩, v, hv, k0, k1, k2, k3, k4, k5, k6, w, by simp [ldO, ha], ?_⟩
  refine run_Do hw hm ⟨_, _, rfl, ?_⟩
  rw [jp_eq, cnd_bne, if_pos rfl, cnd_bne, if_pos rfl]
  refine ⟨rfl, _, hk, ?_⟩
  refine run_Node hm ⟨true, rfl, ?_⟩
  rw [Bool.not_true, cnd_false]
  refine ⟨rfl, _, hk, ?_⟩
  refine run_Disk hm ⟨true, rfl, ?_⟩
  rw [Bool.not_true, cnd_false]
  refine run_Net hm ⟨true, rfl, ?_⟩
  rw [Bool.not_true, cnd_false]
  refine run_Events hm ⟨rfl, ?_⟩
  rw [show alen AV.nilslice = 0 from rfl, cnd_bne, if_pos rfl]
  refine run_Config hm ⟨0, 0, 0, 0, 0, rfl, false, by kernel_rfl, ?_⟩
  refine ⟨_, _, _, _, _, rfl, ?_⟩
  rw [cnd_false]
  exact bnd_of (wrap_id (by omega) (by omega)) hX
end
/-- THE LAW's CALL. -/
theorem run_WorldNone {o : OS} {k0 k1 k2 k3 k4 k5 k6 : Int} {w : AV} {K : AV → OS → Prop} (hw : w.one = true) (hK : ∀ o', K (.bool true) o') :
    Go Tryz.prog n_twainlaw34_WorldNone [.agg [.int .i64 k0, .int .i64 k1, .int .i64 k2, .int .u64 k3, .int .i64 k4, .int .i64 k5, .int .i64 k6, w]] o K := by
  refine twainlaw34_WorldNone_go 3 ⟨hw, bnd_of rfl ?_⟩
  have ha : (o ++ [AO.cells true [.int .i64 k0, .int .i64 k1, .int .i64 k2, .int .u64 k3, .int .i64 k4, .int .i64 k5, .int .i64 k6, w]])[o.length]? = some (.cells true [.int .i64 k0, .int .i64 k1, .int .i64 k2, .int .u64 k3, .int .i64 k4, .int .i64 k5, .int .i64 k6, w]) := by simp
  generalize (o ++ [AO.cells true [AV.int .i64 k0, .int .i64 k1, .int .i64 k2, .int .u64 k3, .int .i64 k4, .int .i64 k5, .int .i64 k6, w]]) = o0 at ha ⊢
  refine ⟨rfl, rfl, rfl, rfl, rfl, rfl, bnd_of rfl ⟨rfl, rfl, bnd_of rfl ?_⟩⟩
  have g1 : Gr o0 (o0 ++ [AO.cells true zeroW]) := (Gr.refl o0).push _
  have m1 : (o0 ++ [AO.cells true zeroW])[o0.length]? = some (.cells true zeroW) := by simp
  generalize (o0 ++ [AO.cells true zeroW]) = o1 at g1 m1 ⊢
  have g2 : Gr o1 (o1 ++ [AO.cells true [.nilptr, .ptr o0.length 0]]) := (Gr.refl o1).push _
  have m2 : (o1 ++ [AO.cells true [.nilptr, .ptr o0.length 0]])[o1.length]? = some (.cells true [.nilptr, .ptr o0.length 0]) := by simp
  generalize (o1 ++ [AO.cells true [AV.nilptr, .ptr o0.length 0]]) = o2 at g2 m2 ⊢
  have ha2 := g2 _ _ (g1 _ _ ha)
  rw [jp_eq]
  refine ⟨rfl, ?_⟩
  rw [lp_succ]
  refine none_round (x := 0) (v := .nilptr) (by omega) (by omega) ha2 hw (by simp [ixp, ldO, m2]) (.inl rfl) ?_
  rw [lp_succ]
  refine none_round (x := 1) (v := .ptr o0.length 0) (by omega) (by omega) ha2 hw (by simp [ixp, ldO, m2]) (.inr ⟨_, rfl, g2 _ _ m1⟩) ?_
  rw [lp_succ]
  refine ⟨_, _, _, _, rfl, ?_⟩
  rw [cnd_dec, if_neg (by omega)]
  refine ⟨rfl, run_lives ?_⟩; exact ⟨_, rfl, rt_in (hK _)⟩
namespace RunWorldNone
theorem runs {H : Type} {ds : List (DataW H)} (x0 : hasTs Tryz.prog 9 [29] ds) : CallOk Tryz.prog (.func 3) (layArgs Tryz.prog [29] ds { objs := [] }).1 (layArgs Tryz.prog [29] ds { objs := [] }).2 fun v _ => v = .bool true := by
  obtain ⟨d1, r2, rfl, h4, x5⟩ := hasTs_cons x0
  obtain rfl := hasTs_nil x5
  obtain ⟨p6, rfl, y7⟩ := hasT_struct Tryz.underlying29 [3, 3, 3, 22, 27] rfl h4
  obtain ⟨d8, r9, rfl, h10, y11⟩ := hasTs_cons y7
  obtain ⟨d12, r13, rfl, h14, y15⟩ := hasTs_cons y11
  obtain ⟨d16, r17, rfl, h18, y19⟩ := hasTs_cons y15
  obtain ⟨d20, r21, rfl, h22, y23⟩ := hasTs_cons y19
  obtain ⟨d24, r25, rfl, h26, y27⟩ := hasTs_cons y23
  obtain rfl := hasTs_nil y27
  obtain ⟨k28, rfl, w29⟩ := hasT_int Tryz.underlying3 h10
  obtain ⟨k30, rfl, w31⟩ := hasT_int Tryz.underlying3 h14
  obtain ⟨k32, rfl, w33⟩ := hasT_int Tryz.underlying3 h18
  obtain ⟨k34, rfl, w35⟩ := hasT_int Tryz.underlying22 h22
  obtain ⟨p36, rfl, y37⟩ := hasT_struct Tryz.underlying27 [3, 24, 25] rfl h26
  obtain ⟨d38, r39, rfl, h40, y41⟩ := hasTs_cons y37
  obtain ⟨d42, r43, rfl, h44, y45⟩ := hasTs_cons y41
  obtain ⟨d46, r47, rfl, h48, y49⟩ := hasTs_cons y45
  obtain rfl := hasTs_nil y49
  obtain ⟨k50, rfl, w51⟩ := hasT_int Tryz.underlying3 h40
  obtain ⟨p52, rfl, y53⟩ := hasT_struct Tryz.underlying24 [3, 3] rfl h44
  obtain ⟨d54, r55, rfl, h56, y57⟩ := hasTs_cons y53
  obtain ⟨d58, r59, rfl, h60, y61⟩ := hasTs_cons y57
  obtain rfl := hasTs_nil y61
  obtain ⟨k62, rfl, w63⟩ := hasT_int Tryz.underlying3 h56
  obtain ⟨k64, rfl, w65⟩ := hasT_int Tryz.underlying3 h60
  obtain ⟨v66, o67, z68, e69, g70, f71, w72⟩ := lay_K Tryz.underlying25 Tryz.underlying5 h48 []
  have agg29 : tyAgg Tryz.prog 29 = .some true := by kernel_rfl
  have e0 := e69
  change lay _ { objs := [] } = _ at e0
  have e : layArgs Tryz.prog [29] [(.agg [(.lit (.int .i64 k28)), (.lit (.int .i64 k30)), (.lit (.int .i64 k32)), (.lit (.int .u64 k34)), (.agg [(.lit (.int .i64 k50)), (.agg [(.lit (.int .i64 k62)), (.lit (.int .i64 k64))]), d46])])] { objs := [] } = ([.agg [.int .i64 k28, .int .i64 k30, .int .i64 k32, .int .u64 k34, .int .i64 k50, .int .i64 k62, .int .i64 k64, v66]], mk o67) := by
    simp only [layArgs, layArg, agg29, lay_agg, layAll_cons, layAll_nil, lay_int, lay_bool, lay_str, e0, List.cons_append, List.nil_append, List.head?_cons, Option.getD_some]
  rw [e]
  exact run_WorldNone (K := fun v _ => v = .bool true) f71.one fun _ => rfl

end RunWorldNone
end Go.Proofs.YtkjdkaaekpammabGreat
