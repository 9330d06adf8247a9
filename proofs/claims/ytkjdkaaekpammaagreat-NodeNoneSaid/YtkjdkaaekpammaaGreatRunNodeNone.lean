/- NodeNone: its call, whatever the act. -/
import Derived.Test.YtkjdkaaekpammaaGreatT1
import Derived.Test.YtkjdkaaekpammaaGreatL1
set_option linter.all false
namespace Go.Proofs.YtkjdkaaekpammaaGreat
open Go Go.Ab
theorem run_lives {o : OS} {K : AV → OS → Prop} (hK : K (.bool true) o) : Go Tryz.prog n_twainlaw32_lives [] o K :=
  Go.alone' sane rfl rfl lives32.all hK

abbrev zeroN : List AV := [.int .i64 (0 : Int), .int .i64 (0 : Int), .int .i64 (0 : Int), .int .i64 (0 : Int), .int .i64 (0 : Int), .int .i64 (0 : Int), .nilptr, .nilptr, .int .i64 (0 : Int), .bool false, .int .i64 (0 : Int), .int .i64 (0 : Int), .int .i64 (0 : Int), .int .i64 (0 : Int), .int .u64 (0 : Int), .bool false, .nilslice, .nilptr, .nilptr, .nilptr, .nilslice, .nilslice]
/-- A node that no call made: none, or an empty one. -/
def NoN (o : OS) (v : AV) : Prop := v = .nilptr ∨ ∃ id, v = .ptr id 0 ∧ o[id]? = some (.cells true zeroN)
section
variable {o o' : OS} {v : AV} {K : AV → OS → Prop}
theorem NoN.gr (h : NoN o v) (hg : Gr o o') : NoN o' v := by
  rcases h with h | ⟨id, h1, h2⟩
  · exact .inl h
  · exact .inr ⟨id, h1, hg _ _ h2⟩
theorem NoN.one (h : NoN o v) : v.one = true := by
  rcases h with rfl | ⟨id, rfl, h2⟩ <;> rfl
theorem run_is (h : NoN o v) (hK : K (.bool false) o) : Go Tryz.prog n_node_Node_is [v] o K := by
  refine node_Node_is_go 1 ?_
  unfold node_Node_is
  rw [jp_eq]
  rcases h with rfl | ⟨id, rfl, h2⟩
  · exact ⟨_, rfl, _, rfl, rt_in hK⟩
  · refine ⟨false, rfl, rfl, rfl, .nilptr, by simp [padd, ldO, h2], true, rfl, _, rfl, rt_in hK⟩
theorem run_up (h : NoN o v) (hK : K (.bool false) o) : Go Tryz.prog n_node_Node_up [v] o K := by
  refine node_Node_up_go 1 ?_
  unfold node_Node_up
  rw [jp_eq]
  refine run_is h ⟨_, rfl, ?_⟩
  exact ⟨_, rfl, rt_in hK⟩
theorem run_Submit {a b c : Int} {w : AV} (hw : w.one = true) (h : NoN o v) (hK : K (.tuple [.int .i64 0, .int .i64 1]) o) : Go Tryz.prog n_node_Node_Submit [v, .agg [.int .i64 a, .int .i64 b, .int .i64 c, w]] o K := by
  refine node_Node_Submit_go 1 ⟨hw, bnd_of rfl ?_⟩
  refine run_is (h.gr ((Gr.refl o).push _)) ⟨_, rfl, ?_⟩
  exact rt_old rfl ((Gr.refl o).push _) hK
theorem run_Take {w : AV} (hw : w.one = true) (h : NoN o v) (hK : K (.tuple []) o) : Go Tryz.prog n_node_Node_Take [v, w] o K := by
  refine node_Node_Take_go 1 ⟨h.one, bnd_of rfl ⟨hw, bnd_of rfl ⟨v, ?_, ?_⟩⟩⟩
  · simp [ldO, List.getElem?_append]
  · refine run_up (h.gr (((Gr.refl o).push _).push _)) ⟨_, rfl, ?_⟩
    exact rt_old rfl (((Gr.refl o).push _).push _) hK
theorem run_Tick (h : NoN o v) (hK : K (.tuple []) o) : Go Tryz.prog n_node_Node_Tick [v] o K := by
  refine node_Node_Tick_go 1 ⟨h.one, bnd_of rfl ⟨v, ?_, ?_⟩⟩
  · simp [ldO]
  · refine run_up (h.gr ((Gr.refl o).push _)) ⟨_, rfl, ?_⟩
    exact rt_old rfl ((Gr.refl o).push _) hK
theorem run_Stop (h : NoN o v) (hK : K (.tuple []) o) : Go Tryz.prog n_node_Node_Stop [v] o K :=
  node_Node_Stop_go 1 (run_is h ⟨_, rfl, rt_in hK⟩)
theorem run_Start (h : NoN o v) (hK : K (.int .i64 1) o) : Go Tryz.prog n_node_Node_Start [v] o K :=
  node_Node_Start_go 1 (run_is h ⟨_, rfl, rt_in hK⟩)
theorem run_Status (h : NoN o v) (hK : K (.int .i64 0) o) : Go Tryz.prog n_node_Node_Status [v] o K :=
  node_Node_Status_go 1 (run_up h ⟨_, rfl, rt_in hK⟩)
theorem run_Poll (h : NoN o v) (hK : K .nilslice o) : Go Tryz.prog n_node_Node_Poll [v] o K :=
  node_Node_Poll_go 1 (run_is h ⟨_, rfl, rt_in hK⟩)
theorem run_Mail (h : NoN o v) (hK : K .nilslice o) : Go Tryz.prog n_node_Node_Mail [v] o K :=
  node_Node_Mail_go 1 (run_is h ⟨_, rfl, rt_in hK⟩)
theorem run_Requests (h : NoN o v) (hK : K .nilslice o) : Go Tryz.prog n_node_Node_Requests [v] o K :=
  node_Node_Requests_go 1 (run_up h ⟨_, rfl, rt_in hK⟩)
theorem run_Flying (h : NoN o v) (hK : K .nilslice o) : Go Tryz.prog n_node_Node_Flying [v] o K :=
  node_Node_Flying_go 1 (run_up h ⟨_, rfl, rt_in hK⟩)
theorem run_Unacked (h : NoN o v) (hK : K (.int .i64 0) o) : Go Tryz.prog n_node_Node_Unacked [v] o K :=
  node_Node_Unacked_go 1 (run_up h ⟨_, rfl, rt_in hK⟩)
theorem run_Boot (h : NoN o v) (hK : K (.int .u32 0) o) : Go Tryz.prog n_node_Node_Boot [v] o K :=
  node_Node_Boot_go 1 (run_up h ⟨_, rfl, rt_in hK⟩)
theorem run_Peer (h : NoN o v) (hK : K (.int .u32 0) o) : Go Tryz.prog n_node_Node_Peer [v] o K :=
  node_Node_Peer_go 1 (run_up h ⟨_, rfl, rt_in hK⟩)
theorem run_Left (h : NoN o v) (hK : K (.int .u64 0) o) : Go Tryz.prog n_node_Node_Left [v] o K :=
  node_Node_Left_go 1 (run_up h ⟨_, rfl, rt_in hK⟩)
end
abbrev actC (k0 k1 k2 k3 k4 k5 k7 k8 k9 k10 k11 k13 k14 k15 k16 : Int) (b17 : Bool) (w6 w12 w18 w19 : AV) : List AV := [.int .i64 k0, .int .i64 k1, .int .u64 k2, .int .i64 k3, .int .i64 k4, .int .i64 k5, w6, .int .u32 k7, .int .u32 k8, .int .i64 k9, .int .i64 k10, .int .i64 k11, w12, .int .i64 k13, .int .i64 k14, .int .i64 k15, .int .u64 k16, .bool b17, w18, w19]
section
variable {n : Nat} {R : AV → OS → Prop} {o : OS} {aid sid : Nat} {k0 k1 k2 k3 k4 k5 k7 k8 k9 k10 k11 k13 k14 k15 k16 : Int} {b17 : Bool} {w6 w12 w18 w19 : AV} {j16 : List AV → OS → Prop}
theorem none_round {X : List AV → OS → Prop} {x : Int} {v : AV} (h0 : 0 ≤ x) (h1 : x < 2) (ha : o[aid]? = some (.cells true (actC k0 k1 k2 k3 k4 k5 k7 k8 k9 k10 k11 k13 k14 k15 k16 b17 w6 w12 w18 w19)))
    (hw : w6.one = true) (hw2 : w19.one = true) (hv : ldO false 1 (ixp 1 (.slice sid 0 2 2 0) x) o = some v) (hm : NoN o v) (hX : X [.ptr aid 0, .slice sid 0 2 2 0, .int .i64 2, .int .i64 (x + 1)] o) :
    twainlaw32_NodeNone_L80 (GoF Tryz.prog) n R j16 X [.ptr aid 0, .slice sid 0 2 2 0, .int .i64 2, .int .i64 x] o := by
  refine ⟨_, _, _, _, rfl, ?_⟩
  rw [cnd_dec, if_pos h1]
  refine ⟨⟨h0, h1⟩, v, hv, rfl, k3, k4, k5, w6, by simp [padd, ldO, ha], ?_⟩
  refine run_Submit hw hm ⟨_, _, rfl, rfl, w19, by simp [padd, ldO, ha], ?_⟩
  refine run_Take hw2 hm ?_
  refine run_Tick hm ?_
  refine run_Stop hm ?_
  rw [jp_eq, cnd_bne, if_pos rfl, cnd_bne, if_pos rfl]
  refine run_Start hm ⟨_, rfl, ?_⟩
  rw [cnd_bne, if_pos rfl]
  refine run_Status hm ⟨_, rfl, ?_⟩
  rw [cnd_bne, if_pos rfl]
  refine run_Poll hm ⟨rfl, ?_⟩
  refine run_Mail hm ⟨rfl, bnd_of (y := 0) rfl ?_⟩
  refine run_Requests hm ⟨rfl, bnd_of (y := 0) rfl ?_⟩
  refine run_Flying hm ⟨rfl, bnd_of (y := 0) rfl ?_⟩
  refine run_Unacked hm ⟨_, rfl, bnd_of (y := 0) rfl ?_⟩
  rw [cnd_bne, if_pos rfl]
  refine run_Boot hm ⟨_, rfl, ?_⟩
  rw [cnd_bne, if_pos rfl]
  refine run_Peer hm ⟨_, rfl, ?_⟩
  rw [cnd_bne, if_pos rfl]
  refine run_Left hm ⟨_, rfl, ?_⟩
  refine ⟨_, _, _, _, _, rfl, ?_⟩
  rw [show ((0 : Int) != 0) = false from rfl, cnd_false]
  exact bnd_of (wrap_id (by omega) (by omega)) hX
end
/-- THE LAW's CALL. -/
theorem run_NodeNone {o : OS} {k0 k1 k2 k3 k4 k5 k7 k8 k9 k10 k11 k13 k14 k15 k16 : Int} {b17 : Bool} {w6 w12 w18 w19 : AV} {K : AV → OS → Prop} (h6 : w6.isS = true) (h6' : w6.one = true) (h12 : w12.one = true) (h18 : w18.one = true) (h19 : w19.isS = true) (h19' : w19.one = true) (hK : ∀ o', K (.bool true) o') :
    Go Tryz.prog n_twainlaw32_NodeNone [.agg (actC k0 k1 k2 k3 k4 k5 k7 k8 k9 k10 k11 k13 k14 k15 k16 b17 w6 w12 w18 w19)] o K := by
  refine twainlaw32_NodeNone_go 3 ⟨h6', h12, h18, h19', bnd_of rfl ?_⟩
  have ha : (o ++ [AO.cells true (actC k0 k1 k2 k3 k4 k5 k7 k8 k9 k10 k11 k13 k14 k15 k16 b17 w6 w12 w18 w19)])[o.length]? = some (.cells true (actC k0 k1 k2 k3 k4 k5 k7 k8 k9 k10 k11 k13 k14 k15 k16 b17 w6 w12 w18 w19)) := by simp
  generalize (o ++ [AO.cells true (actC k0 k1 k2 k3 k4 k5 k7 k8 k9 k10 k11 k13 k14 k15 k16 b17 w6 w12 w18 w19)]) = o0 at ha ⊢
  have body : ∀ b : Bool, twainlaw32_NodeNone_J81 (GoF Tryz.prog) 3 (rt o K) [.ptr o.length 0, .bool b] o0 := by
    intro b
    refine ⟨_, _, rfl, ?_⟩
    cases b with
    | true => rw [cnd_true]; refine run_lives ?_; exact ⟨_, rfl, rt_in (hK _)⟩
    | false =>
      rw [cnd_false]
      refine ⟨rfl, rfl, rfl, rfl, rfl, rfl, rfl, rfl, bnd_of rfl ⟨rfl, rfl, bnd_of rfl ?_⟩⟩
      have g1 : Gr o0 (o0 ++ [AO.cells true zeroN]) := (Gr.refl o0).push _
      have m1 : (o0 ++ [AO.cells true zeroN])[o0.length]? = some (.cells true zeroN) := by simp
      generalize (o0 ++ [AO.cells true zeroN]) = o1 at g1 m1 ⊢
      have g2 : Gr o1 (o1 ++ [AO.cells true [.nilptr, .ptr o0.length 0]]) := (Gr.refl o1).push _
      have m2 : (o1 ++ [AO.cells true [.nilptr, .ptr o0.length 0]])[o1.length]? = some (.cells true [.nilptr, .ptr o0.length 0]) := by simp
      generalize (o1 ++ [AO.cells true [AV.nilptr, .ptr o0.length 0]]) = o2 at g2 m2 ⊢
      have ha2 := g2 _ _ (g1 _ _ ha)
      rw [jp_eq]
      refine ⟨rfl, ?_⟩
      rw [lp_succ]
      refine none_round (x := 0) (v := .nilptr) (by omega) (by omega) ha2 h6' h19' (by simp [ixp, ldO, m2]) (.inl rfl) ?_
      rw [lp_succ]
      refine none_round (x := 1) (v := .ptr o0.length 0) (by omega) (by omega) ha2 h6' h19' (by simp [ixp, ldO, m2]) (.inr ⟨_, rfl, g2 _ _ m1⟩) ?_
      rw [lp_succ]
      refine ⟨_, _, _, _, rfl, ?_⟩
      rw [cnd_dec, if_neg (by omega)]
      refine ⟨rfl, run_lives ?_⟩; exact ⟨_, rfl, rt_in (hK _)⟩
  rw [jp_eq]
  refine ⟨rfl, rfl, w6, by simp [padd, ldO, ha], h6, ?_⟩
  rw [cnd_dec]
  split
  · exact body true
  · exact ⟨rfl, w19, by simp [padd, ldO, ha], h19, body _⟩
namespace RunNodeNone
theorem runs {H : Type} {ds : List (DataW H)} (x0 : hasTs Tryz.prog 9 [34] ds) : CallOk Tryz.prog (.func 3) (layArgs Tryz.prog [34] ds { objs := [] }).1 (layArgs Tryz.prog [34] ds { objs := [] }).2 fun v _ => v = .bool true := by
  obtain ⟨d1, r2, rfl, h4, x5⟩ := hasTs_cons x0
  obtain rfl := hasTs_nil x5
  obtain ⟨p6, rfl, y7⟩ := hasT_struct Tryz.underlying34 [3, 3, 22, 27, 30, 32, 25] rfl h4
  obtain ⟨d8, r9, rfl, h10, y11⟩ := hasTs_cons y7
  obtain ⟨d12, r13, rfl, h14, y15⟩ := hasTs_cons y11
  obtain ⟨d16, r17, rfl, h18, y19⟩ := hasTs_cons y15
  obtain ⟨d20, r21, rfl, h22, y23⟩ := hasTs_cons y19
  obtain ⟨d24, r25, rfl, h26, y27⟩ := hasTs_cons y23
  obtain ⟨d28, r29, rfl, h30, y31⟩ := hasTs_cons y27
  obtain ⟨d32, r33, rfl, h34, y35⟩ := hasTs_cons y31
  obtain rfl := hasTs_nil y35
  obtain ⟨k36, rfl, w37⟩ := hasT_int Tryz.underlying3 h10
  obtain ⟨k38, rfl, w39⟩ := hasT_int Tryz.underlying3 h14
  obtain ⟨k40, rfl, w41⟩ := hasT_int Tryz.underlying22 h18
  obtain ⟨p42, rfl, y43⟩ := hasT_struct Tryz.underlying27 [3, 24, 25] rfl h22
  obtain ⟨d44, r45, rfl, h46, y47⟩ := hasTs_cons y43
  obtain ⟨d48, r49, rfl, h50, y51⟩ := hasTs_cons y47
  obtain ⟨d52, r53, rfl, h54, y55⟩ := hasTs_cons y51
  obtain rfl := hasTs_nil y55
  obtain ⟨k56, rfl, w57⟩ := hasT_int Tryz.underlying3 h46
  obtain ⟨p58, rfl, y59⟩ := hasT_struct Tryz.underlying24 [3, 3] rfl h50
  obtain ⟨d60, r61, rfl, h62, y63⟩ := hasTs_cons y59
  obtain ⟨d64, r65, rfl, h66, y67⟩ := hasTs_cons y63
  obtain rfl := hasTs_nil y67
  obtain ⟨k68, rfl, w69⟩ := hasT_int Tryz.underlying3 h62
  obtain ⟨k70, rfl, w71⟩ := hasT_int Tryz.underlying3 h66
  obtain ⟨v72, o73, z74, e75, g76, f77, w78⟩ := lay_K Tryz.underlying25 Tryz.underlying5 h54 []
  obtain ⟨p79, rfl, y80⟩ := hasT_struct Tryz.underlying30 [28, 28, 3, 3, 3, 25] rfl h26
  obtain ⟨d81, r82, rfl, h83, y84⟩ := hasTs_cons y80
  obtain ⟨d85, r86, rfl, h87, y88⟩ := hasTs_cons y84
  obtain ⟨d89, r90, rfl, h91, y92⟩ := hasTs_cons y88
  obtain ⟨d93, r94, rfl, h95, y96⟩ := hasTs_cons y92
  obtain ⟨d97, r98, rfl, h99, y100⟩ := hasTs_cons y96
  obtain ⟨d101, r102, rfl, h103, y104⟩ := hasTs_cons y100
  obtain rfl := hasTs_nil y104
  obtain ⟨k105, rfl, w106⟩ := hasT_int Tryz.underlying28 h83
  obtain ⟨k107, rfl, w108⟩ := hasT_int Tryz.underlying28 h87
  obtain ⟨k109, rfl, w110⟩ := hasT_int Tryz.underlying3 h91
  obtain ⟨k111, rfl, w112⟩ := hasT_int Tryz.underlying3 h95
  obtain ⟨k113, rfl, w114⟩ := hasT_int Tryz.underlying3 h99
  obtain ⟨v115, o116, z117, e118, g119, f120, w121⟩ := lay_K Tryz.underlying25 Tryz.underlying5 h103 o73
  obtain ⟨p122, rfl, y123⟩ := hasT_struct Tryz.underlying32 [3, 3, 3, 22, 4, 25] rfl h30
  obtain ⟨d124, r125, rfl, h126, y127⟩ := hasTs_cons y123
  obtain ⟨d128, r129, rfl, h130, y131⟩ := hasTs_cons y127
  obtain ⟨d132, r133, rfl, h134, y135⟩ := hasTs_cons y131
  obtain ⟨d136, r137, rfl, h138, y139⟩ := hasTs_cons y135
  obtain ⟨d140, r141, rfl, h142, y143⟩ := hasTs_cons y139
  obtain ⟨d144, r145, rfl, h146, y147⟩ := hasTs_cons y143
  obtain rfl := hasTs_nil y147
  obtain ⟨k148, rfl, w149⟩ := hasT_int Tryz.underlying3 h126
  obtain ⟨k150, rfl, w151⟩ := hasT_int Tryz.underlying3 h130
  obtain ⟨k152, rfl, w153⟩ := hasT_int Tryz.underlying3 h134
  obtain ⟨k154, rfl, w155⟩ := hasT_int Tryz.underlying22 h138
  obtain ⟨b156, rfl⟩ := hasT_bool Tryz.underlying4 h142
  obtain ⟨v157, o158, z159, e160, g161, f162, w163⟩ := lay_K Tryz.underlying25 Tryz.underlying5 h146 o116
  obtain ⟨v164, o165, z166, e167, g168, f169, w170⟩ := lay_K Tryz.underlying25 Tryz.underlying5 h34 o158
  have agg34 : tyAgg Tryz.prog 34 = .some true := by kernel_rfl
  have e0 := e75
  change lay _ { objs := [] } = _ at e0
  have e : layArgs Tryz.prog [34] [(.agg [(.lit (.int .i64 k36)), (.lit (.int .i64 k38)), (.lit (.int .u64 k40)), (.agg [(.lit (.int .i64 k56)), (.agg [(.lit (.int .i64 k68)), (.lit (.int .i64 k70))]), d52]), (.agg [(.lit (.int .u32 k105)), (.lit (.int .u32 k107)), (.lit (.int .i64 k109)), (.lit (.int .i64 k111)), (.lit (.int .i64 k113)), d101]), (.agg [(.lit (.int .i64 k148)), (.lit (.int .i64 k150)), (.lit (.int .i64 k152)), (.lit (.int .u64 k154)), (.lit (.bool b156)), d144]), d32])] { objs := [] } = ([.agg [.int .i64 k36, .int .i64 k38, .int .u64 k40, .int .i64 k56, .int .i64 k68, .int .i64 k70, v72, .int .u32 k105, .int .u32 k107, .int .i64 k109, .int .i64 k111, .int .i64 k113, v115, .int .i64 k148, .int .i64 k150, .int .i64 k152, .int .u64 k154, .bool b156, v157, v164]], mk o165) := by
    simp only [layArgs, layArg, agg34, lay_agg, layAll_cons, layAll_nil, lay_int, lay_bool, lay_str, e0, e118, e160, e167, List.cons_append, List.nil_append, List.head?_cons, Option.getD_some]
  rw [e]
  exact run_NodeNone (K := fun v _ => v = .bool true) f77.isS f77.one f120.one f162.one f169.isS f169.one fun _ => rfl

end RunNodeNone
end Go.Proofs.YtkjdkaaekpammaaGreat
