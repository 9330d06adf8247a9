/- MirrorNone: its call, whatever the act. -/
import Derived.Test.YtledkogmmijmcacGreatT1
import Derived.Test.YtledkogmmijmcacGreatL1
set_option linter.all false
namespace Go.Proofs.YtledkogmmijmcacGreat
open Go Go.Ab
theorem run_lives {o : OS} {K : AV → OS → Prop} (hK : K (.bool true) o) : Go Tryz.prog n_twainlaw31_lives [] o K :=
  Go.alone' sane rfl rfl lives31.all hK

/-- A mirror that no call made: none, or an empty one. -/
def NoM (o : OS) (v : AV) : Prop := v = .nilptr ∨ ∃ id, v = .ptr id 0 ∧ o[id]? = some (.cells true [.nilptr, .nilptr, .nilptr, .nilptr, .bool false])
section
variable {o o' : OS} {v : AV} {K : AV → OS → Prop}
theorem NoM.gr (h : NoM o v) (hg : Gr o o') : NoM o' v := by
  rcases h with h | ⟨id, h1, h2⟩
  · exact .inl h
  · exact .inr ⟨id, h1, hg _ _ h2⟩
theorem run_is (h : NoM o v) (hK : K (.bool false) o) : Go Tryz.prog n_mirror_Mirror_is [v] o K := by
  refine mirror_Mirror_is_go 1 ?_
  unfold mirror_Mirror_is
  rw [jp_eq]
  rcases h with rfl | ⟨id, rfl, h2⟩
  · exact ⟨_, rfl, _, rfl, rt_in hK⟩
  · refine ⟨false, rfl, rfl, rfl, .nilptr, by simp [padd, ldO, h2], true, rfl, _, rfl, rt_in hK⟩
theorem run_Write {a b c : Int} {w : AV} (h : NoM o v) (hK : K (.tuple [.bool false, .nilslice, .int .i64 1]) o) : Go Tryz.prog n_mirror_Mirror_Write [v, .int .i64 a, .agg [.int .i64 b, .int .i64 c], w] o K := by
  refine mirror_Mirror_Write_go 1 (bnd_of rfl ?_)
  refine run_is (h.gr ((Gr.refl o).push _)) ⟨_, rfl, ?_⟩
  exact rt_old rfl ((Gr.refl o).push _) hK
theorem run_Take {a b c d : Int} {e : Bool} {w : AV} (hw : w.one = true) (h : NoM o v) (hK : K (.tuple [.nilslice, .nilslice, .int .i64 1]) o) : Go Tryz.prog n_mirror_Mirror_Take [v, .agg [.int .i64 a, .int .i64 b, .int .i64 c, .int .u64 d, .bool e, w]] o K := by
  refine mirror_Mirror_Take_go 1 ⟨hw, bnd_of rfl ?_⟩
  refine run_is (h.gr ((Gr.refl o).push _)) ⟨_, rfl, ?_⟩
  exact rt_old rfl ((Gr.refl o).push _) hK
theorem run_Go (h : NoM o v) (hK : K (.tuple [.nilslice, .int .i64 1]) o) : Go Tryz.prog n_mirror_Mirror_Go [v] o K :=
  mirror_Mirror_Go_go 1 (run_is h ⟨_, rfl, rt_in hK⟩)
theorem run_Forget (h : NoM o v) (hK : K (.tuple []) o) : Go Tryz.prog n_mirror_Mirror_Forget [v] o K :=
  mirror_Mirror_Forget_go 1 (run_is h ⟨_, rfl, rt_in hK⟩)
theorem run_Flights (h : NoM o v) (hK : K .nilslice o) : Go Tryz.prog n_mirror_Mirror_Flights [v] o K :=
  mirror_Mirror_Flights_go 1 (run_is h ⟨_, rfl, rt_in hK⟩)
theorem run_Release (h : NoM o v) (hK : K .nilslice o) : Go Tryz.prog n_mirror_Mirror_Release [v] o K := by
  refine mirror_Mirror_Release_go 1 ?_
  unfold mirror_Mirror_Release
  rw [jp_eq]
  refine run_Flights h ⟨rfl, ?_⟩
  rw [lp_succ]
  refine ⟨_, _, _, _, _, rfl, ?_⟩
  rw [cnd_dec, if_neg (by simp [alen])]
  exact ⟨_, rfl, rt_in hK⟩
theorem run_Later (h : NoM o v) (hK : K .nilslice o) : Go Tryz.prog n_mirror_Mirror_Later [v] o K :=
  mirror_Mirror_Later_go 1 (run_is h ⟨_, rfl, rt_in hK⟩)
theorem run_Hold (h : NoM o v) (hK : K (.int .i64 1) o) : Go Tryz.prog n_mirror_Mirror_Hold [v] o K :=
  mirror_Mirror_Hold_go 1 (run_is h ⟨_, rfl, rt_in hK⟩)
theorem run_Hot (h : NoM o v) (hK : K (.int .u64 0) o) : Go Tryz.prog n_mirror_Mirror_Hot [v] o K :=
  mirror_Mirror_Hot_go 1 (run_is h ⟨_, rfl, rt_in hK⟩)
theorem run_Busy {a b : Int} (h : NoM o v) (hK : K (.bool false) o) : Go Tryz.prog n_mirror_Mirror_Busy [v, .agg [.int .i64 a, .int .i64 b]] o K := by
  refine mirror_Mirror_Busy_go 1 (bnd_of rfl ?_)
  rw [jp_eq]
  refine run_is (h.gr ((Gr.refl o).push _)) ⟨_, rfl, ?_⟩
  exact ⟨_, rfl, rt_old rfl ((Gr.refl o).push _) hK⟩
end
section
variable {n : Nat} {R : AV → OS → Prop} {o : OS} {aid sid : Nat} {k0 k1 k2 k3 k4 k6 k7 k8 k9 : Int} {b10 : Bool} {w5 w11 : AV} {j16 : List AV → OS → Prop}
theorem none_round {X : List AV → OS → Prop} {x : Int} {v : AV} (h0 : 0 ≤ x) (h1 : x < 2) (ha : o[aid]? = some (.cells true [.int .i64 k0, .int .i64 k1, .int .u64 k2, .int .i64 k3, .int .i64 k4, w5, .int .i64 k6, .int .i64 k7, .int .i64 k8, .int .u64 k9, .bool b10, w11]))
    (hw : w11.one = true) (hv : ldO false 1 (ixp 1 (.slice sid 0 2 2 0) x) o = some v) (hm : NoM o v) (hX : X [.ptr aid 0, .slice sid 0 2 2 0, .int .i64 2, .int .i64 (x + 1)] o) :
    twainlaw31_MirrorNone_L84 (GoF Tryz.prog) n R j16 X [.ptr aid 0, .slice sid 0 2 2 0, .int .i64 2, .int .i64 x] o := by
  have hs : ldO true 2 (padd 3 (AV.ptr aid 0)) o = some (.agg [.int .i64 k3, .int .i64 k4]) := by simp [padd, ldO, ha]
  refine ⟨_, _, _, _, rfl, ?_⟩
  rw [cnd_dec, if_pos h1]
  refine ⟨⟨h0, h1⟩, v, hv, rfl, k1, by simp [padd, ldO, ha], rfl, k3, k4, hs, rfl, w5, by simp [padd, ldO, ha], ?_⟩
  refine run_Write hm ⟨_, _, _, rfl, rfl, k6, k7, k8, k9, b10, w11, by simp [padd, ldO, ha], ?_⟩
  refine run_Take hw hm ⟨_, _, _, rfl, ?_⟩
  refine run_Go hm ⟨_, _, rfl, ?_⟩
  refine run_Forget hm ?_
  rw [jp_eq, cnd_false]
  refine ⟨rfl, rfl, bnd_of (y := 0) rfl ⟨rfl, bnd_of (y := 0) rfl ⟨rfl, bnd_of (y := 0) rfl ?_⟩⟩⟩
  refine run_Release hm ⟨rfl, bnd_of (y := 0) rfl ?_⟩
  refine run_Flights hm ⟨rfl, bnd_of (y := 0) rfl ?_⟩
  refine run_Later hm ⟨rfl, bnd_of (y := 0) rfl ?_⟩
  rw [cnd_bne, if_pos rfl, cnd_bne, if_pos rfl, cnd_bne, if_pos rfl, cnd_bne, if_pos rfl]
  refine run_Hold hm ⟨_, rfl, ?_⟩
  rw [cnd_bne, if_pos rfl]
  refine run_Hot hm ⟨_, rfl, ?_⟩
  rw [cnd_bne, if_pos rfl]
  refine ⟨rfl, _, _, hs, ?_⟩
  refine run_Busy hm ⟨_, rfl, ?_⟩
  refine ⟨_, _, _, _, _, rfl, ?_⟩
  rw [cnd_false]
  exact bnd_of (wrap_id (by omega) (by omega)) hX
end
/-- THE LAW's CALL. -/
theorem run_MirrorNone {o : OS} {k0 k1 k2 k3 k4 k6 k7 k8 k9 : Int} {b10 : Bool} {w5 w11 : AV} {K : AV → OS → Prop} (h5 : w5.isS = true) (h5' : w5.one = true) (h11 : w11.isS = true) (h11' : w11.one = true) (hK : ∀ o', K (.bool true) o') :
    Go Tryz.prog n_twainlaw31_MirrorNone [.agg [.int .i64 k0, .int .i64 k1, .int .u64 k2, .int .i64 k3, .int .i64 k4, w5, .int .i64 k6, .int .i64 k7, .int .i64 k8, .int .u64 k9, .bool b10, w11]] o K := by
  refine twainlaw31_MirrorNone_go 3 ⟨h5', h11', bnd_of rfl ?_⟩
  have ha : (o ++ [AO.cells true [.int .i64 k0, .int .i64 k1, .int .u64 k2, .int .i64 k3, .int .i64 k4, w5, .int .i64 k6, .int .i64 k7, .int .i64 k8, .int .u64 k9, .bool b10, w11]])[o.length]? = some (.cells true [.int .i64 k0, .int .i64 k1, .int .u64 k2, .int .i64 k3, .int .i64 k4, w5, .int .i64 k6, .int .i64 k7, .int .i64 k8, .int .u64 k9, .bool b10, w11]) := by simp
  generalize (o ++ [AO.cells true [AV.int .i64 k0, .int .i64 k1, .int .u64 k2, .int .i64 k3, .int .i64 k4, w5, .int .i64 k6, .int .i64 k7, .int .i64 k8, .int .u64 k9, .bool b10, w11]]) = o0 at ha ⊢
  have body : ∀ b : Bool, twainlaw31_MirrorNone_J85 (GoF Tryz.prog) 3 (rt o K) [.ptr o.length 0, .bool b] o0 := by
    intro b
    refine ⟨_, _, rfl, ?_⟩
    cases b with
    | true => rw [cnd_true]; refine run_lives ?_; exact ⟨_, rfl, rt_in (hK _)⟩
    | false =>
      rw [cnd_false]
      refine ⟨rfl, rfl, rfl, rfl, bnd_of rfl ⟨rfl, rfl, bnd_of rfl ?_⟩⟩
      have g1 : Gr o0 (o0 ++ [AO.cells true [.nilptr, .nilptr, .nilptr, .nilptr, .bool false]]) := (Gr.refl o0).push _
      have m1 : (o0 ++ [AO.cells true [.nilptr, .nilptr, .nilptr, .nilptr, .bool false]])[o0.length]? = some (.cells true [.nilptr, .nilptr, .nilptr, .nilptr, .bool false]) := by simp
      generalize (o0 ++ [AO.cells true [AV.nilptr, .nilptr, .nilptr, .nilptr, .bool false]]) = o1 at g1 m1 ⊢
      have g2 : Gr o1 (o1 ++ [AO.cells true [.nilptr, .ptr o0.length 0]]) := (Gr.refl o1).push _
      have m2 : (o1 ++ [AO.cells true [.nilptr, .ptr o0.length 0]])[o1.length]? = some (.cells true [.nilptr, .ptr o0.length 0]) := by simp
      generalize (o1 ++ [AO.cells true [AV.nilptr, .ptr o0.length 0]]) = o2 at g2 m2 ⊢
      have ha2 := g2 _ _ (g1 _ _ ha)
      rw [jp_eq]
      refine ⟨rfl, ?_⟩
      rw [lp_succ]
      refine none_round (x := 0) (v := .nilptr) (by omega) (by omega) ha2 h11' (by simp [ixp, ldO, m2]) (.inl rfl) ?_
      rw [lp_succ]
      refine none_round (x := 1) (v := .ptr o0.length 0) (by omega) (by omega) ha2 h11' (by simp [ixp, ldO, m2]) (.inr ⟨_, rfl, g2 _ _ m1⟩) ?_
      rw [lp_succ]
      refine ⟨_, _, _, _, rfl, ?_⟩
      rw [cnd_dec, if_neg (by omega)]
      refine ⟨rfl, run_lives ?_⟩; exact ⟨_, rfl, rt_in (hK _)⟩
  rw [jp_eq]
  refine ⟨rfl, w5, by simp [padd, ldO, ha], h5, ?_⟩
  rw [cnd_dec]
  split
  · exact body true
  · exact ⟨rfl, rfl, w11, by simp [padd, ldO, ha], h11, body _⟩
namespace RunMirrorNone
theorem runs {H : Type} {ds : List (DataW H)} (x0 : hasTs Tryz.prog 9 [29] ds) : CallOk Tryz.prog (.func 3) (layArgs Tryz.prog [29] ds { objs := [] }).1 (layArgs Tryz.prog [29] ds { objs := [] }).2 fun v _ => v = .bool true := by
  obtain ⟨d, r, e0, hd, x1⟩ := hasTs_cons x0
  obtain rfl := hasTs_nil x1
  obtain ⟨ps, rfl, y0⟩ := hasT_struct Tryz.underlying29 [3, 3, 22, 24, 25, 27] rfl hd
  obtain ⟨d1, r1, rfl, h1, y1⟩ := hasTs_cons y0
  obtain ⟨d2, r2, rfl, h2, y2⟩ := hasTs_cons y1
  obtain ⟨d3, r3, rfl, h3, y3⟩ := hasTs_cons y2
  obtain ⟨d4, r4, rfl, h4, y4⟩ := hasTs_cons y3
  obtain ⟨d5, r5, rfl, h5, y5⟩ := hasTs_cons y4
  obtain ⟨d6, r6, rfl, h6, y6⟩ := hasTs_cons y5
  obtain rfl := hasTs_nil y6
  obtain ⟨k0, rfl, _⟩ := hasT_int Tryz.underlying3 h1
  obtain ⟨k1, rfl, _⟩ := hasT_int Tryz.underlying3 h2
  obtain ⟨k2, rfl, _⟩ := hasT_int Tryz.underlying22 h3
  obtain ⟨qs, rfl, z0⟩ := hasT_struct Tryz.underlying24 [3, 3] rfl h4
  obtain ⟨c1, s1, rfl, l1, z1⟩ := hasTs_cons z0
  obtain ⟨c2, s2, rfl, l2, z2⟩ := hasTs_cons z1
  obtain rfl := hasTs_nil z2
  obtain ⟨k3, rfl, _⟩ := hasT_int Tryz.underlying3 l1
  obtain ⟨k4, rfl, _⟩ := hasT_int Tryz.underlying3 l2
  obtain ⟨w5, o5, zs5, e5, g5, f5, _⟩ := lay_K Tryz.underlying25 Tryz.underlying5 h5 []
  obtain ⟨us, rfl, u0⟩ := hasT_struct Tryz.underlying27 [3, 3, 3, 22, 4, 25] rfl h6
  obtain ⟨a1, t1, rfl, m1, u1⟩ := hasTs_cons u0
  obtain ⟨a2, t2, rfl, m2, u2⟩ := hasTs_cons u1
  obtain ⟨a3, t3, rfl, m3, u3⟩ := hasTs_cons u2
  obtain ⟨a4, t4, rfl, m4, u4⟩ := hasTs_cons u3
  obtain ⟨a5, t5, rfl, m5, u5⟩ := hasTs_cons u4
  obtain ⟨a6, t6, rfl, m6, u6⟩ := hasTs_cons u5
  obtain rfl := hasTs_nil u6
  obtain ⟨k6, rfl, _⟩ := hasT_int Tryz.underlying3 m1
  obtain ⟨k7, rfl, _⟩ := hasT_int Tryz.underlying3 m2
  obtain ⟨k8, rfl, _⟩ := hasT_int Tryz.underlying3 m3
  obtain ⟨k9, rfl, _⟩ := hasT_int Tryz.underlying22 m4
  obtain ⟨b10, rfl⟩ := hasT_bool Tryz.underlying4 m5
  obtain ⟨w11, o11, zs11, e11, g11, f11, _⟩ := lay_K Tryz.underlying25 Tryz.underlying5 m6 o5
  subst e0
  have agg : tyAgg Tryz.prog 29 = .some true := by kernel_rfl
  have e5' : lay d5 { objs := [] } = ([w5], mk o5) := e5
  have e : layArgs Tryz.prog [29] [.agg [.lit (.int .i64 k0), .lit (.int .i64 k1), .lit (.int .u64 k2), .agg [.lit (.int .i64 k3), .lit (.int .i64 k4)], d5, .agg [.lit (.int .i64 k6), .lit (.int .i64 k7), .lit (.int .i64 k8), .lit (.int .u64 k9), .lit (.bool b10), a6]]] { objs := [] } =
      ([.agg [.int .i64 k0, .int .i64 k1, .int .u64 k2, .int .i64 k3, .int .i64 k4, w5, .int .i64 k6, .int .i64 k7, .int .i64 k8, .int .u64 k9, .bool b10, w11]], mk o11) := by
    simp only [layArgs, layArg, agg, lay_agg, layAll_cons, layAll_nil, lay_int, lay_bool, e5', e11, List.cons_append, List.nil_append]
  rw [e]
  exact run_MirrorNone (K := fun v _ => v = .bool true) f5.isS f5.one f11.isS f11.one fun _ => rfl
end RunMirrorNone
end Go.Proofs.YtledkogmmijmcacGreat
