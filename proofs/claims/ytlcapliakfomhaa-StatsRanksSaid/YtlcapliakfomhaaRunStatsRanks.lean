/- StatsRanks: its call, whatever comes in. -/
import Derived.Test.YtlcapliakfomhaaS8
set_option linter.all false
namespace Go.Proofs.Ytlcapliakfomhaa.RunStatsRanks
open Go Go.Ab
theorem runs {H : Type} {ds : List (DataW H)} (x0 : hasTs Try.prog 9 [22, 24] ds) : CallOk Try.prog (.func 3) (layArgs Try.prog [22, 24] ds { objs := [] }).1 (layArgs Try.prog [22, 24] ds { objs := [] }).2 fun v _ => v = .bool true := by
  obtain ⟨d, r, e0, hd, x1⟩ := hasTs_cons x0
  obtain ⟨d2, r2, e1, hd2, x2⟩ := hasTs_cons x1
  obtain rfl := hasTs_nil x2
  subst e1
  subst e0
  obtain ⟨v, o, zs, hlay, hg, hi, hz⟩ := lay_Ints Try.underlying22 Try.underlying3 hd []
  obtain ⟨ps, rfl, y0⟩ := hasT_struct Try.underlying24 [3, 3, 3, 3] rfl hd2
  obtain ⟨c1, r1, rfl, h1, y1⟩ := hasTs_cons y0
  obtain ⟨c2, r2, rfl, h2, y2⟩ := hasTs_cons y1
  obtain ⟨c3, r3, rfl, h3, y3⟩ := hasTs_cons y2
  obtain ⟨c4, r4, rfl, h4, y4⟩ := hasTs_cons y3
  obtain rfl := hasTs_nil y4
  obtain ⟨n1, rfl, w1⟩ := hasT_int Try.underlying3 h1
  obtain ⟨n2, rfl, w2⟩ := hasT_int Try.underlying3 h2
  obtain ⟨n3, rfl, w3⟩ := hasT_int Try.underlying3 h3
  obtain ⟨n4, rfl, w4⟩ := hasT_int Try.underlying3 h4
  have a1 : tyAgg Try.prog 22 = .some false := by kernel_rfl
  have a2 : tyAgg Try.prog 24 = .some true := by kernel_rfl
  have e : layArgs Try.prog [22, 24] [d, .agg [.lit (.int .i64 n1), .lit (.int .i64 n2), .lit (.int .i64 n3), .lit (.int .i64 n4)]] { objs := [] } = ([v, .agg [.int .i64 n1, .int .i64 n2, .int .i64 n3, .int .i64 n4]], mk o) := by
    simp only [layArgs, layArg, a1, a2, hlay, lay_agg, layAll_cons, layAll_nil, lay_int, List.head?_cons, Option.getD_some, List.cons_append, List.nil_append]
  rw [e]
  exact run_StatsRanks (K := fun v _ => v = .bool true) hi hz (wf_i64 w3) (wf_i64 w4) fun _ => rfl
end Go.Proofs.Ytlcapliakfomhaa.RunStatsRanks
