/- FlightNone: its run, whatever the act. -/
import Derived.Test.YtlcapliakfomhabAb23
import Derived.Test.YtlcapliakfomhabProg
import Derived.KernelRfl
namespace Go.Proofs.Ytlcapliakfomhab.RunFlightNone
open Go.Ab
theorem nil (k t n o l : Int) : callF Try.prog 1000 100 (.func 5) [.agg [.int .i64 k, .int .i64 t, .int .i64 n, .int .i64 o, .int .i64 l, .nilslice]] ⟨[]⟩ (fun v _ => v = .bool true) = (AV.bool true = AV.bool true) := by kernel_rfl
theorem empty (k t n o l : Int) : callF Try.prog 1000 100 (.func 5) [.agg [.int .i64 k, .int .i64 t, .int .i64 n, .int .i64 o, .int .i64 l, .zslice]] ⟨[]⟩ (fun v _ => v = .bool true) = (AV.bool true = AV.bool true) := by kernel_rfl
theorem some (k t n o l : Int) (len cap : Nat) (vs : List AV) : callF Try.prog 1000 100 (.func 5) [.agg [.int .i64 k, .int .i64 t, .int .i64 n, .int .i64 o, .int .i64 l, .slice 0 0 len cap 0]] ⟨[.cells false vs]⟩ (fun v _ => v = .bool true) = (AV.bool true = AV.bool true) := by kernel_rfl

theorem runs {H : Type} {ds : List (DataW H)} (x0 : hasTs Try.prog 9 [30] ds) : Run Try.prog (.func 5) (layArgs Try.prog [30] ds ⟨[]⟩).1 (layArgs Try.prog [30] ds ⟨[]⟩).2 fun v _ => v = .bool true := by
  obtain ⟨d, r, e0, hd, x1⟩ := hasTs_cons x0
  obtain rfl := hasTs_nil x1
  obtain ⟨ps, rfl, y0⟩ := hasT_struct Try.underlying30 [3, 3, 3, 28, 23] rfl hd
  obtain ⟨d1, r1, rfl, h1, y1⟩ := hasTs_cons y0
  obtain ⟨d2, r2, rfl, h2, y2⟩ := hasTs_cons y1
  obtain ⟨d3, r3, rfl, h3, y3⟩ := hasTs_cons y2
  obtain ⟨d4, r4, rfl, h4, y4⟩ := hasTs_cons y3
  obtain ⟨d5, r5, rfl, h5, y5⟩ := hasTs_cons y4
  obtain rfl := hasTs_nil y5
  obtain ⟨k, rfl, _⟩ := hasT_int Try.underlying3 h1
  obtain ⟨t, rfl, _⟩ := hasT_int Try.underlying3 h2
  obtain ⟨n, rfl, _⟩ := hasT_int Try.underlying3 h3
  obtain ⟨qs, rfl, z0⟩ := hasT_struct Try.underlying28 [3, 3] rfl h4
  obtain ⟨c1, s1, rfl, k1, z1⟩ := hasTs_cons z0
  obtain ⟨c2, s2, rfl, k2, z2⟩ := hasTs_cons z1
  obtain rfl := hasTs_nil z2
  obtain ⟨o, rfl, _⟩ := hasT_int Try.underlying3 k1
  obtain ⟨l, rfl, _⟩ := hasT_int Try.underlying3 k2
  subst e0
  clear x0 x1 y0 y1 y2 y3 y4 y5 h1 h2 h3 h4 z0 z1 z2 k1 k2 hd
  have agg : tyAgg Try.prog 30 = .some true := by kernel_rfl
  rcases hasT_ints Try.underlying23 Try.underlying5 h5 with rfl | ⟨zs, sp, rfl, _⟩
  · simp only [layArgs, layArg, agg, lay_int, lay_agg, lay_nil, layAll_nil, layAll_cons, List.nil_append, List.append_nil, List.cons_append]
    exact Run.of_eq rfl (nil k t n o l)
  · simp only [layArgs, layArg, agg, lay_int, lay_agg, lay_ints, layAll_nil, layAll_cons, List.nil_append, List.append_nil, List.cons_append]
    split
    · exact Run.of_eq rfl (empty k t n o l)
    · exact Run.of_eq rfl (some k t n o l _ _ _)
end Go.Proofs.Ytlcapliakfomhab.RunFlightNone
