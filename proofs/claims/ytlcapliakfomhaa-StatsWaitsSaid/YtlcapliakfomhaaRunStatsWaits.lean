/- StatsWaits: its call, whatever the events. -/
import Derived.Test.YtlcapliakfomhaaS17
set_option linter.all false
namespace Go.Proofs.Ytlcapliakfomhaa
open Go Go.Ab
theorem lay_slice {H : Type} {es sp : List (DataW H)} {st : St} (h : es ≠ [] ∨ sp ≠ []) : lay (.slice es sp) st = ([.slice (layAll es st).2.size 0 es.length (es.length + sp.length) 0], (layAll es st).2.push (.cells false (layAll es st).1)) := by
  cases es <;> cases sp <;> simp_all [lay]
theorem lay_Ev {H : Type} {d : DataW H} (h : hasT Try.prog 8 51 d) (o : OS) : ∃ e o', lay d (mk o) = (eEv e, mk o') ∧ Gr o o' ∧ e.ok := by
  obtain ⟨ps, rfl, y0⟩ := hasT_struct Try.underlying51 [3, 3, 3, 46, 44] rfl h
  obtain ⟨d1, r1, rfl, h1, y1⟩ := hasTs_cons y0
  obtain ⟨d2, r2, rfl, h2, y2⟩ := hasTs_cons y1
  obtain ⟨d3, r3, rfl, h3, y3⟩ := hasTs_cons y2
  obtain ⟨d4, r4, rfl, h4, y4⟩ := hasTs_cons y3
  obtain ⟨d5, r5, rfl, h5, y5⟩ := hasTs_cons y4
  obtain rfl := hasTs_nil y5
  obtain ⟨k1, rfl, _⟩ := hasT_int Try.underlying3 h1
  obtain ⟨k2, rfl, _⟩ := hasT_int Try.underlying3 h2
  obtain ⟨k3, rfl, _⟩ := hasT_int Try.underlying3 h3
  obtain ⟨qs, rfl, z0⟩ := hasT_struct Try.underlying46 [3, 43, 44] rfl h4
  obtain ⟨c1, s1, rfl, l1, z1⟩ := hasTs_cons z0
  obtain ⟨c2, s2, rfl, l2, z2⟩ := hasTs_cons z1
  obtain ⟨c3, s3, rfl, l3, z3⟩ := hasTs_cons z2
  obtain rfl := hasTs_nil z3
  obtain ⟨k4, rfl, _⟩ := hasT_int Try.underlying3 l1
  obtain ⟨us, rfl, u0⟩ := hasT_struct Try.underlying43 [3, 3] rfl l2
  obtain ⟨a1, t1, rfl, m1, u1⟩ := hasTs_cons u0
  obtain ⟨a2, t2, rfl, m2, u2⟩ := hasTs_cons u1
  obtain rfl := hasTs_nil u2
  obtain ⟨k5, rfl, _⟩ := hasT_int Try.underlying3 m1
  obtain ⟨k6, rfl, _⟩ := hasT_int Try.underlying3 m2
  obtain ⟨w1, o1, zs1, e1, g1, f1, _⟩ := lay_K Try.underlying44 Try.underlying5 l3 o
  obtain ⟨w2, o2, zs2, e2, g2, f2, _⟩ := lay_K Try.underlying44 Try.underlying5 h5 o1
  refine ⟨⟨k1, k2, k3, k4, k5, k6, w1, w2⟩, o2, ?_, g1.trans g2, f1.isS, f1.one, f2.isS, f2.one⟩
  simp only [lay_agg, layAll_cons, layAll_nil, lay_int, e1, e2, List.cons_append, List.nil_append, List.append_nil, eEv]
theorem lay_all {H : Type} : ∀ (es : List (DataW H)) (o : OS), (∀ x ∈ es, hasT Try.prog 8 51 x) → ∃ (l : List Ev) (o' : OS), layAll es (mk o) = (l.flatMap eEv, mk o') ∧ Gr o o' ∧ l.length = es.length ∧ ∀ e ∈ l, e.ok
  | [], o, _ => ⟨[], o, by rw [layAll_nil]; rfl, Gr.refl o, rfl, by simp⟩
  | x :: es, o, h => by
    obtain ⟨e, o1, e1, g1, ok1⟩ := lay_Ev (h x (by simp)) o
    obtain ⟨l, o2, e2, g2, len, ok2⟩ := lay_all es o1 fun y hy => h y (by simp [hy])
    refine ⟨e :: l, o2, ?_, g1.trans g2, by simp [len], fun y hy => ?_⟩
    · rw [layAll_cons, e1]; simp only [e2, List.flatMap_cons]
    · rcases List.mem_cons.1 hy with rfl | hy
      · exact ok1
      · exact ok2 y hy
theorem flat_len (l : List Ev) : (l.flatMap eEv).length = l.length * 8 := by
  induction l with
  | nil => rfl
  | cons a q ih => rw [List.flatMap_cons, List.length_append, ih, eEv_len, List.length_cons]; omega
theorem lay_Evs {H : Type} {d : DataW H} (h : hasT Try.prog 9 31 d) (o : OS) : ∃ (v : AV) (o' : OS) (l : List Ev), lay d (mk o) = ([v], mk o') ∧ Evs o' v l ∧ ∀ e ∈ l, e.ok := by
  rcases hasT_slice Try.underlying31 h with rfl | ⟨es, sp, rfl, hl, hx⟩
  · exact ⟨.nilslice, o, [], by simp [lay], rfl, by simp⟩
  · obtain ⟨l, o1, e1, g1, len, ok⟩ := lay_all es o hx
    by_cases hn : es ≠ [] ∨ sp ≠ []
    · rw [lay_slice hn, e1]
      refine ⟨_, o1 ++ [.cells false (l.flatMap eEv)], l, rfl, ?_, ok⟩
      have hm : maxLen = 9223372036854775807 := by decide
      rw [← len]
      exact Sl.own (rw' := false) (by simp [St.size]) (flat_len l) (by omega)
    · have h1 : es = [] := Classical.byContradiction fun h => hn (.inl h)
      have h2 : sp = [] := Classical.byContradiction fun h => hn (.inr h)
      subst h1; subst h2
      exact ⟨.zslice, o, [], by simp [lay], rfl, by simp⟩
namespace RunStatsWaits
theorem runs {H : Type} {ds : List (DataW H)} (x0 : hasTs Try.prog 9 [31] ds) : CallOk Try.prog (.func 4) (layArgs Try.prog [31] ds { objs := [] }).1 (layArgs Try.prog [31] ds { objs := [] }).2 fun v _ => v = .bool true := by
  obtain ⟨d, r, rfl, hd, x1⟩ := hasTs_cons x0
  obtain rfl := hasTs_nil x1
  obtain ⟨v, o, l, e, hv, ok⟩ := lay_Evs hd []
  have agg : tyAgg Try.prog 31 = some false := by kernel_rfl
  have e' : layArgs Try.prog [31] [d] { objs := [] } = ([v], mk o) := by
    have e0 : lay d { objs := [] } = ([v], mk o) := e
    simp only [layArgs, layArg, agg, e0, List.head?_cons, Option.getD_some]
  rw [e']
  exact run_StatsWaits (K := fun v _ => v = .bool true) hv ok fun _ => rfl
end RunStatsWaits
end Go.Proofs.Ytlcapliakfomhaa
