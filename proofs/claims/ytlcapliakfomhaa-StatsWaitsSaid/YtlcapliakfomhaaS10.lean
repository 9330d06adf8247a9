/- Of the stats' functions: what each computes (5): few; raw. -/
import Derived.Test.YtlcapliakfomhaaS9
set_option linter.all false
namespace Go.Proofs.Ytlcapliakfomhaa
open Go Go.Ab
theorem at_ok {l : List Ev} (hok : ∀ e ∈ l, e.ok) {k : Nat} (hk : k < l.length) : (at' l k).ok := hok (at' l k) (by simp [at', hk])
section
variable {o0 : OS} {v : AV} {l : List Ev} {n : Nat} {R : AV → OS → Prop}
theorem few_loop (hv : Evs o0 v l) (hok : ∀ e ∈ l, e.ok) (hR : ∀ o b, Gr o0 o → R (.bool b) o) : ∀ (m k : Nat) (o : OS), l.length - k < m → k ≤ l.length → Gr o0 o →
    lp m (twainlaw36_Few_L31 (GoF Try.prog) n R (twainlaw36_Few_J2 (GoF Try.prog) n R)) [v, .int .i64 l.length, .int .i64 k] o := by
  intro m
  induction m with
  | zero => intro k o h; omega
  | succ m ih =>
    intro k o hm hk hg
    rw [lp_succ]
    refine ⟨_, _, _, rfl, ?_⟩
    have hv' := hv.gr hg
    have hmx := Evs.max hv'
    have hln := Evs.len hv'
    rw [cnd_dec]
    split
    · have hkl : k < l.length := by omega
      have hek := at_ok hok hkl
      obtain ⟨o1, h1, g1, c1⟩ := ev_copy (o := o) hek
      refine ⟨⟨by omega, by omega⟩, _, _, _, _, _, _, _, _, Evs.ld hv' hkl, bnd_of rfl ⟨hek.2.1, hek.2.2.2, o1, h1, ?_⟩⟩
      rw [jp_eq]
      have fin : ∀ b : Bool, twainlaw36_Few_J27 (GoF Try.prog) n R (lp m (twainlaw36_Few_L31 (GoF Try.prog) n R (twainlaw36_Few_J2 (GoF Try.prog) n R))) [v, .int .i64 l.length, .int .i64 k, .bool b] o1 := by
        intro b
        refine ⟨_, _, _, _, rfl, ?_⟩
        cases b with
        | true => rw [cnd_true]; exact hR _ _ (hg.trans g1)
        | false =>
          rw [cnd_false]
          exact bnd_of (y := ((k + 1 : Nat) : Int)) (by rw [wrap_id (by omega) (by omega)]; omega) (ih (k + 1) o1 (by omega) (by omega) (hg.trans g1))
      refine ⟨rfl, _, cell_ld c1 7, hek.2.2.1, ?_⟩
      rw [cnd_dec]
      split
      · exact fin _
      · refine ⟨rfl, rfl, _, (by simpa [padd, eEv] using cell_ld c1 6), hek.1, ?_⟩
        exact fin _
    · exact ⟨rfl, hR _ _ hg⟩
end
theorem run_Few {o : OS} {v : AV} {l : List Ev} {K : AV → OS → Prop} (h : Evs o v l) (hok : ∀ e ∈ l, e.ok) (hK : ∀ o' b, Gr o o' → K (.bool b) o') : Go Try.prog n_twainlaw36_Few [v] o K := by
  refine twainlaw36_Few_go (l.length + 1) ?_
  refine ⟨h.isS, ?_⟩
  rw [cnd_dec]
  split
  · exact rt_in (hK _ _ (Gr.refl o))
  · rw [jp_eq]
    refine ⟨h.isS, ?_⟩
    rw [Evs.len h]
    exact few_loop h hok (fun o b g => rt_in (hK o b g)) _ 0 o (by omega) (by omega) (Gr.refl o)
section
variable {o0 : OS} {v : AV} {l : List Ev} {n : Nat} {R : AV → OS → Prop}
theorem raw_loop (hv : Evs o0 v l) (hok : ∀ e ∈ l, e.ok) (hl : l.length ≤ 65535) (hR : ∀ o w, Gr o0 o → Evs o w l → R w o) : ∀ (m k : Nat) (o : OS) (w : AV), l.length - k < m → k ≤ l.length →
    Acc o0 o w 8 ((l.take k).flatMap eEv) →
    lp m (twainlaw36_Raw_L34 (GoF Try.prog) n R (twainlaw36_Raw_J3 (GoF Try.prog) n R)) [w, v, .int .i64 l.length, .int .i64 k] o := by
  intro m
  induction m with
  | zero => intro k o w h; omega
  | succ m ih =>
    intro k o w hm hk ha
    rw [lp_succ]
    refine ⟨_, _, _, _, rfl, ?_⟩
    have hv' := hv.gr ha.1
    have hmx := Evs.max hv'
    have hln := Evs.len hv'
    rw [cnd_dec]
    split
    · have hkl : k < l.length := by omega
      have hek := at_ok hok hkl
      obtain ⟨o1, h1, g1, c1⟩ := ev_copy (o := o) hek
      refine ⟨⟨by omega, by omega⟩, _, _, _, _, _, _, _, _, Evs.ld hv' hkl, bnd_of rfl ⟨hek.2.1, hek.2.2.2, o1, h1, ?_⟩⟩
      have hld : ldO true 8 (AV.ptr o.length 0) o1 = some (.agg (eEv (at' l k))) := by simp [ldO, c1, eEv]
      refine ⟨_, _, _, _, _, _, _, _, hld, hek.2.1, hek.2.2.2, bnd_of rfl ?_⟩
      have hlen : ((l.take k).flatMap eEv).length = k * 8 := by
        have : ∀ q : List Ev, (q.flatMap eEv).length = q.length * 8 := by
          intro q
          induction q with
          | nil => rfl
          | cons a q ih => rw [List.flatMap_cons, List.length_append, ih, eEv_len, List.length_cons]; omega
        rw [this, List.length_take]; omega
      obtain ⟨w', o2, h2, ha2⟩ := (ha.gr g1).app1 (b := 96) (new := eEv (at' l k)) (all_one_ev hek) (eEv_len _) (by omega) (by omega) (by omega)
      refine ⟨_, _, h2, bnd_of (y := ((k + 1 : Nat) : Int)) (by rw [wrap_id (by omega) (by omega)]; omega) (ih (k + 1) o2 w' (by omega) (by omega) ?_)⟩
      have e : l.take (k + 1) = l.take k ++ [at' l k] := by
        rw [List.take_succ_eq_append_getElem hkl]; simp [at', hkl]
      rw [e]
      simpa using ha2
    · have : k = l.length := by omega
      subst this
      refine ⟨_, rfl, hR o w ha.1 ?_⟩
      have := ha.sl
      rwa [List.take_length] at this
end
theorem run_Raw {o : OS} {v : AV} {l : List Ev} {K : AV → OS → Prop} (h : Evs o v l) (hok : ∀ e ∈ l, e.ok) (hl : l.length ≤ 65535) (hK : ∀ o' w, Gr o o' → Evs o' w l → K w o') : Go Try.prog n_twainlaw36_Raw [v] o K := by
  refine twainlaw36_Raw_go (l.length + 1) ?_
  unfold twainlaw36_Raw
  rw [jp_eq]
  refine ⟨h.isS, ?_⟩
  rw [Evs.len h]
  exact raw_loop h hok hl (fun o w g hw => rt_in (hK o w g hw)) _ 0 o .nilslice (by omega) (by omega) (by simpa using Acc.nil o 8)
end Go.Proofs.Ytlcapliakfomhaa
