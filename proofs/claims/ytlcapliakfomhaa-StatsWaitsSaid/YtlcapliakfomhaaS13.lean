/- Of the stats' functions: what each computes (8): the waits, both. -/
import Derived.Test.YtlcapliakfomhaaS12
set_option linter.all false
namespace Go.Proofs.Ytlcapliakfomhaa
open Go Go.Ab
def waitL (l : List Ev) (i : Nat) : List Int := match endAt l i l.length with | some t => [(t : Int) - i] | none => []
def waitsF (l : List Ev) (k : Nat) : List Int := (List.range k).flatMap (waitL l)
theorem waitsF_succ (l : List Ev) (k : Nat) : waitsF l (k + 1) = waitsF l k ++ waitL l k := by
  unfold waitsF; rw [List.range_succ, List.flatMap_append]; simp
theorem waitL_len (l : List Ev) (k : Nat) : (waitL l k).length ≤ 1 := by unfold waitL; split <;> simp
theorem waitsF_len (l : List Ev) : ∀ k : Nat, (waitsF l k).length ≤ k
  | 0 => by simp [waitsF]
  | k + 1 => by rw [waitsF_succ, List.length_append]; have := waitsF_len l k; have := waitL_len l k; omega
theorem endAt_lt {l : List Ev} {f i : Nat} (h : endAt l f l.length = some i) : f < i ∧ i < l.length := by
  unfold endAt at h
  split at h
  · rw [firstI_some] at h; omega
  · cases h
section
variable {o0 : OS} {l : List Ev} {n B : Nat} {R : AV → OS → Prop} {l2 : List (Int × Int)}
theorem waits_loop (hl : l.length ≤ 65535) (h2 : Mp eKI eKI o0 B l2) (hq : EndM l l.length l2) (hR : ∀ o w, Gr o0 o → Ints o w (waitsF l l.length) → R w o) : ∀ (m k : Nat) (o : OS) (w : AV), l.length - k < m → k ≤ l.length →
    Acc o0 o w 1 ((waitsF l k).flatMap eInt) →
    lp m (stats_Waits_L29 (GoF Try.prog) n R (stats_Waits_J5 (GoF Try.prog) n R)) [.map B, w, .int .i64 l.length, .int .i64 k] o := by
  intro m
  induction m with
  | zero => intro k o w h; omega
  | succ m ih =>
    intro k o w hm hk ha
    rw [lp_succ]
    refine ⟨_, _, _, _, rfl, ?_⟩
    rw [cnd_dec]
    split
    · have hkl : k < l.length := by omega
      rw [jp_eq]
      have j21 : ∀ o' w', Acc o0 o' w' 1 ((waitsF l (k + 1)).flatMap eInt) → stats_Waits_J21 (GoF Try.prog) n R (lp m (stats_Waits_L29 (GoF Try.prog) n R (stats_Waits_J5 (GoF Try.prog) n R))) [.map B, w', .int .i64 l.length, .int .i64 k] o' := by
        intro o' w' h
        exact ⟨_, _, _, _, rfl, bnd_of (y := ((k + 1 : Nat) : Int)) (by rw [wrap_id (by omega) (by omega)]; omega) (ih (k + 1) o' w' (by omega) (by omega) h)⟩
      have lk := (h2.gr ha.1).lookup keyInt und52 z3 ((k : Nat) : Int)
      rw [hq.2] at lk
      rw [waitsF_succ] at j21
      cases he : endAt l k l.length with
      | none =>
        rw [he] at lk
        refine ⟨_, _, lk, ?_⟩
        rw [cnd_false]
        refine j21 o w ?_
        rw [waitL, he]
        simpa using ha
      | some t =>
        rw [he] at lk
        refine ⟨_, _, lk, ?_⟩
        have := endAt_lt he
        rw [cnd_true]
        have hw : IntKind.wrap .i64 ((t : Int) - k) = (t : Int) - k := wrap_id (by omega) (by omega)
        refine bnd_of (y := (t : Int) - k) hw (bnd_of rfl ?_)
        have hlen : ((waitsF l k).flatMap eInt).length ≤ k := by rw [flat_eInt]; simpa using waitsF_len l k
        obtain ⟨w', o2, h2', ha2⟩ := ha.app1 (b := 8) (new := [.int .i64 ((t : Int) - k)]) rfl rfl (by omega) (by omega) (by omega)
        refine ⟨_, _, h2', j21 o2 w' ?_⟩
        rw [waitL, he]
        simpa [eInt] using ha2
    · have : k = l.length := by omega
      subst this
      exact ⟨_, rfl, hR o w ha.1 ha.sl⟩
end
theorem run_Waits {o : OS} {v : AV} {l : List Ev} {K : AV → OS → Prop} (h : Evs o v l) (hok : ∀ e ∈ l, e.ok) (hl : l.length ≤ 65535) (hK : ∀ o' w, Gr o o' → Ints o' w (waitsF l l.length) → K w o') : Go Try.prog n_stats_Waits [v] o K := by
  refine stats_Waits_go (l.length + 1) ?_
  unfold stats_Waits
  refine run_pairs h hok fun o1 B l2 g1 m1 hB hq => ?_
  rw [jp_eq]
  refine ⟨h.isS, ?_⟩
  rw [Evs.len h]
  refine waits_loop hl m1 hq (fun o' w g hw => rt_in (hK o' w (g1.trans g) hw)) _ 0 o1 .nilslice (by omega) (by omega) (by simpa [waitsF] using Acc.nil o1 1)
section
variable {o0 : OS} {v : AV} {l : List Ev} {n : Nat} {R : AV → OS → Prop}
theorem refwaits_loop (hv : Evs o0 v l) (hok : ∀ e ∈ l, e.ok) (hl : l.length ≤ 65535) (hR : ∀ o w, Gr o0 o → Ints o w (waitsF l l.length) → R w o) : ∀ (m k : Nat) (o : OS) (w : AV), l.length - k < m → k ≤ l.length →
    Acc o0 o w 1 ((waitsF l k).flatMap eInt) →
    lp m (twainref47_Waits_L41 (GoF Try.prog) n R (twainref47_Waits_J3 (GoF Try.prog) n R)) [v, w, v, .int .i64 l.length, .int .i64 k] o := by
  intro m
  induction m with
  | zero => intro k o w h; omega
  | succ m ih =>
    intro k o w hm hk ha
    rw [lp_succ]
    refine ⟨_, _, _, _, _, rfl, ?_⟩
    have hv' := hv.gr ha.1
    have hmx := Evs.max hv'
    have hln := Evs.len hv'
    rw [cnd_dec]
    split
    · have hkl : k < l.length := by omega
      rw [jp_eq]
      have hek := at_ok hok hkl
      obtain ⟨o1, h1, g1, c1⟩ := ev_copy (o := o) hek
      refine ⟨⟨by omega, by omega⟩, _, _, _, _, _, _, _, _, Evs.ld hv' hkl, bnd_of rfl ⟨hek.2.1, hek.2.2.2, o1, h1, ?_⟩⟩
      refine ⟨rfl, _, cell_ld c1 0, ?_⟩
      have ha1 := ha.gr g1
      have j21 : ∀ o' w', Acc o0 o' w' 1 ((waitsF l (k + 1)).flatMap eInt) → twainref47_Waits_J21 (GoF Try.prog) n R (lp m (twainref47_Waits_L41 (GoF Try.prog) n R (twainref47_Waits_J3 (GoF Try.prog) n R))) [v, w', v, .int .i64 l.length, .int .i64 k] o' := by
        intro o' w' h
        exact ⟨_, _, _, _, _, rfl, bnd_of (y := ((k + 1 : Nat) : Int)) (by rw [wrap_id (by omega) (by omega)]; omega) (ih (k + 1) o' w' (by omega) (by omega) h)⟩
      rw [waitsF_succ] at j21
      rw [cnd_bne]
      split
      · rename_i e0
        have hask : isAsk l k = true := by simp [isAsk, e0]
        have ea := endAt_all hask
        refine run_end (hv'.gr g1) hok hl hkl ⟨_, rfl, ?_⟩
        cases he : endF l k with
        | none =>
          rw [toI]
          rw [he] at ea
          rw [cnd_dec, if_neg (by omega)]
          refine j21 o1 w ?_
          rw [waitL, ea]
          simpa using ha1
        | some t =>
          rw [toI]
          rw [he] at ea
          have := endAt_lt ea
          rw [cnd_dec, if_pos (by omega)]
          refine bnd_of (y := (t : Int) - k) (wrap_id (by omega) (by omega)) (bnd_of rfl ?_)
          have hlen : ((waitsF l k).flatMap eInt).length ≤ k := by rw [flat_eInt]; simpa using waitsF_len l k
          obtain ⟨w', o2, h2', ha2⟩ := ha1.app1 (b := 8) (new := [.int .i64 ((t : Int) - k)]) rfl rfl (by omega) (by omega) (by omega)
          refine ⟨_, _, h2', j21 o2 w' ?_⟩
          rw [waitL, ea]
          simpa [eInt] using ha2
      · rename_i e0
        refine j21 o1 w ?_
        have hask : isAsk l k = false := by simp [isAsk, e0]
        rw [waitL, endAt_not hask]
        simpa using ha1
    · have : k = l.length := by omega
      subst this
      exact ⟨_, rfl, hR o w ha.1 ha.sl⟩
end
theorem run_RefWaits {o : OS} {v : AV} {l : List Ev} {K : AV → OS → Prop} (h : Evs o v l) (hok : ∀ e ∈ l, e.ok) (hl : l.length ≤ 65535) (hK : ∀ o' w, Gr o o' → Ints o' w (waitsF l l.length) → K w o') : Go Try.prog n_twainref47_Waits [v] o K := by
  refine twainref47_Waits_go (l.length + 1) ?_
  unfold twainref47_Waits
  rw [jp_eq]
  refine ⟨h.isS, ?_⟩
  rw [Evs.len h]
  refine refwaits_loop h hok hl (fun o' w g hw => rt_in (hK o' w g hw)) _ 0 o .nilslice (by omega) (by omega) (by simpa [waitsF] using Acc.nil o 1)
end Go.Proofs.Ytlcapliakfomhaa
