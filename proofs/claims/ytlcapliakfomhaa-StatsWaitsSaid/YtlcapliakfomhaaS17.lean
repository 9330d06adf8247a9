/- Of the stats' functions: what each computes (12): how many are open, the model's; the law's call. -/
import Derived.Test.YtlcapliakfomhaaS16
import Derived.Test.YtlcapliakfomhaaS7
set_option linter.all false
namespace Go.Proofs.Ytlcapliakfomhaa
open Go Go.Ab
section
variable {o : OS} {v : AV} {l : List Ev} {n : Nat} {R : AV → OS → Prop} {j65 : List AV → OS → Prop}
theorem inner_loop (h : Evs o v l) (hok : ∀ e ∈ l, e.ok) (hl : l.length ≤ 65535) {at' i : Nat} (hat : at' < l.length) (hi : i ≤ at') {best c r1 r2 : Int}
    (hR : j65 [v, .int .i64 best, .int .i64 at', .int .i64 c, .int .i64 i, .bool (openK l (at' + 1) i), .int .i64 r1, .int .i64 r2] o) :
    ∀ (m k : Nat) (b : Bool), at' + 1 - k < m → i < k → k ≤ at' + 1 → openK l (at' + 1) i = (b && (firstI (fun j => closes l j i) k (at' + 1 - k) == none)) →
    lp m (twainref47_Most_L130 (GoF Try.prog) n R j65) [v, .int .i64 best, .int .i64 at', .int .i64 c, .int .i64 i, .bool b, .int .i64 k, .int .i64 r1, .int .i64 r2] o := by
  intro m
  induction m with
  | zero => intro k b h; omega
  | succ m ih =>
    intro k b hm hik hk he
    rw [lp_succ]
    refine ⟨_, _, _, _, _, _, _, _, _, rfl, ?_⟩
    rw [jp_eq]
    have hln := Evs.len h
    have stop : b = openK l (at' + 1) i → twainref47_Most_J128 (GoF Try.prog) n R (lp m (twainref47_Most_L130 (GoF Try.prog) n R j65)) j65 [v, .int .i64 best, .int .i64 at', .int .i64 c, .int .i64 i, .bool b, .int .i64 k, .int .i64 r1, .int .i64 r2, .bool false] o := by
      intro hb
      refine ⟨_, _, _, _, _, _, _, _, _, _, rfl, ?_⟩
      rw [cnd_false, hb]
      exact hR
    rw [cnd_dec]
    split
    · have hka : k ≤ at' := by omega
      have hkl : k < l.length := by omega
      have hil : i < l.length := by omega
      cases b with
      | false => exact stop (by rw [he]; rfl)
      | true =>
        refine ⟨_, _, _, _, _, _, _, _, _, _, rfl, ?_⟩
        rw [cnd_true, jp_eq, jp_eq]
        have j117 : ∀ c' : Bool, c' = closes l k i → twainref47_Most_J117 (GoF Try.prog) n R (twainref47_Most_J103 (GoF Try.prog) n R (lp m (twainref47_Most_L130 (GoF Try.prog) n R j65))) [v, .int .i64 best, .int .i64 at', .int .i64 c, .int .i64 i, .bool true, .int .i64 k, .int .i64 r1, .int .i64 r2, .bool c'] o := by
          intro c' hc
          rw [show at' + 1 - k = (at' + 1 - (k + 1)) + 1 by omega, firstI, ← hc] at he
          refine ⟨_, _, _, _, _, _, _, _, _, _, rfl, ?_⟩
          have ex : ∀ b', openK l (at' + 1) i = (b' && (firstI (fun j => closes l j i) (k + 1) (at' + 1 - (k + 1)) == none)) →
              twainref47_Most_J103 (GoF Try.prog) n R (lp m (twainref47_Most_L130 (GoF Try.prog) n R j65)) [v, .int .i64 best, .int .i64 at', .int .i64 c, .int .i64 i, .bool b', .int .i64 k, .int .i64 r1, .int .i64 r2] o := by
            intro b' hb'
            exact ⟨_, _, _, _, _, _, _, _, _, rfl, bnd_of (y := ((k + 1 : Nat) : Int)) (by rw [wrap_id (by omega) (by omega)]; omega) (ih (k + 1) b' (by omega) (by omega) (by omega) hb')⟩
          cases c' with
          | true =>
            rw [cnd_true]
            rw [if_pos rfl] at he
            exact ex false (by rw [he]; rfl)
          | false =>
            rw [cnd_false]
            rw [if_neg (by simp)] at he
            exact ex true he
        have bk : 0 ≤ (k : Int) ∧ (k : Int) < alen v := ⟨by omega, by omega⟩
        have bi : 0 ≤ (i : Int) ∧ (i : Int) < alen v := ⟨by omega, by omega⟩
        have flip : (((k : Nat) : Int) == toI (endF l i)) = (endF l i == some k) := by
          rw [← toI_eq, Bool.eq_iff_iff, beq_iff_eq, beq_iff_eq]; exact eq_comm
        refine ⟨bk, Evs.isP h hkl, _, Evs.k h hkl 0 (by omega), ?_⟩
        rw [cnd_beq]
        split
        · rename_i e0
          have hfell : isFell l k = true := by simp [isFell, e0]
          refine ⟨bk, Evs.isP h hkl, _, Evs.k h hkl 1 (by omega), bi, Evs.isP h hil, _, Evs.k h hil 1 (by omega), ?_⟩
          rw [cnd_beq]
          split
          · rename_i e1
            exact j117 true (by simp [closes, hfell, whoOf, e1])
          · rename_i e1
            refine run_end h hok hl hil ⟨_, rfl, j117 _ ?_⟩
            rw [flip]
            simp [closes, hfell, whoOf, e1]
        · rename_i e0
          have hfell : isFell l k = false := by simp [isFell, e0]
          refine run_end h hok hl hil ⟨_, rfl, j117 _ ?_⟩
          rw [flip]
          simp [closes, hfell]
    · have : at' + 1 - k = 0 := by omega
      rw [this, firstI] at he
      have e : openK l (at' + 1) i = b := by rw [he]; simp
      refine ⟨_, _, _, _, _, _, _, _, _, _, rfl, ?_⟩
      rw [cnd_false, ← e]
      exact hR
end
section
variable {o : OS} {v : AV} {l : List Ev} {n : Nat} {R : AV → OS → Prop} {j29 : List AV → OS → Prop}
def cntTo (l : List Ev) (k i : Nat) : Nat := ((List.range i).filter (openK l k)).length
theorem cntTo_succ (l : List Ev) (k i : Nat) : cntTo l k (i + 1) = cntTo l k i + (if openK l k i then 1 else 0) := by
  unfold cntTo; rw [filter_succ, List.length_append]; split <;> rfl
theorem cntTo_le (l : List Ev) (k i : Nat) : cntTo l k i ≤ i := by
  unfold cntTo
  have := List.length_filter_le (openK l k) (List.range i)
  simpa using this
theorem mid_loop (h : Evs o v l) (hok : ∀ e ∈ l, e.ok) (hl : l.length ≤ 65535) (hn : l.length + 1 ≤ n) {at' : Nat} (hat : at' < l.length) {best r1 r2 : Int}
    (hR : j29 [v, .int .i64 best, .int .i64 (cnt l (at' + 1)), .int .i64 r1, .int .i64 r2] o) : ∀ (m i : Nat), at' + 1 - i < m → i ≤ at' + 1 →
    lp m (twainref47_Most_L131 (GoF Try.prog) n R j29) [v, .int .i64 best, .int .i64 at', .int .i64 (cntTo l (at' + 1) i), .int .i64 i, .int .i64 r1, .int .i64 r2] o := by
  intro m
  induction m with
  | zero => intro i h; omega
  | succ m ih =>
    intro i hm hi
    rw [lp_succ]
    refine ⟨_, _, _, _, _, _, _, rfl, ?_⟩
    have hln := Evs.len h
    rw [cnd_dec]
    split
    · have hia : i ≤ at' := by omega
      have hil : i < l.length := by omega
      rw [jp_eq]
      refine ⟨⟨by omega, by omega⟩, Evs.isP h hil, _, Evs.k h hil 0 (by omega), ?_⟩
      rw [jp_eq]
      have := cntTo_le l (at' + 1) i
      refine bnd_of (y := ((i + 1 : Nat) : Int)) (by rw [wrap_id (by omega) (by omega)]; omega) ?_
      refine inner_loop h hok hl hat hia ?_ n (i + 1) _ (by omega) (by omega) (by omega) rfl
      refine ⟨_, _, _, _, _, _, _, _, rfl, ?_⟩
      have j50 : ∀ c' : Nat, c' = cntTo l (at' + 1) (i + 1) → twainref47_Most_J50 (GoF Try.prog) n R (lp m (twainref47_Most_L131 (GoF Try.prog) n R j29)) [v, .int .i64 best, .int .i64 at', .int .i64 c', .int .i64 i, .int .i64 r1, .int .i64 r2] o := by
        intro c' hc
        subst hc
        exact ⟨_, _, _, _, _, _, _, rfl, bnd_of (y := ((i + 1 : Nat) : Int)) (by rw [wrap_id (by omega) (by omega)]; omega) (ih (i + 1) (by omega) (by omega))⟩
      have cs := cntTo_succ l (at' + 1) i
      cases ho : openK l (at' + 1) i with
      | true =>
        rw [ho, if_pos rfl] at cs
        rw [cnd_true]
        refine bnd_of (y := ((cntTo l (at' + 1) i + 1 : Nat) : Int)) (by rw [wrap_id (by omega) (by omega)]; omega) (j50 _ cs.symm)
      | false =>
        rw [ho, if_neg (by simp)] at cs
        rw [cnd_false]
        exact j50 _ (by omega)
    · have : i = at' + 1 := by omega
      subst this
      exact hR
end
section
variable {o : OS} {v : AV} {l : List Ev} {n : Nat} {R : AV → OS → Prop}
theorem outer_loop (h : Evs o v l) (hok : ∀ e ∈ l, e.ok) (hl : l.length ≤ 65535) (hn : l.length + 2 ≤ n) (hR : R (.int .i64 (bestF l l.length)) o) : ∀ (m k : Nat), l.length - k < m → k ≤ l.length →
    lp m (twainref47_Most_L132 (GoF Try.prog) n R (twainref47_Most_J3 (GoF Try.prog) n R)) [v, .int .i64 (bestF l k), .int .i64 l.length, .int .i64 k] o := by
  intro m
  induction m with
  | zero => intro k h; omega
  | succ m ih =>
    intro k hm hk
    rw [lp_succ]
    refine ⟨_, _, _, _, rfl, ?_⟩
    rw [cnd_dec]
    split
    · have hkl : k < l.length := by omega
      rw [jp_eq, jp_eq]
      refine mid_loop h hok hl (by omega) hkl ?_ n 0 (by omega) (by omega)
      refine ⟨_, _, _, _, _, rfl, ?_⟩
      have nx : ∀ b : Int, b = bestF l (k + 1) → twainref47_Most_J19 (GoF Try.prog) n R (lp m (twainref47_Most_L132 (GoF Try.prog) n R (twainref47_Most_J3 (GoF Try.prog) n R))) [v, .int .i64 b, .int .i64 l.length, .int .i64 k] o := by
        intro b hb
        subst hb
        exact ⟨_, _, _, _, rfl, bnd_of (y := ((k + 1 : Nat) : Int)) (by rw [wrap_id (by omega) (by omega)]; omega) (ih (k + 1) (by omega) (by omega))⟩
      rw [cnd_dec]
      split
      · rename_i e; exact nx _ (by rw [bestF, if_pos e])
      · rename_i e; exact nx _ (by rw [bestF, if_neg e])
    · have : k = l.length := by omega
      subst this
      exact ⟨_, rfl, hR⟩
end
theorem run_RefMost {o : OS} {v : AV} {l : List Ev} {K : AV → OS → Prop} (h : Evs o v l) (hok : ∀ e ∈ l, e.ok) (hl : l.length ≤ 65535) (hK : K (.int .i64 (bestF l l.length)) o) : Go Try.prog n_twainref47_Most [v] o K := by
  refine twainref47_Most_go (l.length + 2) ?_
  unfold twainref47_Most
  rw [jp_eq]
  refine ⟨h.isS, ?_⟩
  rw [Evs.len h]
  exact outer_loop h hok hl (by omega) (rt_in hK) _ 0 (by omega) (by omega)
/-- THE LAW's CALL. -/
theorem run_StatsWaits {o : OS} {v : AV} {l : List Ev} {K : AV → OS → Prop} (h : Evs o v l) (hok : ∀ e ∈ l, e.ok) (hK : ∀ o', K (.bool true) o') : Go Try.prog n_twainlaw47_StatsWaits [v] o K := by
  refine twainlaw47_StatsWaits_go 1 ?_
  unfold twainlaw47_StatsWaits
  rw [jp_eq]
  have j30 : ∀ (b : Bool) (o' : OS), Gr o o' → (b = false → l.length ≤ 30) → twainlaw47_StatsWaits_J30 (GoF Try.prog) 1 (rt o K) [v, .bool b] o' := by
    intro b o' g hb
    refine ⟨_, _, rfl, ?_⟩
    cases b with
    | true => rw [cnd_true]; refine run_lives ?_; exact ⟨_, rfl, rt_in (hK _)⟩
    | false =>
      have hl : l.length ≤ 65535 := by have := hb rfl; omega
      rw [cnd_false]
      refine run_Raw (h.gr g) hok hl fun o1 w g1 hw => ?_
      rw [jp_eq]
      refine run_Waits hw hok hl fun o2 w2 g2 h2 => ?_
      refine run_RefWaits (((h.gr g).gr g1).gr g2) hok hl fun o3 w3 g3 h3 => ?_
      refine run_Ints (h2.gr g3) h3 ⟨_, rfl, ?_⟩
      rw [decide_eq_true rfl, cnd_true]
      refine run_Most (((hw.gr g2)).gr g3) hok hl fun o4 g4 => ⟨_, rfl, ?_⟩
      refine run_RefMost (((((h.gr g).gr g1).gr g2).gr g3).gr g4) hok hl ⟨_, rfl, ?_⟩
      rw [cnd_beq, if_pos rfl]
      refine run_lives ?_
      exact ⟨_, rfl, _, rfl, rt_in (hK _)⟩
  refine run_Few h hok fun o1 b g1 => ⟨_, rfl, ?_⟩
  cases b with
  | false => rw [Bool.not_false, cnd_true]; exact j30 true o1 g1 (fun h => by cases h)
  | true =>
    rw [Bool.not_true, cnd_false]
    refine ⟨h.isS, ?_⟩
    refine j30 _ o1 g1 fun hb => ?_
    rw [Evs.len h, decide_eq_false_iff_not] at hb
    omega
end Go.Proofs.Ytlcapliakfomhaa
