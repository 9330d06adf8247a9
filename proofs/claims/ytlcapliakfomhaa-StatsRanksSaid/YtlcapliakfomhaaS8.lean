/- StatsRanks: the law's call answers true. -/
import Derived.Test.YtlcapliakfomhaaS7
set_option linter.all false
namespace Go.Proofs.Ytlcapliakfomhaa
open Go Go.Ab Go.Sort

theorem sum_set : ∀ (l : List Int) (k : Nat) (x : Int), k < l.length → (l.set k x).sum = l.sum - l.getD k 0 + x
  | [], k, x, h => by simp at h
  | a :: l, 0, x, h => by simp; omega
  | a :: l, k + 1, x, h => by simp at h; simp [sum_set l k x h]; omega
theorem sum_take_le : ∀ (l : List Int) (k : Nat), (∀ x ∈ l, 0 ≤ x) → 0 ≤ (l.take k).sum ∧ (l.take k).sum ≤ l.sum
  | [], k, h => by simp
  | a :: l, 0, h => by
    have := (sum_take_le l l.length fun x hx => h x (by simp [hx])).1
    rw [List.take_length] at this
    have := h a (by simp)
    simp; omega
  | a :: l, k + 1, h => by
    have := sum_take_le l k fun x hx => h x (by simp [hx])
    have := h a (by simp)
    simp; omega
theorem sum_take_succ (l : List Int) (k : Nat) (h : k < l.length) : (l.take (k + 1)).sum = (l.take k).sum + l.getD k 0 := by
  rw [List.take_succ_eq_append_getElem h, List.sum_append]; simp [h]
theorem getD_le (l : List Int) (k : Nat) (h : ∀ x ∈ l, 0 ≤ x) : 0 ≤ l.getD k 0 ∧ l.getD k 0 ≤ l.sum := by
  rcases Nat.lt_or_ge k l.length with hk | hk
  · have h1 := sum_take_le l (k + 1) h
    have h2 := sum_take_le l k h
    rw [sum_take_succ l k hk] at h1
    have : l.getD k 0 ∈ l := by simp [hk]
    exact ⟨h _ this, by omega⟩
  · have := sum_take_le l l.length h
    rw [List.take_length] at this
    simp [hk]; omega
theorem barsF_sum {wide most : Int} (hw : 1 ≤ wide) (hm : 1 ≤ most) : ∀ (l : List Int), l.length ≤ 65535 → (barsF wide most l).sum = l.length ∧ ∀ x ∈ barsF wide most l, 0 ≤ x := by
  intro l
  have key : ∀ k, k ≤ l.length → l.length ≤ 65535 → (barsF wide most (l.take k)).sum = k ∧ ∀ x ∈ barsF wide most (l.take k), 0 ≤ x := by
    intro k
    induction k with
    | zero => intro _ _; simp [barsF]
    | succ k ih =>
      intro h1 h2
      obtain ⟨i1, i2⟩ := ih (by omega) h2
      rw [barsF_take _ _ _ _ (by omega)]
      have hr := barIx_range (n := l[k]) hw hm
      have hlen := barsF_len wide most (l.take k)
      clear ih
      generalize barIx wide most l[k] = i at hr ⊢
      revert i1 i2 hlen
      generalize barsF wide most (l.take k) = out
      intro i1 i2 hlen
      have hg := getD_le out i.toNat i2
      unfold bump
      rw [wrap_id (by omega) (by omega)]
      refine ⟨?_, fun x hx => ?_⟩
      · rw [sum_set _ _ _ (by omega)]; omega
      · rcases List.mem_or_eq_of_mem_set hx with h | rfl
        · exact i2 x h
        · omega
  intro h
  have := key l.length (Nat.le_refl _) h
  rwa [List.take_length] at this

section
variable {n : Nat} {R : AV → OS → Prop} {o : OS} {v x : AV} {l b : List Int}
theorem ranks_end (hR : R (.bool true) o) (hv : Ints o v l) (hx : Ints o x b) (hb : b.length = 0 ∨ b.sum = l.length) (hR : R (.bool true) o) : twainlaw47_StatsRanks_J42 (GoF Try.prog) n R [v, x, .int .i64 b.sum] o := by
  refine ⟨_, _, _, rfl, ?_⟩
  rw [jp_eq]
  refine ⟨hx.isS, ?_⟩
  rw [hx.ilen, cnd_beq]
  split
  · exact run_lives ⟨_, rfl, _, rfl, hR⟩
  · refine ⟨hv.isS, ?_⟩
    rw [hv.ilen, cnd_beq, if_pos (by omega)]
    exact run_lives ⟨_, rfl, _, rfl, hR⟩
theorem ranks_sum (hv : Ints o v l) (hx : Ints o x b) (hb : b.length = 0 ∨ b.sum = l.length) (hR : R (.bool true) o) (h0 : ∀ y ∈ b, 0 ≤ y) (hs : b.sum ≤ 65535) :
    ∀ (m k : Nat), b.length - k < m → k ≤ b.length → lp m (twainlaw47_StatsRanks_L56 (GoF Try.prog) n R (twainlaw47_StatsRanks_J42 (GoF Try.prog) n R)) [v, x, .int .i64 (b.take k).sum, x, .int .i64 b.length, .int .i64 k] o := by
  intro m
  induction m with
  | zero => intro k h; omega
  | succ m ih =>
    intro k hm hk
    rw [lp_succ]
    refine ⟨_, _, _, _, _, _, rfl, ?_⟩
    rw [cnd_dec]
    have hmx := hx.imax
    split
    · have hlt : k < b.length := by omega
      have e := sum_take_succ b k hlt
      have h1 := sum_take_le b (k + 1) h0
      refine ⟨⟨by omega, by rw [hx.ilen]; omega⟩, _, hx.ild (i := k) (x := b.getD k 0) (by simp [hlt]) (by omega), bnd_of (y := (b.take (k + 1)).sum) (by rw [← e, wrap_id (by omega) (by omega)]) (bnd_of (wn (n := k + 1) (by omega) (by omega)) ?_)⟩
      exact ih (k + 1) (by omega) (by omega)
    · have : k = b.length := by omega
      subst this
      rw [List.take_length]
      exact ranks_end hR hv hx hb hR
end
/-- THE LAW's CALL. -/
theorem run_StatsRanks {o : OS} {v : AV} {l : List Int} {num den wide most : Int} {K : AV → OS → Prop} (hv : Ints o v l) (hl : ∀ z ∈ l, I64 z) (hw : I64 wide) (hmo : I64 most) (hK : ∀ o', K (.bool true) o') :
    Go Try.prog n_twainlaw47_StatsRanks [v, .agg [.int .i64 num, .int .i64 den, .int .i64 wide, .int .i64 most]] o K := by
  refine twainlaw47_StatsRanks_go 102 ?_
  refine bnd_of rfl ?_
  have g0 : Gr o (o ++ [AO.cells true [.int .i64 num, .int .i64 den, .int .i64 wide, .int .i64 most]]) := (Gr.refl o).push _
  have hc : (o ++ [AO.cells true [.int .i64 num, .int .i64 den, .int .i64 wide, .int .i64 most]])[o.length]? = some (.cells true [.int .i64 num, .int .i64 den, .int .i64 wide, .int .i64 most]) := by simp
  generalize (o ++ [AO.cells true [AV.int .i64 num, .int .i64 den, .int .i64 wide, .int .i64 most]]) = o0 at g0 hc ⊢
  have ld : ∀ (k : Nat) (z : Int), [AV.int .i64 num, .int .i64 den, .int .i64 wide, .int .i64 most][k]? = some (.int .i64 z) → ldO false 1 (padd k (AV.ptr o.length 0)) o0 = some (.int .i64 z) := by
    intro k z h; simp only [padd, ldO, hc, Nat.zero_add]; exact h
  refine ⟨rfl, _, ld 0 num rfl, rfl, _, ld 1 den rfl, rfl, _, ld 2 wide rfl, rfl, _, ld 3 most rfl, hv.isS, ?_⟩
  have hv0 := hv.gr g0
  rw [hv.ilen, cnd_dec]
  split
  · exact run_lives ⟨_, rfl, rt_in (hK _)⟩
  · rename_i h200
    refine bnd_of rfl ?_
    obtain ⟨id, k, o1, h1, g1, hid, ho⟩ := appO_clone (b := 8) hv0 (all_one_ints l) (by rw [hv.ilen]; omega) (by omega) (by omega)
    rw [hv.ilen] at h1
    refine ⟨_, _, h1, ?_⟩
    have hown : Ints o1 (.slice id 0 l.length l.length k) l := Ints.of_own (by rw [ho, flat_eInt]) (by omega)
    have hv1 := hv0.gr g1
    refine run_Rank hown (by omega) ⟨_, _, rfl, ?_⟩
    refine run_rRank hv1 (by omega) ⟨_, _, rfl, ?_⟩
    refine run_Bars hown hw hmo hl fun o2 x g2 hx => ?_
    rw [jp_eq, cnd_bne, if_pos rfl]
    rw [beq_self_eq_true, Bool.not_true, cnd_false]
    refine run_rBars (hv1.gr g2) hw hmo hl fun o3 y g3 hy => ?_
    refine run_Ints (hx.gr g3) hy ⟨_, rfl, ?_⟩
    rw [decide_eq_true rfl, Bool.not_true, cnd_false]
    have g13 := g2.trans g3
    refine run_Ints (hown.gr g13) (hv1.gr g13) ⟨_, rfl, ?_⟩
    rw [decide_eq_true rfl, Bool.not_true]
    refine ⟨_, _, _, rfl, ?_⟩
    rw [cnd_false, jp_eq]
    have hx3 := hx.gr g3
    refine ⟨hx3.isS, ?_⟩
    rw [hx3.ilen]
    have key : ((barsM wide most l).length = 0 ∨ (barsM wide most l).sum = l.length) ∧ (∀ z ∈ barsM wide most l, 0 ≤ z) ∧ (barsM wide most l).sum ≤ 65535 ∧ (barsM wide most l).length ≤ 100 := by
      unfold barsM
      split
      · simp
      · rename_i hcond
        have := barsF_sum (wide := wide) (most := most) (by omega) (by omega) l (by omega)
        refine ⟨.inr this.1, this.2, by rw [this.1]; omega, by rw [barsF_len]; omega⟩
    exact ranks_sum (n := 102) (hv1.gr g13) hx3 key.1 (rt_in (hK _)) key.2.1 key.2.2.1 102 0 (by omega) (by omega)
end Go.Proofs.Ytlcapliakfomhaa
