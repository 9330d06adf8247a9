/- Of the stats' functions: what each computes (2): bars. -/
import Derived.Test.YtlcapliakfomhaaS1
set_option linter.all false
namespace Go.Proofs.Ytlcapliakfomhaa
open Go Go.Ab

def barIx (wide most n : Int) : Int := min (max n 0 / wide) (most - 1)
def bump (out : List Int) (k : Nat) : List Int := out.set k (IntKind.wrap .i64 (out.getD k 0 + 1))
def barsF (wide most : Int) (l : List Int) : List Int := l.foldl (fun out n => bump out (barIx wide most n).toNat) (List.replicate most.toNat 0)
def barsM (wide most : Int) (l : List Int) : List Int := if wide < 1 ∨ most < 1 ∨ most > 100 then [] else barsF wide most l

theorem foldl_bump_len (f : Int → Nat) (l : List Int) (out : List Int) : (l.foldl (fun out n => bump out (f n)) out).length = out.length := by
  induction l generalizing out with
  | nil => rfl
  | cons a l ih => rw [List.foldl_cons, ih]; simp [bump]
theorem barsF_len (wide most : Int) (l : List Int) : (barsF wide most l).length = most.toNat := by
  unfold barsF
  rw [foldl_bump_len (fun n => (barIx wide most n).toNat)]; simp
theorem barsF_take (wide most : Int) (l : List Int) (k : Nat) (h : k < l.length) : barsF wide most (l.take (k + 1)) = bump (barsF wide most (l.take k)) (barIx wide most l[k]).toNat := by
  unfold barsF
  rw [List.take_succ_eq_append_getElem h, List.foldl_append]
  rfl
theorem barIx_range {wide most n : Int} (h1 : 1 ≤ wide) (h2 : 1 ≤ most) : 0 ≤ barIx wide most n ∧ barIx wide most n < most := by
  unfold barIx
  have : 0 ≤ max n 0 / wide := Int.ediv_nonneg (by omega) (by omega)
  omega
theorem map_set_int (l : List Int) (k : Nat) (x : Int) : (l.map (AV.int .i64)).set k (.int .i64 x) = (l.set k x).map (AV.int .i64) := by rw [List.map_set]
theorem getD_of {l : List Int} {k : Nat} (h : k < l.length) : l[k]? = some (l.getD k 0) := by simp [h]

/-- A round: one bar more. -/
theorem bump_step {o0 o : OS} {id : Nat} {out : List Int} {n cap kk : Nat} {i : Int} {Q : OS → Prop} (hid : o0.length ≤ id) (hg : Gr o0 o) (ho : o[id]? = some (.cells true (out.map (.int .i64)))) (hn : out.length = n) (hm : (n : Int) ≤ 9223372036854775807) (h0 : 0 ≤ i) (h1 : i < n)
    (hQ : ∀ o', Gr o0 o' → o'[id]? = some (.cells true ((bump out i.toNat).map (.int .i64))) → Q o') :
    (0 ≤ i ∧ i < alen (.slice id 0 n cap kk)) ∧ ∃ x : Int, ldO false 1 (ixp 1 (.slice id 0 n cap kk) i) o = some (.int .i64 x) ∧ bnd (IntKind.wrap .i64 (x + (1 : Int))) fun y =>
      (0 ≤ i ∧ i < alen (.slice id 0 n cap kk)) ∧ ∃ o2 : OS, stO (ixp 1 (.slice id 0 n cap kk) i) [.int .i64 y] o = some o2 ∧ Q o2 := by
  subst hn
  have hi : i.toNat < out.length := by omega
  have hb : 0 ≤ i ∧ i < alen (.slice id 0 out.length cap kk) := ⟨h0, h1⟩
  refine ⟨hb, _, (Ints.of_own ho hm).ld (getD_of hi) h0, ?_⟩
  unfold bnd
  refine ⟨hb, _, stO_own0 ho (by simp; omega), ?_⟩
  refine hQ _ (hg.set hid _) ?_
  rw [List.getElem?_set_self (getElem?_lt ho), map_set_int, Nat.mul_one]
  rfl

section
variable {n : Nat} {o0 : OS} {R : AV → OS → Prop} {v : AV} {l : List Int} {wide most : Int} {id : Nat} {cap kk : Nat}
theorem bars_loop (hv : Ints o0 v l) (hw : 1 ≤ wide) (hw2 : I64 wide) (hmo : 1 ≤ most) (hmm : most ≤ 100) (hl : ∀ x ∈ l, I64 x) (hid : o0.length ≤ id)
    (hK : ∀ o', Gr o0 o' → o'[id]? = some (.cells true ((barsF wide most l).map (.int .i64))) → R (.slice id 0 most.toNat cap kk) o') :
    ∀ (m k : Nat) (o : OS), k ≤ l.length → l.length - k < m → Gr o0 o → o[id]? = some (.cells true ((barsF wide most (l.take k)).map (.int .i64))) →
      lp m (stats_Bars_L30 (GoF Try.prog) n R (stats_Bars_J10 (GoF Try.prog) n R)) [.int .i64 wide, .int .i64 most, .slice id 0 most.toNat cap kk, v, .int .i64 l.length, .int .i64 k] o := by
  intro m
  induction m with
  | zero => intro k o _ h; omega
  | succ m ih =>
    intro k o hk hm hg ho
    rw [lp_succ]
    refine ⟨_, _, _, _, _, _, rfl, ?_⟩
    rw [cnd_dec]
    split
    · rename_i hlt
      have hlt : k < l.length := by omega
      have hx : l[(k : Int).toNat]? = some l[k] := by simp [hlt]
      have hv' := hv.gr hg
      refine ⟨⟨by omega, by rw [hv.len]; omega⟩, _, hv'.ild hx (by omega), ?_⟩
      have hxr := hl l[k] (List.getElem_mem hlt)
      unfold I64 at hxr hw2
      have e1 : (if (0 : Int) > l[k] then (0 : Int) else l[k]) = max l[k] 0 := by split <;> omega
      have e2 : (max l[k] 0).tdiv wide = max l[k] 0 / wide := Int.tdiv_eq_ediv_of_nonneg (by omega)
      have e3 : max l[k] 0 / wide ≤ max l[k] 0 := Int.ediv_le_self _ (by omega)
      have e4 : 0 ≤ max l[k] 0 / wide := Int.ediv_nonneg (by omega) (by omega)
      have e5 : (if most - 1 < max l[k] 0 / wide then most - 1 else max l[k] 0 / wide) = barIx wide most l[k] := by unfold barIx; split <;> omega
      have hr := barIx_range (n := l[k]) hw hmo
      refine bnd_of e1 ⟨by omega, bnd_of (y := max l[k] 0 / wide) (by rw [e2, wrap_id (by omega) (by omega)]) (bnd_of (y := most - 1) (wrap_id (by omega) (by omega)) (bnd_of e5 ?_))⟩
      refine bump_step hid hg ho (barsF_len _ _ _) (by omega) hr.1 (by omega) fun o' hg' ho' => ?_
      have hmx := hv.max
      refine bnd_of (wrap_id (by omega) (by omega)) ?_
      exact ih (k + 1) o' (by omega) (by omega) hg' (by rw [barsF_take _ _ _ _ hlt]; exact ho')
    · rename_i hge
      have : k = l.length := by omega
      subst this
      rw [List.take_length] at ho
      exact ⟨_, rfl, hK _ hg ho⟩
theorem rbars_loop (hv : Ints o0 v l) (hw : 1 ≤ wide) (hw2 : I64 wide) (hmo : 1 ≤ most) (hmm : most ≤ 100) (hl : ∀ x ∈ l, I64 x) (hid : o0.length ≤ id)
    (hK : ∀ o', Gr o0 o' → o'[id]? = some (.cells true ((barsF wide most l).map (.int .i64))) → R (.slice id 0 most.toNat cap kk) o') :
    ∀ (m k : Nat) (o : OS), k ≤ l.length → l.length - k < m → Gr o0 o → o[id]? = some (.cells true ((barsF wide most (l.take k)).map (.int .i64))) →
      lp m (twainref47_Bars_L50 (GoF Try.prog) n R (twainref47_Bars_J10 (GoF Try.prog) n R)) [.int .i64 wide, .int .i64 most, .slice id 0 most.toNat cap kk, v, .int .i64 l.length, .int .i64 k] o := by
  intro m
  induction m with
  | zero => intro k o _ h; omega
  | succ m ih =>
    intro k o hk hm hg ho
    rw [lp_succ]
    refine ⟨_, _, _, _, _, _, rfl, ?_⟩
    rw [cnd_dec]
    split
    · rename_i hlt
      have hlt : k < l.length := by omega
      have hx : l[(k : Int).toNat]? = some l[k] := by simp [hlt]
      have hv' := hv.gr hg
      refine ⟨⟨by omega, by rw [hv.len]; omega⟩, _, hv'.ild hx (by omega), ?_⟩
      have hxr := hl l[k] (List.getElem_mem hlt)
      unfold I64 at hxr hw2
      have hr := barIx_range (n := l[k]) hw hmo
      -- behind the two choices
      have fin : ∀ q, q = barIx wide most l[k] → twainref47_Bars_J44 (GoF Try.prog) n R (lp m (twainref47_Bars_L50 (GoF Try.prog) n R (twainref47_Bars_J10 (GoF Try.prog) n R))) [.int .i64 wide, .int .i64 most, .slice id 0 most.toNat cap kk, .int .i64 q, v, .int .i64 l.length, .int .i64 k] o := by
        rintro q rfl
        refine ⟨_, _, _, _, _, _, _, rfl, ?_⟩
        refine bump_step hid hg ho (barsF_len _ _ _) (by omega) hr.1 (by omega) fun o' hg' ho' => ?_
        have hmx := hv.max
        refine bnd_of (wrap_id (by omega) (by omega)) ?_
        exact ih (k + 1) o' (by omega) (by omega) hg' (by rw [barsF_take _ _ _ _ hlt]; exact ho')
      have mid : ∀ q, min q (most - 1) = barIx wide most l[k] → twainref47_Bars_J47 (GoF Try.prog) n R (lp m (twainref47_Bars_L50 (GoF Try.prog) n R (twainref47_Bars_J10 (GoF Try.prog) n R))) [.int .i64 wide, .int .i64 most, .slice id 0 most.toNat cap kk, .int .i64 q, v, .int .i64 l.length, .int .i64 k] o := by
        intro q hq
        refine ⟨_, _, _, _, _, _, _, rfl, ?_⟩
        rw [jp_eq, cnd_dec]
        split
        · exact bnd_of (wrap_id (by omega) (by omega)) (fin _ (by omega))
        · exact fin _ (by omega)
      rw [jp_eq, cnd_dec]
      split
      · have e2 : l[k].tdiv wide = l[k] / wide := Int.tdiv_eq_ediv_of_nonneg (by omega)
        have e3 : l[k] / wide ≤ l[k] := Int.ediv_le_self _ (by omega)
        have e4 : 0 ≤ l[k] / wide := Int.ediv_nonneg (by omega) (by omega)
        refine ⟨by omega, ?_⟩
        refine bnd_of (y := l[k] / wide) (by rw [e2, wrap_id (by omega) (by omega)]) ?_
        exact mid _ (by unfold barIx; rw [Int.max_eq_left (by omega)])
      · refine mid _ ?_
        unfold barIx
        rw [Int.max_eq_right (by omega)]
        simp
    · rename_i hge
      have : k = l.length := by omega
      subst this
      rw [List.take_length] at ho
      exact ⟨_, rfl, hK _ hg ho⟩
end

theorem run_Bars {o : OS} {v : AV} {l : List Int} {wide most : Int} {K : AV → OS → Prop} (hv : Ints o v l) (hw : I64 wide) (hmo : I64 most) (hl : ∀ x ∈ l, I64 x) (hK : ∀ o' w, Gr o o' → Ints o' w (barsM wide most l) → K w o') :
    Go Try.prog n_stats_Bars [v, .int .i64 wide, .int .i64 most] o K := by
  refine stats_Bars_go (l.length + 1) ?_
  unfold stats_Bars
  rw [jp_eq]
  have body : ∀ b, b = decide (wide < 1 ∨ most < 1 ∨ most > 100) → stats_Bars_J31 (GoF Try.prog) (l.length + 1) (rt o K) [v, .int .i64 wide, .int .i64 most, .bool b] o := by
    intro b hb
    refine ⟨_, _, _, _, rfl, ?_⟩
    subst hb
    rw [cnd_dec]
    split
    · rename_i h
      exact rt_in (hK _ _ (Gr.refl o) (by unfold barsM; rw [if_pos h]; exact rfl))
    · rename_i h
      refine ⟨by omega, ?_⟩
      refine bnd_of rfl ?_
      rw [jp_eq]
      refine ⟨hv.isS, ?_⟩
      rw [hv.len]
      refine bars_loop (o0 := o) hv (by omega) hw (by omega) (by omega) hl (Nat.le_refl _) (fun o' hg ho => rt_in (hK _ _ hg ?_)) _ 0 _ (by omega) (by omega) ((Gr.refl o).push _) ?_
      · unfold barsM
        rw [if_neg h]
        have := Ints.of_own (cap := most.toNat) (k := 0) ho (by rw [barsF_len]; omega)
        rwa [barsF_len] at this
      · simp [barsF, times_rep]
  rw [cnd_dec]
  split
  · exact body true (decide_eq_true (by omega)).symm
  · rw [cnd_dec]
    split
    · exact body true (decide_eq_true (by omega)).symm
    · exact body _ (decide_eq_decide.2 (by omega))
theorem run_rBars {o : OS} {v : AV} {l : List Int} {wide most : Int} {K : AV → OS → Prop} (hv : Ints o v l) (hw : I64 wide) (hmo : I64 most) (hl : ∀ x ∈ l, I64 x) (hK : ∀ o' w, Gr o o' → Ints o' w (barsM wide most l) → K w o') :
    Go Try.prog n_twainref47_Bars [v, .int .i64 wide, .int .i64 most] o K := by
  refine twainref47_Bars_go (l.length + 1) ?_
  unfold twainref47_Bars
  rw [jp_eq]
  have body : ∀ b, b = decide (wide < 1 ∨ most < 1 ∨ most > 100) → twainref47_Bars_J51 (GoF Try.prog) (l.length + 1) (rt o K) [v, .int .i64 wide, .int .i64 most, .bool b] o := by
    intro b hb
    refine ⟨_, _, _, _, rfl, ?_⟩
    subst hb
    rw [cnd_dec]
    split
    · rename_i h
      exact rt_in (hK _ _ (Gr.refl o) (by unfold barsM; rw [if_pos h]; exact rfl))
    · rename_i h
      refine ⟨by omega, ?_⟩
      refine bnd_of rfl ?_
      rw [jp_eq]
      refine ⟨hv.isS, ?_⟩
      rw [hv.len]
      refine rbars_loop (o0 := o) hv (by omega) hw (by omega) (by omega) hl (Nat.le_refl _) (fun o' hg ho => rt_in (hK _ _ hg ?_)) _ 0 _ (by omega) (by omega) ((Gr.refl o).push _) ?_
      · unfold barsM
        rw [if_neg h]
        have := Ints.of_own (cap := most.toNat) (k := 0) ho (by rw [barsF_len]; omega)
        rwa [barsF_len] at this
      · simp [barsF, times_rep]
  rw [cnd_dec]
  split
  · exact body true (decide_eq_true (by omega)).symm
  · rw [cnd_dec]
    split
    · exact body true (decide_eq_true (by omega)).symm
    · exact body _ (decide_eq_decide.2 (by omega))
end Go.Proofs.Ytlcapliakfomhaa
