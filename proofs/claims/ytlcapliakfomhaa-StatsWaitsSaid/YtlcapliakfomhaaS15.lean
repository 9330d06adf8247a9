/- Of the stats' functions: what each computes (10): how many are open: the maps of who. -/
import Derived.Test.YtlcapliakfomhaaS14
set_option linter.all false
namespace Go.Proofs.Ytlcapliakfomhaa
open Go Go.Ab
theorem und57 : Try.prog.underlying 57 = some (.map 3 55) := by kernel_rfl
theorem und55 : Try.prog.underlying 55 = some (.map 3 4) := by kernel_rfl
theorem z55 : (Try.prog.info? 55).bind (·.zero) = some (.map none) := by kernel_rfl
def eMap (id : Nat) : AV := .map id
def eB (b : Bool) : AV := .bool b
def W (a : Nat) (l4 : List (Int × Nat)) (w : Int) : Option Nat := if w = 0 then some a else if w = 1 then some (a + 1) else getK w l4
structure MS (l : List Ev) (k F a : Nat) (l3 : List (Int × Int)) (o : OS) (l4 : List (Int × Nat)) : Prop where
  hF : Mp eKI eKI o F l3
  hc : o[a + 2]? = some (.cells true [.map a, .map (a + 1)])
  he : o[a + 4]? = some (.cells true [.map (a + 3)])
  hd : Mp eKI eMap o (a + 3) l4
  nd : KeysND l4
  big : ∀ w id, getK w l4 = some id → a + 5 ≤ id
  inj : ∀ w w' id, getK w l4 = some id → getK w' l4 = some id → w = w'
  lt : ∀ w id, getK w l4 = some id → id < o.length
  m : ∀ w id, W a l4 w = some id → Mp eKI eB o id (lst l k w)
  mn : ∀ w, W a l4 w = none → lst l k w = []
section
variable {l : List Ev} {k F a : Nat} {l3 : List (Int × Int)} {o : OS} {l4 : List (Int × Nat)}
theorem MS.gr {o' : OS} (h : MS l k F a l3 o l4) (hg : Gr o o') : MS l k F a l3 o' l4 :=
  ⟨h.hF.gr hg, hg _ _ h.hc, hg _ _ h.he, h.hd.gr hg, h.nd, h.big, h.inj, fun w id hw => Nat.lt_of_lt_of_le (h.lt w id hw) hg.len, fun w id hw => (h.m w id hw).gr hg, h.mn⟩
theorem W_cases (big : ∀ w id, getK w l4 = some id → a + 5 ≤ id) {w : Int} {id : Nat} (h : W a l4 w = some id) : (w = 0 ∧ id = a) ∨ (w = 1 ∧ id = a + 1) ∨ (w ≠ 0 ∧ w ≠ 1 ∧ getK w l4 = some id ∧ a + 5 ≤ id) := by
  unfold W at h
  split at h
  · rename_i e; exact .inl ⟨e, (Option.some.inj h).symm⟩
  · split at h
    · rename_i e; exact .inr (.inl ⟨e, (Option.some.inj h).symm⟩)
    · rename_i e1 e2; exact .inr (.inr ⟨e1, e2, h, big _ _ h⟩)
theorem W_inj (h : MS l k F a l3 o l4) {w w' : Int} {id : Nat} (h1 : W a l4 w = some id) (h2 : W a l4 w' = some id) : w = w' := by
  rcases W_cases h.big h1 with ⟨e1, e2⟩ | ⟨e1, e2⟩ | ⟨_, _, e1, e2⟩ <;> rcases W_cases h.big h2 with ⟨f1, f2⟩ | ⟨f1, f2⟩ | ⟨_, _, f1, f2⟩ <;> first | omega | exact h.inj _ _ _ e1 f1
theorem W_ge (h : MS l k F a l3 o l4) {w : Int} {id : Nat} (h1 : W a l4 w = some id) : a ≤ id ∧ id ≠ a + 2 ∧ id ≠ a + 3 ∧ id ≠ a + 4 := by
  rcases W_cases h.big h1 with ⟨_, e2⟩ | ⟨_, e2⟩ | ⟨_, _, _, e2⟩ <;> omega
theorem MS.step (h : MS l k F a l3 o l4) (hFa : F < a) {id : Nat} {x : AO} (hw : W a l4 (whoOf l k) = some id) (hm : Mp eKI eB (o.set id x) id (lst l (k + 1) (whoOf l k))) : MS l (k + 1) F a l3 (o.set id x) l4 := by
  have hne := W_ge h hw
  refine ⟨mp_ne h.hF (by omega), ?_, ?_, mp_ne h.hd (by omega), h.nd, h.big, h.inj, fun w id hw => by rw [List.length_set]; exact h.lt w id hw, fun w' id' hw' => ?_, fun w' hw' => ?_⟩
  · rw [List.getElem?_set_ne (by omega)]; exact h.hc
  · rw [List.getElem?_set_ne (by omega)]; exact h.he
  · by_cases e : w' = whoOf l k
    · subst e
      rw [hw] at hw'
      cases hw'
      exact hm
    · rw [lst_other e]
      refine mp_ne (h.m w' id' hw') ?_
      rintro rfl
      exact e (W_inj h hw' hw)
  · have e : w' ≠ whoOf l k := by rintro rfl; rw [hw] at hw'; cases hw'
    rw [lst_other e]
    exact h.mn w' hw'
theorem MS.stay (h : MS l k F a l3 o l4) (hs : ∀ w, lst l (k + 1) w = lst l k w) : MS l (k + 1) F a l3 o l4 :=
  ⟨h.hF, h.hc, h.he, h.hd, h.nd, h.big, h.inj, h.lt, fun w id hw => by rw [hs]; exact h.m w id hw, fun w hw => by rw [hs]; exact h.mn w hw⟩
/-- A map for another. -/
theorem MS.more (h : MS l k F a l3 o l4) (hFa : F < a) {w : Int} (h0 : w ≠ 0) (h1 : w ≠ 1) (hn : getK w l4 = none) : ∃ x, mapUpdateA Try.prog 57 (.map (a + 3)) (.int .i64 w) (.map o.length) (Go.Ab.mk (o ++ [AO.map [] 0])) = some (Go.Ab.mk ((o ++ [AO.map [] 0]).set (a + 3) x)) ∧
    MS l k F a l3 ((o ++ [AO.map [] 0]).set (a + 3) x) (l4 ++ [(w, o.length)]) ∧ W a (l4 ++ [(w, o.length)]) w = some o.length := by
  have g := (Gr.refl o).push [AO.map [] 0]
  have h' := h.gr g
  obtain ⟨x, hu, mu⟩ := h'.hd.update keyInt und57 w o.length
  rw [putK_new hn] at mu
  have hlt : a + 4 < o.length := getElem?_lt h.he
  have gs : ∀ w', getK w' (l4 ++ [(w, o.length)]) = if w' = w then some o.length else getK w' l4 := fun w' => getK_snoc h.nd hn
  have hlst : lst l k w = [] := h.mn w (by unfold W; rw [if_neg h0, if_neg h1, hn])
  have WW : ∀ w', W a (l4 ++ [(w, o.length)]) w' = if w' = w then some o.length else W a l4 w' := by
    intro w'
    unfold W
    rw [gs]
    by_cases e : w' = w
    · subst e; simp [h0, h1]
    · rw [if_neg e, if_neg e]
  refine ⟨x, hu, ?_, by rw [WW, if_pos rfl]⟩
  refine ⟨mp_ne h'.hF (by omega), ?_, ?_, mu, h.nd.snoc hn, fun w' id hw' => ?_, fun w1 w2 id q1 q2 => ?_, fun w' id hw' => ?_, fun w' id hw' => ?_, fun w' hw' => ?_⟩
  · rw [List.getElem?_set_ne (by omega)]; exact h'.hc
  · rw [List.getElem?_set_ne (by omega)]; exact h'.he
  · rw [gs] at hw'
    split at hw'
    · cases hw'; omega
    · exact h.big _ _ hw'
  · rw [gs] at q1 q2
    split at q1 <;> split at q2
    · omega
    · cases q1; exact absurd (h.lt _ _ q2) (by omega)
    · cases q2; exact absurd (h.lt _ _ q1) (by omega)
    · exact h.inj _ _ _ q1 q2
  · rw [gs] at hw'
    rw [List.length_set, List.length_append]
    split at hw'
    · cases hw'; simp
    · have := h.lt _ _ hw'; simp; omega
  · rw [WW] at hw'
    split at hw'
    · rename_i e
      cases hw'
      rw [e, hlst]
      exact mp_ne (Mp.new o) (by omega)
    · exact mp_ne (h'.m w' id hw') (by have := W_ge h hw'; omega)
  · rw [WW] at hw'
    split at hw'
    · cases hw'
    · exact h.mn w' hw'
end
theorem run_of {o0 o : OS} {l : List Ev} {k F a : Nat} {l3 : List (Int × Int)} {l4 : List (Int × Nat)} {w : Int} {K : AV → OS → Prop} (hg : Gr o0 o) (h : MS l k F a l3 o l4) (hFa : F < a) (ha : o0.length ≤ a)
    (hK : ∀ o' l4' id, Gr o0 o' → MS l k F a l3 o' l4' → W a l4' w = some id → (o.length ≤ o'.length ∧ ∀ i : Nat, a + 5 ≤ i → i < o.length → o'[i]? = o[i]?) → K (.map id) o') : Go Try.prog n_stats_Most_1 [.int .i64 w, .ptr (a + 2) 0, .ptr (a + 4) 0] o K := by
  refine stats_Most_1_go 1 ?_
  unfold stats_Most_1
  rw [jp_eq]
  have here : ∀ id, W a l4 w = some id → rt o K (.map id) o := fun id hid => rt_in (hK o l4 id hg h hid ⟨Nat.le_refl _, fun _ _ _ => rfl⟩)
  have j : ∀ b : Bool, b = (decide (w = 0) || decide (w = 1)) → stats_Most_1_J21 (GoF Try.prog) 1 (rt o K) [.int .i64 w, .ptr (a + 2) 0, .ptr (a + 4) 0, .bool b] o := by
    intro b hb
    refine ⟨_, _, _, _, rfl, ?_⟩
    cases b with
    | true =>
      rw [cnd_true]
      have hb' := hb.symm
      rw [Bool.or_eq_true, decide_eq_true_eq, decide_eq_true_eq] at hb'
      rcases hb' with rfl | rfl
      · exact ⟨rfl, by omega, .map a, by simp [padd, ldO, h.hc], here a (by simp [W])⟩
      · exact ⟨rfl, by omega, .map (a + 1), by simp [padd, ldO, h.hc], here (a + 1) (by simp [W])⟩
    | false =>
      rw [cnd_false, jp_eq]
      have hb' := hb.symm
      rw [Bool.or_eq_false_iff, decide_eq_false_iff_not, decide_eq_false_iff_not] at hb'
      obtain ⟨h0, h1⟩ := hb'
      have ld : ldO false 1 (AV.ptr (a + 4) 0) o = some (.map (a + 3)) := by simp [ldO, h.he]
      have lk := h.hd.lookup1 keyInt und57 z55 w
      refine ⟨_, ld, ?_⟩
      cases hw : getK w l4 with
      | some id =>
        rw [hw] at lk
        refine ⟨_, lk, false, rfl, ?_⟩
        rw [cnd_false]
        exact ⟨_, _, rfl, _, ld, _, lk, here id (by unfold W; rw [if_neg h0, if_neg h1, hw])⟩
      | none =>
        rw [hw] at lk
        refine ⟨_, lk, true, rfl, ?_⟩
        rw [cnd_true]
        refine ⟨_, ld, bnd_of rfl ?_⟩
        obtain ⟨x, hu, hm, hWw⟩ := h.more hFa h0 h1 hw
        refine ⟨_, hu, ?_⟩
        have ld' : ldO false 1 (AV.ptr (a + 4) 0) ((o ++ [AO.map [] 0]).set (a + 3) x) = some (.map (a + 3)) := by simp only [ldO, hm.he]; rfl
        have lk' := hm.hd.lookup1 keyInt und57 z55 w
        have gw : getK w (l4 ++ [(w, o.length)]) = some o.length := by rw [getK_snoc h.nd hw, if_pos rfl]
        rw [gw] at lk'
        refine ⟨_, _, rfl, _, ld', _, lk', rt_in (hK _ _ _ ((hg.push _).set (by omega) _) hm hWw ⟨by simp, fun i hi hlt => ?_⟩)⟩
        rw [List.getElem?_set_ne (by omega), List.getElem?_append_left hlt]
  rw [cnd_beq]
  split
  · rename_i e; exact j true (by simp [e])
  · rename_i e; exact j _ (by rw [Bool.eq_iff_iff]; simp [e])
end Go.Proofs.Ytlcapliakfomhaa
