/- Of the stats' functions: what each computes (11): how many are open, the program's own. -/
import Derived.Test.YtlcapliakfomhaaS15
set_option linter.all false
namespace Go.Proofs.Ytlcapliakfomhaa
open Go Go.Ab
def FromM (l : List Ev) (k : Nat) (l3 : List (Int × Int)) : Prop := KeysND l3 ∧ ∀ t : Nat, getK (t : Int) l3 = match askedF l t with | some f => if f < k ∧ endAt l f l.length = some t then some ((f : Nat) : Int) else none | none => none
theorem endAt_asked {l : List Ev} {f t : Nat} (h : endAt l f l.length = some t) : askedF l t = some f := by
  have hl := endAt_lt h
  unfold endAt at h
  split at h
  · rename_i hc
    rw [Bool.and_eq_true, beq_iff_eq] at hc
    rw [firstI_some, Bool.and_eq_true, sameK_iff] at h
    exact (asked_first hl.1).2 ⟨hc.1, hc.2, h.2.2.1.2⟩
  · cases h
theorem FromM.skip {l : List Ev} {k : Nat} {l3 : List (Int × Int)} (h : FromM l k l3) (hn : endAt l k l.length = none) : FromM l (k + 1) l3 := by
  refine ⟨h.1, fun t => ?_⟩
  rw [h.2]
  cases ha : askedF l t with
  | none => rfl
  | some f =>
    by_cases e : f = k
    · subst e; simp [hn]
    · have : (f < k + 1) = (f < k) := by rw [eq_iff_iff]; omega
      simp only [this]
theorem FromM.put {l : List Ev} {k t : Nat} {l3 : List (Int × Int)} (h : FromM l k l3) (ht : endAt l k l.length = some t) : FromM l (k + 1) (putK (t : Int) (k : Int) l3) := by
  have ha := endAt_asked ht
  have hg : getK (t : Int) l3 = none := by rw [h.2, ha]; simp
  rw [putK_new hg]
  refine ⟨h.1.snoc hg, fun t' => ?_⟩
  rw [getK_snoc h.1 hg]
  by_cases e : t' = t
  · subst e
    rw [if_pos rfl, ha]
    simp [ht]
  · rw [if_neg (by omega), h.2]
    cases ha' : askedF l t' with
    | none => rfl
    | some f =>
      by_cases e2 : f = k
      · subst e2
        have : ¬ endAt l f l.length = some t' := by rw [ht]; intro h; exact e (Option.some.inj h).symm
        simp [this]
      · have : (f < k + 1) = (f < k) := by rw [eq_iff_iff]; omega
        simp only [this]
section
variable {o0 : OS} {v : AV} {l : List Ev} {n B F : Nat} {R : AV → OS → Prop} {l2 : List (Int × Int)} {j71 : List AV → OS → Prop}
theorem from_loop (hl : l.length ≤ 65535) (hq : EndM l l.length l2) (hF : o0.length ≤ F) (hBF : F ≠ B) (hR : ∀ o l3, Gr o0 o → Mp eKI eKI o F l3 → FromM l l.length l3 → j71 [v, .map F] o) : ∀ (m k : Nat) (o : OS) (l3 : List (Int × Int)), l.length - k < m → k ≤ l.length →
    Gr o0 o → Mp eKI eKI o B l2 → Mp eKI eKI o F l3 → FromM l k l3 →
    lp m (stats_Most_L93 (GoF Try.prog) n R j71) [v, .map B, .map F, .int .i64 l.length, .int .i64 k] o := by
  intro m
  induction m with
  | zero => intro k o l3 h; omega
  | succ m ih =>
    intro k o l3 hm hk hg hB h3 hf
    rw [lp_succ]
    refine ⟨_, _, _, _, _, rfl, ?_⟩
    rw [cnd_dec]
    split
    · have hkl : k < l.length := by omega
      rw [jp_eq]
      have j88 : ∀ o' l3', Gr o0 o' → Mp eKI eKI o' B l2 → Mp eKI eKI o' F l3' → FromM l (k + 1) l3' → stats_Most_J88 (GoF Try.prog) n R (lp m (stats_Most_L93 (GoF Try.prog) n R j71)) [v, .map B, .map F, .int .i64 l.length, .int .i64 k] o' := by
        intro o' l3' a b c d
        exact ⟨_, _, _, _, _, rfl, bnd_of (y := ((k + 1 : Nat) : Int)) (by rw [wrap_id (by omega) (by omega)]; omega) (ih (k + 1) o' l3' (by omega) (by omega) a b c d)⟩
      have lk := hB.lookup keyInt und52 z3 ((k : Nat) : Int)
      rw [hq.2] at lk
      cases he : endAt l k l.length with
      | none =>
        rw [he] at lk
        refine ⟨_, _, lk, ?_⟩
        rw [cnd_false]
        exact j88 o l3 hg hB h3 (hf.skip he)
      | some t =>
        rw [he] at lk
        refine ⟨_, _, lk, ?_⟩
        rw [cnd_true]
        obtain ⟨x, hu, mu⟩ := h3.update keyInt und52 ((t : Nat) : Int) ((k : Nat) : Int)
        exact ⟨_, hu, j88 _ _ (hg.set hF _) (mp_ne hB hBF) mu (hf.put he)⟩
    · have : k = l.length := by omega
      subst this
      exact hR o l3 hg h3 hf
end
section
variable {o0 : OS} {v : AV} {l : List Ev} {n a F : Nat} {R : AV → OS → Prop} {l3 : List (Int × Int)}
theorem most_loop (hv : Evs o0 v l) (hok : ∀ e ∈ l, e.ok) (hl : l.length ≤ 65535) (hFa : F < a) (ha : o0.length ≤ a) (hf : FromM l l.length l3) (hR : ∀ o, Gr o0 o → R (.int .i64 (bestF l l.length)) o) : ∀ (m k : Nat) (o : OS) (l4 : List (Int × Nat)), l.length - k < m → k ≤ l.length →
    Gr o0 o → MS l k F a l3 o l4 →
    lp m (stats_Most_L69 (GoF Try.prog) n R (stats_Most_J17 (GoF Try.prog) n R)) [.map F, .func (Fn.func 22) [] [.ptr (a + 2) 0, .ptr (a + 4) 0], .int .i64 (bestF l k), .int .i64 (cnt l k), v, .int .i64 l.length, .int .i64 k] o := by
  intro m
  induction m with
  | zero => intro k o l4 h; omega
  | succ m ih =>
    intro k o l4 hm hk hg hs
    rw [lp_succ]
    refine ⟨_, _, _, _, _, _, _, _, rfl, ?_⟩
    have hv' := hv.gr hg
    have hmx := Evs.max hv'
    have hln := Evs.len hv'
    rw [cnd_dec]
    split
    · have hkl : k < l.length := by omega
      have hek := at_ok hok hkl
      obtain ⟨o1, h1, g1, c1⟩ := ev_copy (o := o) hek
      refine ⟨⟨by omega, by omega⟩, _, _, _, _, _, _, _, _, Evs.ld hv' hkl, bnd_of rfl ⟨hek.2.1, hek.2.2.2, o1, h1, ?_⟩⟩
      refine ⟨rfl, _, cell_ld c1 1, ?_⟩
      have hlt : a + 4 < o.length := getElem?_lt hs.he
      refine run_of (w := whoOf l k) (hg.trans g1) (hs.gr g1) hFa ha fun o2 l4' id g2 hs2 hw fr => ?_
      have c2 : o2[o.length]? = some (.cells true (eEv (at' l k))) := by rw [fr.2 _ (by omega) (getElem?_lt c1)]; exact c1
      obtain ⟨es, he1, he2⟩ := (hs2.m _ _ hw).len
      refine ⟨es, he1, ?_⟩
      rw [jp_eq, he2]
      refine ⟨rfl, _, cell_ld c2 0, ?_⟩
      have j61 : ∀ o', Gr o0 o' → MS l (k + 1) F a l3 o' l4' → stats_Most_J61 (GoF Try.prog) n R (lp m (stats_Most_L69 (GoF Try.prog) n R (stats_Most_J17 (GoF Try.prog) n R)))
          [.map F, .func (Fn.func 22) [] [.ptr (a + 2) 0, .ptr (a + 4) 0], .int .i64 (bestF l k), .int .i64 (cnt l k), .map id, .int .i64 (((lst l k (whoOf l k)).length : Nat) : Int), v, .int .i64 l.length, .int .i64 k] o' := by
        intro o' g' hs'
        obtain ⟨es', he1', he2'⟩ := (hs'.m _ _ hw).len
        refine ⟨_, _, _, _, _, _, _, _, _, _, rfl, es', he1', ?_⟩
        have s1 := cnt_step l k
        have s2 := cnt_le l k
        have s3 := cnt_le l (k + 1)
        have s4 := lst_le l k (whoOf l k)
        have s5 := lst_le l (k + 1) (whoOf l k)
        rw [he2']
        have w1 : IntKind.wrap .i64 (((lst l (k + 1) (whoOf l k)).length : Int) - ((lst l k (whoOf l k)).length : Int)) = ((lst l (k + 1) (whoOf l k)).length : Int) - ((lst l k (whoOf l k)).length : Int) := wrap_id (by omega) (by omega)
        refine bnd_of w1 ?_
        refine bnd_of (y := (cnt l (k + 1) : Int)) (by rw [wrap_id (by omega) (by omega)]; omega) ?_
        refine bnd_of (y := bestF l (k + 1)) rfl ?_
        exact bnd_of (y := ((k + 1 : Nat) : Int)) (by rw [wrap_id (by omega) (by omega)]; omega) (ih (k + 1) o' l4' (by omega) (by omega) g' hs')
      have hid : o0.length ≤ id := by have := W_ge hs2 hw; omega
      rw [cnd_beq]
      split
      · rename_i e0
        have hask : isAsk l k = true := by simp [isAsk, e0]
        obtain ⟨x, hu, mu⟩ := (hs2.m _ _ hw).update keyInt und55 ((k : Nat) : Int) true
        refine ⟨_, hu, j61 _ (g2.set hid _) (hs2.step hFa hw ?_)⟩
        rw [lst_ask hask]; exact mu
      · rename_i e0
        have hask : isAsk l k = false := by simp [isAsk, e0]
        rw [cnd_beq]
        split
        · rename_i e1
          have hend : isEnd l k = true := by simp [isEnd, e1]
          have lk := hs2.hF.lookup keyInt und52 z3 ((k : Nat) : Int)
          rw [hf.2] at lk
          cases hf' : askedF l k with
          | none =>
            rw [hf'] at lk
            refine ⟨_, _, lk, ?_⟩
            rw [cnd_false]
            exact j61 o2 g2 (hs2.stay (lst_end_no hend fun f h => by rw [hf'] at h; cases h))
          | some f =>
            rw [hf'] at lk
            have hfk := (asked_iff.1 hf').1
            by_cases hen : endAt l f l.length = some k
            · simp only [hen, and_true, if_pos (show f < l.length by omega)] at lk
              refine ⟨_, _, lk, ?_⟩
              rw [cnd_true]
              obtain ⟨o3, hd, ⟨x, rfl⟩, md⟩ := (hs2.m _ _ hw).delete keyInt und55 ((f : Nat) : Int)
              refine ⟨_, hd, j61 _ (g2.set hid _) (hs2.step hFa hw ?_)⟩
              rw [lst_end hend hf' hen]; exact md
            · simp only [hen, and_false, if_false] at lk
              refine ⟨_, _, lk, ?_⟩
              rw [cnd_false]
              exact j61 o2 g2 (hs2.stay (lst_end_no hend fun g h => by rw [hf'] at h; cases h; exact hen))
        · rename_i e1
          have hend : isEnd l k = false := by simp [isEnd, e1]
          rw [cnd_beq]
          split
          · rename_i e2
            have hfell : isFell l k = true := by simp [isFell, e2]
            obtain ⟨x, hc, mc⟩ := (hs2.m _ _ hw).clear und55
            refine ⟨_, hc, j61 _ (g2.set hid _) (hs2.step hFa hw ?_)⟩
            rw [lst_fell hfell]; exact mc
          · rename_i e2
            have hfell : isFell l k = false := by simp [isFell, e2]
            exact j61 o2 g2 (hs2.stay (lst_none hask hend hfell))
    · have : k = l.length := by omega
      subst this
      exact ⟨_, rfl, hR o hg⟩
end
theorem push_at (o : OS) (x : AO) : (o ++ [x])[o.length]? = some x := by simp
theorem run_Most {o : OS} {v : AV} {l : List Ev} {K : AV → OS → Prop} (h : Evs o v l) (hok : ∀ e ∈ l, e.ok) (hl : l.length ≤ 65535) (hK : ∀ o', Gr o o' → K (.int .i64 (bestF l l.length)) o') : Go Try.prog n_stats_Most [v] o K := by
  refine stats_Most_go (l.length + 1) ?_
  unfold stats_Most
  refine run_pairs h hok fun o1 B l2 g1 mB hB hq => bnd_of rfl ?_
  rw [jp_eq]
  refine ⟨h.isS, ?_⟩
  rw [Evs.len h]
  have hB' : B < o1.length := by obtain ⟨es, c, q, _⟩ := mB; exact getElem?_lt q
  refine from_loop (o0 := o1) hl hq (Nat.le_refl _) (by omega) (fun o2 l3 g2 m3 hf => ?_) _ 0 _ [] (by omega) (by omega) ((Gr.refl o1).push _) (mB.gr ((Gr.refl o1).push _)) (Mp.new o1) ⟨KeysND.nil, fun t => by cases askedF l t <;> simp [getK, findK]⟩
  refine ⟨_, _, rfl, ?_⟩
  have hF : o1.length < o2.length := by obtain ⟨es, c, q, _⟩ := m3; exact getElem?_lt q
  refine bnd_of rfl (bnd_of rfl ⟨rfl, rfl, bnd_of rfl ⟨rfl, rfl, ?_⟩⟩)
  -- the maps of 0, 1
  have a1 : (o2 ++ [AO.map [] 0])[o2.length]? = some (.map [] 0) := push_at _ _
  have a2 : (o2 ++ [AO.map [] 0]).length = o2.length + 1 := by simp
  have a3 : Gr o2 (o2 ++ [AO.map [] 0]) := (Gr.refl o2).push _
  generalize (o2 ++ [AO.map [] 0]) = o3 at a1 a2 a3 ⊢
  have b1 : (o3 ++ [AO.map [] 0])[o3.length]? = some (.map [] 0) := push_at _ _
  have b2 : (o3 ++ [AO.map [] 0]).length = o3.length + 1 := by simp
  have b3 : Gr o3 (o3 ++ [AO.map [] 0]) := (Gr.refl o3).push _
  generalize (o3 ++ [AO.map [] 0]) = o4 at b1 b2 b3 ⊢
  have s4 : stO (AV.ptr o4.length 0) [.map o2.length, .map o3.length] (o4 ++ [AO.cells true [.nilmap, .nilmap]]) = some ((o4 ++ [AO.cells true [.nilmap, .nilmap]]).set o4.length (.cells true [.map o2.length, .map o3.length])) := by simp [stO, splice]
  refine ⟨_, s4, ?_⟩
  have c1 : ((o4 ++ [AO.cells true [AV.nilmap, .nilmap]]).set o4.length (.cells true [.map o2.length, .map o3.length]))[o4.length]? = some (.cells true [.map o2.length, .map o3.length]) := by rw [List.getElem?_set_self (by simp)]
  have c2 : ((o4 ++ [AO.cells true [AV.nilmap, .nilmap]]).set o4.length (.cells true [.map o2.length, .map o3.length])).length = o4.length + 1 := by simp
  have c3 : Gr o4 ((o4 ++ [AO.cells true [AV.nilmap, .nilmap]]).set o4.length (.cells true [.map o2.length, .map o3.length])) := ((Gr.refl o4).push _).set (Nat.le_refl _) _
  clear s4
  generalize ((o4 ++ [AO.cells true [AV.nilmap, .nilmap]]).set o4.length (.cells true [.map o2.length, .map o3.length])) = o5 at c1 c2 c3 ⊢
  refine bnd_of rfl (bnd_of rfl ⟨rfl, ?_⟩)
  have d1 : (o5 ++ [AO.map [] 0])[o5.length]? = some (.map [] 0) := push_at _ _
  have d2 : (o5 ++ [AO.map [] 0]).length = o5.length + 1 := by simp
  have d3 : Gr o5 (o5 ++ [AO.map [] 0]) := (Gr.refl o5).push _
  generalize (o5 ++ [AO.map [] 0]) = o6 at d1 d2 d3 ⊢
  have s6 : stO (AV.ptr o6.length 0) [.map o5.length] (o6 ++ [AO.cells true [.nilmap]]) = some ((o6 ++ [AO.cells true [.nilmap]]).set o6.length (.cells true [.map o5.length])) := by simp [stO, splice]
  refine ⟨_, s6, ?_⟩
  have e1 : ((o6 ++ [AO.cells true [AV.nilmap]]).set o6.length (.cells true [.map o5.length]))[o6.length]? = some (.cells true [.map o5.length]) := by rw [List.getElem?_set_self (by simp)]
  have e3 : Gr o6 ((o6 ++ [AO.cells true [AV.nilmap]]).set o6.length (.cells true [.map o5.length])) := ((Gr.refl o6).push _).set (Nat.le_refl _) _
  clear s6
  generalize ((o6 ++ [AO.cells true [AV.nilmap]]).set o6.length (.cells true [.map o5.length])) = o7 at e1 e3 ⊢
  rw [jp_eq]
  refine ⟨h.isS, ?_⟩
  rw [Evs.len h]
  have f3 : o3.length = o2.length + 1 := a2
  have f4 : o4.length = o2.length + 2 := by omega
  have f5 : o5.length = o2.length + 3 := by omega
  have f6 : o6.length = o2.length + 4 := by omega
  rw [f4, f6]
  rw [f4, f3] at c1
  rw [f6, f5] at e1
  rw [f5] at d1
  rw [f3] at b1
  have G : Gr o o7 := ((((g1.trans g2).trans a3).trans b3).trans c3).trans (d3.trans e3)
  have g57 := d3.trans e3
  have g47 := c3.trans g57
  have g37 := b3.trans g47
  have g27 := a3.trans g37
  refine most_loop (o0 := o) (l3 := l3) h hok hl hF (by have := (g1.trans g2).len; omega) hf (fun o' g => rt_in (hK o' g)) _ 0 o7 [] (by omega) (by omega) G ?_
  refine ⟨m3.gr g27, g57 _ _ c1, e1, ⟨[], 0, e3 _ _ d1, rfl⟩, KeysND.nil, fun w id hw => by simp [getK, findK] at hw, fun w w' id hw => by simp [getK, findK] at hw, fun w id hw => by simp [getK, findK] at hw, fun w id hw => ?_, fun w _ => rfl⟩
  unfold W at hw
  split at hw
  · cases hw; exact ⟨[], 0, g37 _ _ a1, rfl⟩
  · split at hw
    · cases hw; exact ⟨[], 0, g47 _ _ b1, rfl⟩
    · simp [getK, findK] at hw
end Go.Proofs.Ytlcapliakfomhaa
