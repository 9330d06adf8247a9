/- Of the stats' functions: what each computes (7): pairs; the waits. -/
import Derived.Test.YtlcapliakfomhaaS11
set_option linter.all false
namespace Go.Proofs.Ytlcapliakfomhaa
open Go Go.Ab
def eKey (k : Int × Int) : AV := .agg [.int .i64 k.1, .int .i64 k.2]
theorem key_eq (a b c d : Int) : eqA Try.prog eqDeep 65 (.agg [.int .i64 a, .int .i64 b]) (.agg [.int .i64 c, .int .i64 d]) = (match (some (a == c) : Option Bool) with | some true => (match (some (b == d) : Option Bool) with | some true => some true | r => r) | r => r) := by kernel_rfl
theorem keyPair : KeyEnc Try.prog 65 (Int × Int) eKey where
  eq a b := by
    obtain ⟨a1, a2⟩ := a
    obtain ⟨b1, b2⟩ := b
    rw [eKey, eKey, key_eq]
    by_cases h1 : a1 = b1 <;> by_cases h2 : a2 = b2 <;> simp [h1, h2]
  ok a := by
    obtain ⟨a1, a2⟩ := a
    have : ∀ a b : Int, keyOk Try.prog eqDeep 65 (.agg [.int .i64 a, .int .i64 b]) = true := fun a b => by kernel_rfl
    exact this a1 a2
  same a := by simp [eKey, sameA, flatSame]
theorem keyInt : KeyEnc Try.prog 3 Int eKI := KeyEnc.int (by kernel_rfl)
theorem und52 : Try.prog.underlying 52 = some (.map 3 3) := by kernel_rfl
theorem und63 : Try.prog.underlying 63 = some (.map 65 3) := by kernel_rfl
theorem z3 : (Try.prog.info? 3).bind (·.zero) = some (.int .i64 0) := by kernel_rfl
def toV : Option Nat → Option Int := Option.map fun n => (n : Int)
def AskM (l : List Ev) (k : Nat) (l1 : List ((Int × Int) × Int)) : Prop := KeysND l1 ∧ ∀ q, getK q l1 = toV (firstQ l q k)
def EndM (l : List Ev) (k : Nat) (l2 : List (Int × Int)) : Prop := KeysND l2 ∧ ∀ f : Nat, getK (f : Int) l2 = toV (endAt l f k)
theorem AskM.skip {l : List Ev} {k : Nat} {l1 : List ((Int × Int) × Int)} (h : AskM l k l1) (hn : isAsk l k = true → askedF l k ≠ none) : AskM l (k + 1) l1 := by
  refine ⟨h.1, fun q => ?_⟩
  rw [h.2, firstQ_succ]
  cases hq : firstQ l q k with
  | some i => rfl
  | none =>
    cases ha : isAsk l k with
    | false => simp
    | true =>
      have : ¬ (((at' l k).who == q.1) && ((at' l k).ticket == q.2)) = true := by
        intro e
        simp only [Bool.and_eq_true, beq_iff_eq] at e
        apply hn ha
        rw [← firstQ_asked]
        have : keyOf l k = q := by rw [keyOf, e.1, e.2]
        rw [this, hq]
      simp [this]
theorem AskM.put {l : List Ev} {k : Nat} {l1 : List ((Int × Int) × Int)} (h : AskM l k l1) (ha : isAsk l k = true) (hn : askedF l k = none) : AskM l (k + 1) (putK (keyOf l k) (k : Int) l1) := by
  have hg : getK (keyOf l k) l1 = none := by rw [h.2, firstQ_asked, hn]; rfl
  rw [putK_new hg]
  refine ⟨h.1.snoc hg, fun q => ?_⟩
  rw [getK_snoc h.1 hg, firstQ_succ, h.2]
  by_cases e : q = keyOf l k
  · subst e
    rw [if_pos rfl, firstQ_asked, hn]
    simp [ha, keyOf, toV]
  · rw [if_neg e]
    have : ¬ (((at' l k).who == q.1) && ((at' l k).ticket == q.2)) = true := by
      intro e'
      simp only [Bool.and_eq_true, beq_iff_eq] at e'
      exact e (by rw [keyOf, e'.1, e'.2])
    cases firstQ l q k <;> simp [this]
theorem EndM.skip {l : List Ev} {k : Nat} {l2 : List (Int × Int)} (h : EndM l k l2) (hn : ∀ f, isEnd l k = true → askedF l k = some f → endAt l f k ≠ none) : EndM l (k + 1) l2 := by
  refine ⟨h.1, fun f => ?_⟩
  rw [h.2, endAt_succ]
  cases he : endAt l f k with
  | some i => rfl
  | none =>
    have : ¬ (isEnd l k && (askedF l k == some f)) = true := by
      intro e
      simp only [Bool.and_eq_true, beq_iff_eq] at e
      exact hn f e.1 e.2 he
    simp [this]
theorem EndM.put {l : List Ev} {k f : Nat} {l2 : List (Int × Int)} (h : EndM l k l2) (hk : isEnd l k = true) (ha : askedF l k = some f) (hn : endAt l f k = none) : EndM l (k + 1) (putK (f : Int) (k : Int) l2) := by
  have hg : getK (f : Int) l2 = none := by rw [h.2, hn]; rfl
  rw [putK_new hg]
  refine ⟨h.1.snoc hg, fun g => ?_⟩
  rw [getK_snoc h.1 hg, endAt_succ, h.2]
  by_cases e : g = f
  · subst e
    rw [if_pos rfl, hn]
    simp [hk, ha, toV]
  · have e2 : ¬ ((g : Nat) : Int) = (f : Int) := by omega
    rw [if_neg e2]
    have : ¬ (isEnd l k && (askedF l k == some g)) = true := by
      intro e'
      simp only [Bool.and_eq_true, beq_iff_eq] at e'
      rw [ha] at e'
      exact e (Option.some.inj e'.2).symm
    cases endAt l g k <;> simp [this]
theorem mp_ne {κ ν : Type} {ek : κ → AV} {ev : ν → AV} {o : OS} {a b : Nat} {x : AO} {l : List (κ × ν)} (h : Mp ek ev o a l) (hne : b ≠ a) : Mp ek ev (o.set b x) a l := by
  obtain ⟨es, c, h1, h2⟩ := h
  exact ⟨es, c, by rw [List.getElem?_set_ne hne]; exact h1, h2⟩
section
variable {o0 : OS} {v : AV} {l : List Ev} {n A B : Nat} {R : AV → OS → Prop}
theorem pairs_loop (hv : Evs o0 v l) (hok : ∀ e ∈ l, e.ok) (hA : o0.length ≤ A) (hB : o0.length ≤ B) (hAB : A ≠ B) (hR : ∀ o l2, Gr o0 o → Mp eKI eKI o B l2 → EndM l l.length l2 → R (.map B) o) :
    ∀ (m k : Nat) (o : OS) (l1 : List ((Int × Int) × Int)) (l2 : List (Int × Int)), l.length - k < m → k ≤ l.length → Gr o0 o → Mp eKey eKI o A l1 → Mp eKI eKI o B l2 → AskM l k l1 → EndM l k l2 →
    lp m (stats_pairs_L80 (GoF Try.prog) n R (stats_pairs_J7 (GoF Try.prog) n R)) [.map A, .map B, v, .int .i64 l.length, .int .i64 k] o := by
  intro m
  induction m with
  | zero => intro k o l1 l2 h; omega
  | succ m ih =>
    intro k o l1 l2 hm hk hg h1 h2 hq1 hq2
    rw [lp_succ]
    refine ⟨_, _, _, _, _, rfl, ?_⟩
    have hv' := hv.gr hg
    have hmx := Evs.max hv'
    have hln := Evs.len hv'
    rw [cnd_dec]
    split
    · have hkl : k < l.length := by omega
      rw [jp_eq]
      have hek := at_ok hok hkl
      obtain ⟨o1, s1, g1, c1⟩ := ev_copy (o := o) hek
      refine ⟨⟨by omega, by omega⟩, _, _, _, _, _, _, _, _, Evs.ld hv' hkl, bnd_of rfl ⟨hek.2.1, hek.2.2.2, o1, s1, ?_⟩⟩
      refine ⟨rfl, _, cell_ld c1 1, rfl, _, cell_ld c1 2, bnd_of rfl ?_⟩
      have s2 : stO (AV.ptr o1.length 0) [.int .i64 (at' l k).who, .int .i64 (at' l k).ticket] (o1 ++ [AO.cells true [.int .i64 (0 : Int), .int .i64 (0 : Int)]]) = some ((o1 ++ [AO.cells true [.int .i64 (0 : Int), .int .i64 (0 : Int)]]).set o1.length (.cells true [.int .i64 (at' l k).who, .int .i64 (at' l k).ticket])) := by
        simp [stO, splice]
      have g2 : Gr o1 ((o1 ++ [AO.cells true [.int .i64 (0 : Int), .int .i64 (0 : Int)]]).set o1.length (.cells true [.int .i64 (at' l k).who, .int .i64 (at' l k).ticket])) := ((Gr.refl o1).push _).set (Nat.le_refl _) _
      have c2 : ((o1 ++ [AO.cells true [.int .i64 (0 : Int), .int .i64 (0 : Int)]]).set o1.length (.cells true [.int .i64 (at' l k).who, .int .i64 (at' l k).ticket]))[o1.length]? = some (.cells true [.int .i64 (at' l k).who, .int .i64 (at' l k).ticket]) := by
        rw [List.getElem?_set_self (by simp)]
      refine ⟨_, s2, ?_⟩
      generalize (o1 ++ [AO.cells true [AV.int .i64 (0 : Int), .int .i64 (0 : Int)]]).set o1.length (.cells true [.int .i64 (at' l k).who, .int .i64 (at' l k).ticket]) = o2 at g2 c2 ⊢
      have g02 := hg.trans (g1.trans g2)
      have d2 : ldO true 2 (AV.ptr o1.length 0) o2 = some (.agg [.int .i64 (at' l k).who, .int .i64 (at' l k).ticket]) := by simp [ldO, c2]
      refine ⟨_, _, d2, ?_⟩
      have m1 := (h1.gr g1).gr g2
      have m2 := (h2.gr g1).gr g2
      have c1' := g2 _ _ c1
      have j25 : ∀ o' l1' l2', Gr o0 o' → Mp eKey eKI o' A l1' → Mp eKI eKI o' B l2' → AskM l (k + 1) l1' → EndM l (k + 1) l2' →
          stats_pairs_J25 (GoF Try.prog) n R (lp m (stats_pairs_L80 (GoF Try.prog) n R (stats_pairs_J7 (GoF Try.prog) n R))) [.map A, .map B, v, .int .i64 l.length, .int .i64 k] o' := by
        intro o' l1' l2' a b c d e
        refine ⟨_, _, _, _, _, rfl, bnd_of (y := ((k + 1 : Nat) : Int)) (by rw [wrap_id (by omega) (by omega)]; omega) (ih (k + 1) o' l1' l2' (by omega) (by omega) a b c d e)⟩
      have lk := m1.lookup keyPair und63 z3 (keyOf l k)
      rw [hq1.2, firstQ_asked] at lk
      have stay1 : (isAsk l k = true → askedF l k ≠ none) → (∀ f, isEnd l k = true → askedF l k = some f → endAt l f k ≠ none) →
          stats_pairs_J25 (GoF Try.prog) n R (lp m (stats_pairs_L80 (GoF Try.prog) n R (stats_pairs_J7 (GoF Try.prog) n R))) [.map A, .map B, v, .int .i64 l.length, .int .i64 k] o2 :=
        fun a b => j25 o2 l1 l2 g02 m1 m2 (hq1.skip a) (hq2.skip b)
      -- what comes behind the first test
      have behind : ∀ (x : Int) (b : Bool), toV (askedF l k) = (if b then some x else none) → (isAsk l k = true → b = true) →
          stats_pairs_J77 (GoF Try.prog) n R (stats_pairs_J25 (GoF Try.prog) n R (lp m (stats_pairs_L80 (GoF Try.prog) n R (stats_pairs_J7 (GoF Try.prog) n R)))) [.map A, .map B, .int .i64 k, .ptr o.length 0, .ptr o1.length 0, .int .i64 x, .bool b, v, .int .i64 l.length, .int .i64 k, .bool false] o2 := by
        intro x b hx hnask
        refine ⟨_, _, _, _, _, _, _, _, _, _, _, rfl, ?_⟩
        rw [cnd_false, jp_eq]
        refine ⟨rfl, _, cell_ld c1' 0, ?_⟩
        have asks : isAsk l k = true → askedF l k ≠ none := by
          intro ha hn
          rw [hnask ha, hn] at hx; cases hx
        have j74 : ∀ c : Bool, c = (isEnd l k && b) →
            stats_pairs_J74 (GoF Try.prog) n R (stats_pairs_J25 (GoF Try.prog) n R (lp m (stats_pairs_L80 (GoF Try.prog) n R (stats_pairs_J7 (GoF Try.prog) n R)))) [.map A, .map B, .int .i64 k, .int .i64 x, v, .int .i64 l.length, .int .i64 k, .bool c] o2 := by
          intro c hc
          refine ⟨_, _, _, _, _, _, _, _, rfl, ?_⟩
          cases c with
          | false =>
            rw [cnd_false]
            refine stay1 asks fun f he hf => ?_
            rw [he] at hc
            have hb : b = false := by simpa using hc.symm
            rw [hb, hf] at hx; cases hx
          | true =>
            rw [cnd_true]
            have hc' := hc.symm
            rw [Bool.and_eq_true] at hc'
            obtain ⟨he, hb⟩ := hc'
            subst hb
            rw [if_pos rfl] at hx
            cases hf : askedF l k with
            | none => rw [hf] at hx; cases hx
            | some f =>
              rw [hf] at hx
              obtain rfl : ((f : Nat) : Int) = x := by simpa [toV] using hx
              have lk2 := m2.lookup keyInt und52 z3 ((f : Nat) : Int)
              rw [hq2.2] at lk2
              cases hen : endAt l f k with
              | some i =>
                rw [hen] at lk2
                refine ⟨_, _, lk2, ?_⟩
                rw [Bool.not_true, cnd_false]
                refine stay1 asks fun g he' hg' => ?_
                rw [hf] at hg'
                cases hg'
                rw [hen]; simp
              | none =>
                rw [hen] at lk2
                refine ⟨_, _, lk2, ?_⟩
                rw [Bool.not_false, cnd_true]
                obtain ⟨x, hu, mu⟩ := m2.update keyInt und52 ((f : Nat) : Int) ((k : Nat) : Int)
                refine ⟨_, hu, ?_⟩
                exact j25 _ l1 _ (g02.set hB _) (mp_ne m1 (fun e => hAB e.symm)) mu (hq1.skip asks) (hq2.put he hf hen)
        rw [cnd_beq]
        split
        · rename_i e1
          exact j74 b (by simp [isEnd, e1])
        · rename_i e1
          exact j74 false (by simp [isEnd, e1])
      have test : ∀ (x : Int) (b : Bool), toV (askedF l k) = (if b then some x else none) → (cnd ((at' l k).kind == 0)
          (stats_pairs_J77 (GoF Try.prog) n R (stats_pairs_J25 (GoF Try.prog) n R (lp m (stats_pairs_L80 (GoF Try.prog) n R (stats_pairs_J7 (GoF Try.prog) n R)))) [.map A, .map B, .int .i64 k, .ptr o.length 0, .ptr o1.length 0, .int .i64 x, .bool b, v, .int .i64 l.length, .int .i64 k, .bool (!b)] o2)
          (stats_pairs_J77 (GoF Try.prog) n R (stats_pairs_J25 (GoF Try.prog) n R (lp m (stats_pairs_L80 (GoF Try.prog) n R (stats_pairs_J7 (GoF Try.prog) n R)))) [.map A, .map B, .int .i64 k, .ptr o.length 0, .ptr o1.length 0, .int .i64 x, .bool b, v, .int .i64 l.length, .int .i64 k, .bool false] o2)) := by
        intro x b hx
        rw [cnd_beq]
        split
        · rename_i e0
          cases b with
          | true => exact behind x true hx fun _ => rfl
          | false =>
            refine ⟨_, _, _, _, _, _, _, _, _, _, _, rfl, ?_⟩
            rw [Bool.not_false, cnd_true]
            obtain ⟨y, hu, mu⟩ := m1.update keyPair und63 (keyOf l k) ((k : Nat) : Int)
            refine ⟨_, _, d2, _, hu, ?_⟩
            have hn : askedF l k = none := by
              cases h : askedF l k with
              | none => rfl
              | some f => rw [h] at hx; cases hx
            have ha : isAsk l k = true := by simp [isAsk, e0]
            refine j25 _ _ l2 (g02.set hA _) mu (mp_ne m2 hAB) (hq1.put ha hn) (hq2.skip fun f _ hf => ?_)
            rw [hn] at hf; cases hf
        · rename_i e0
          refine behind x b hx fun ha => ?_
          simp [isAsk] at ha; exact absurd ha e0
      cases hf : askedF l k with
      | some f =>
        rw [hf] at lk
        refine ⟨_, _, lk, ?_⟩
        rw [jp_eq]
        exact ⟨rfl, _, cell_ld c1' 0, test _ true (by rw [hf]; rfl)⟩
      | none =>
        rw [hf] at lk
        refine ⟨_, _, lk, ?_⟩
        rw [jp_eq]
        exact ⟨rfl, _, cell_ld c1' 0, test _ false (by rw [hf]; rfl)⟩
    · have : k = l.length := by omega
      subst this
      refine ⟨_, _, rfl, ?_⟩
      obtain ⟨x, hc, _⟩ := h1.clear und63
      exact ⟨_, hc, hR _ l2 (hg.set hA _) (mp_ne h2 hAB) hq2⟩
end
theorem run_pairs {o : OS} {v : AV} {l : List Ev} {K : AV → OS → Prop} (h : Evs o v l) (hok : ∀ e ∈ l, e.ok) (hK : ∀ o' B l2, Gr o o' → Mp eKI eKI o' B l2 → o.length ≤ B → EndM l l.length l2 → K (.map B) o') : Go Try.prog n_stats_pairs [v] o K := by
  refine stats_pairs_go (l.length + 1) ?_
  unfold stats_pairs
  refine bnd_of rfl (bnd_of rfl ?_)
  rw [jp_eq]
  refine ⟨h.isS, ?_⟩
  rw [Evs.len h]
  have gA := (Gr.refl o).push [AO.map [] 0]
  have gB := gA.push [AO.map [] 0]
  refine pairs_loop h hok (Nat.le_refl _) (by simp) (by simp) (fun o' l2 g m e => rt_in (hK o' _ l2 g m (by simp) e)) _ 0 _ [] [] (by omega) (by omega) gB ((Mp.new o).gr ((Gr.refl _).push _)) (Mp.new _) ⟨KeysND.nil, fun q => rfl⟩ ⟨KeysND.nil, fun f => by rw [endAt_zero]; rfl⟩
end Go.Proofs.Ytlcapliakfomhaa
