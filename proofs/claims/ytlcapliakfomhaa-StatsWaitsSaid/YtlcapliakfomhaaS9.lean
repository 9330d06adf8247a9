/- Of the stats' functions: what each computes (4): events; few, raw; what was asked, and its end. -/
import Derived.Test.YtlcapliakfomhaaS1
import Derived.Test.YtlcapliakfomhaaAb29
set_option linter.all false
namespace Go.Proofs.Ytlcapliakfomhaa
open Go Go.Ab

structure Ev where
  kind : Int
  who : Int
  ticket : Int
  rk : Int
  off : Int
  len : Int
  rd : AV
  d : AV
instance : Inhabited Ev := ⟨⟨0, 0, 0, 0, 0, 0, .nilslice, .nilslice⟩⟩
def eEv (e : Ev) : List AV := [.int .i64 e.kind, .int .i64 e.who, .int .i64 e.ticket, .int .i64 e.rk, .int .i64 e.off, .int .i64 e.len, e.rd, e.d]
theorem eEv_len (e : Ev) : (eEv e).length = 8 := rfl
/-- Rows of bytes stand in an event. -/
def Ev.ok (e : Ev) : Prop := e.rd.isS = true ∧ e.rd.one = true ∧ e.d.isS = true ∧ e.d.one = true
abbrev Evs (o : OS) (v : AV) (l : List Ev) : Prop := Els eEv 8 o v l
def at' (l : List Ev) (i : Nat) : Ev := l.getD i default
theorem at_get {l : List Ev} {i : Nat} (h : i < l.length) : l[((i : Nat) : Int).toNat]? = some (at' l i) := by simp [at', h]
section
variable {o : OS} {v : AV} {l : List Ev}
theorem Evs.len (h : Els eEv 8 o v l) : alen v = (l.length : Int) := Els.len h eEv_len (by omega)
theorem Evs.max (h : Els eEv 8 o v l) : (l.length : Int) ≤ 9223372036854775807 := Els.max h eEv_len (by omega)
theorem Evs.ld (h : Els eEv 8 o v l) {i : Nat} (hi : i < l.length) : ldO true 8 (ixp 8 v (i : Int)) o = some (.agg (eEv (at' l i))) := Els.ld h eEv_len (by omega) (at_get hi) (by omega)
theorem Evs.k (h : Els eEv 8 o v l) {i : Nat} (hi : i < l.length) (k : Nat) (hk : k < 8) : ldO false 1 (padd k (ixp 8 v (i : Int))) o = (eEv (at' l i))[k]? := Els.ldk h eEv_len (at_get hi) (by omega) k hk
theorem Evs.isP (h : Els eEv 8 o v l) {i : Nat} (hi : i < l.length) : (ixp 8 v (i : Int)).isP = true := by
  have := Evs.len h
  cases v <;> simp [alen] at this <;> first | rfl | omega
end

/-! The first of some places. -/
def firstI (p : Nat → Bool) : Nat → Nat → Option Nat
  | _, 0 => none
  | a, n + 1 => if p a then some a else firstI p (a + 1) n
theorem firstI_some {p : Nat → Bool} : ∀ {a n i : Nat}, firstI p a n = some i ↔ (a ≤ i ∧ i < a + n ∧ p i = true ∧ ∀ j, a ≤ j → j < i → p j = false)
  | a, 0, i => by simp [firstI]; omega
  | a, n + 1, i => by
    unfold firstI
    by_cases h : p a = true
    · rw [if_pos h]
      simp only [Option.some.injEq]
      constructor
      · rintro rfl; exact ⟨Nat.le_refl _, by omega, h, fun j h1 h2 => by omega⟩
      · rintro ⟨h1, h2, h3, h4⟩
        rcases Nat.lt_or_ge a i with hlt | hge
        · rw [h4 a (Nat.le_refl _) hlt] at h; cases h
        · omega
    · rw [if_neg h, firstI_some]
      constructor
      · rintro ⟨h1, h2, h3, h4⟩
        refine ⟨by omega, by omega, h3, fun j hj1 hj2 => ?_⟩
        rcases Nat.eq_or_lt_of_le hj1 with rfl | hlt
        · simpa using h
        · exact h4 j (by omega) hj2
      · rintro ⟨h1, h2, h3, h4⟩
        have : a ≠ i := by rintro rfl; exact h h3
        exact ⟨by omega, by omega, h3, fun j hj1 hj2 => h4 j (by omega) hj2⟩
theorem firstI_none {p : Nat → Bool} : ∀ {a n : Nat}, firstI p a n = none ↔ ∀ j, a ≤ j → j < a + n → p j = false
  | a, 0 => by simp [firstI]; omega
  | a, n + 1 => by
    unfold firstI
    by_cases h : p a = true
    · rw [if_pos h]
      simp only [reduceCtorEq, false_iff]
      intro h2
      rw [h2 a (Nat.le_refl _) (by omega)] at h; cases h
    · rw [if_neg h, firstI_none]
      constructor
      · intro h2 j h3 h4
        rcases Nat.eq_or_lt_of_le h3 with rfl | hlt
        · simpa using h
        · exact h2 j (by omega) (by omega)
      · exact fun h2 j h3 h4 => h2 j (by omega) (by omega)
def toI : Option Nat → Int
  | some i => i
  | none => -1
/-- The same key: who, and the ticket. -/
def sameK (l : List Ev) (i j : Nat) : Bool := ((at' l i).who == (at' l j).who) && ((at' l i).ticket == (at' l j).ticket)
def isAsk (l : List Ev) (i : Nat) : Bool := (at' l i).kind == 0
def isEnd (l : List Ev) (i : Nat) : Bool := (at' l i).kind == 1
/-- The first that was asked under the key of a place, ahead of it. -/
def askedF (l : List Ev) (i : Nat) : Option Nat := firstI (fun j => isAsk l j && sameK l j i) 0 i
def endedF (l : List Ev) (f : Nat) : Option Nat := firstI (fun i => isEnd l i && (askedF l i == some f)) (f + 1) (l.length - (f + 1))
def openF (l : List Ev) : List Int := ((List.range l.length).filter fun i => isAsk l i && (endedF l i == none)).map fun (i : Nat) => (i : Int)
def endF (l : List Ev) (f : Nat) : Option Nat := if isAsk l f && (endedF l f == none) then none else firstI (fun i => isEnd l i && sameK l i f) (f + 1) (l.length - (f + 1))
theorem toI_eq {a : Option Nat} {n : Nat} : (toI a == (n : Int)) = (a == some n) := by
  cases a with
  | none => simp [toI]
  | some m =>
    by_cases h : m = n
    · simp [toI, h]
    · rw [Bool.eq_iff_iff]
      simp [toI]
      omega
theorem toI_neg {a : Option Nat} : decide (toI a < 0) = (a == none) := by
  cases a with
  | none => simp [toI]
  | some m =>
    have : ¬ ((m : Nat) : Int) < 0 := by omega
    simp [toI, this]

/-! Walks: asked, ended, open, in, end. -/
section
variable {o : OS} {v : AV} {l : List Ev} {n : Nat} {R : AV → OS → Prop}
theorem asked_loop (h : Evs o v l) {i : Nat} (hi : i < l.length) (hR : R (.int .i64 (toI (askedF l i))) o) : ∀ (m k : Nat), i - k < m → k ≤ i → askedF l i = firstI (fun j => isAsk l j && sameK l j i) k (i - k) →
    lp m (twainref36_asked_L24 (GoF Try.prog) n R (twainref36_asked_J2 (GoF Try.prog) n R)) [v, .int .i64 i, .int .i64 k] o := by
  intro m
  induction m with
  | zero => intro k h; omega
  | succ m ih =>
    intro k hm hk he
    rw [lp_succ]
    refine ⟨_, _, _, rfl, ?_⟩
    have hmx := Evs.max h
    have hln := Evs.len h
    rw [cnd_dec]
    split
    · have hlt : k < i := by omega
      have hkl : k < l.length := by omega
      rw [show i - k = (i - (k + 1)) + 1 by omega, firstI] at he
      have fin : ∀ b : Bool, b = (isAsk l k && sameK l k i) → twainref36_asked_J17 (GoF Try.prog) n R (lp m (twainref36_asked_L24 (GoF Try.prog) n R (twainref36_asked_J2 (GoF Try.prog) n R))) [v, .int .i64 i, .int .i64 k, .bool b] o := by
        intro b hb
        refine ⟨_, _, _, _, rfl, ?_⟩
        cases b with
        | true =>
          rw [cnd_true]
          rw [if_pos hb.symm] at he
          rw [he] at hR
          exact hR
        | false =>
          rw [cnd_false]
          rw [if_neg (by rw [← hb]; simp)] at he
          exact bnd_of (y := ((k + 1 : Nat) : Int)) (by rw [wrap_id (by omega) (by omega)]; omega) (ih (k + 1) (by omega) (by omega) he)
      rw [jp_eq]
      have bk : 0 ≤ (k : Int) ∧ (k : Int) < alen v := ⟨by omega, by omega⟩
      have bi : 0 ≤ (i : Int) ∧ (i : Int) < alen v := ⟨by omega, by omega⟩
      refine ⟨bk, Evs.isP h hkl, _, Evs.k h hkl 0 (by omega), ?_⟩
      rw [cnd_beq]
      split
      · rename_i e0
        refine ⟨bk, Evs.isP h hkl, _, Evs.k h hkl 1 (by omega), bi, Evs.isP h hi, _, Evs.k h hi 1 (by omega), ?_⟩
        rw [cnd_beq]
        split
        · rename_i e1
          refine ⟨bk, Evs.isP h hkl, _, Evs.k h hkl 2 (by omega), bi, Evs.isP h hi, _, Evs.k h hi 2 (by omega), ?_⟩
          refine fin _ ?_
          simp [isAsk, sameK, e0, e1]
        · rename_i e1
          refine fin _ ?_
          simp [isAsk, sameK, e0, e1]
      · rename_i e0
        refine fin _ ?_
        simp [isAsk, e0]
    · have : i - k = 0 := by omega
      rw [this, firstI] at he
      rw [he] at hR
      exact ⟨rfl, hR⟩
end
theorem run_asked {o : OS} {v : AV} {l : List Ev} {i : Nat} {K : AV → OS → Prop} (h : Evs o v l) (hi : i < l.length) (hK : K (.int .i64 (toI (askedF l i))) o) : Go Try.prog n_twainref36_asked [v, .int .i64 i] o K := by
  refine twainref36_asked_go (i + 1) ?_
  unfold twainref36_asked
  rw [jp_eq]
  exact asked_loop h hi (rt_in hK) _ 0 (by omega) (by omega) rfl
section
variable {o : OS} {v : AV} {l : List Ev} {n : Nat} {R : AV → OS → Prop}
theorem ended_loop (h : Evs o v l) {f : Nat} (hR : R (.int .i64 (toI (endedF l f))) o) : ∀ (m k : Nat), l.length - k < m → k ≤ l.length → endedF l f = firstI (fun i => isEnd l i && (askedF l i == some f)) k (l.length - k) →
    lp m (twainref36_ended_L24 (GoF Try.prog) n R (twainref36_ended_J2 (GoF Try.prog) n R)) [v, .int .i64 f, .int .i64 k] o := by
  intro m
  induction m with
  | zero => intro k h; omega
  | succ m ih =>
    intro k hm hk he
    rw [lp_succ]
    have hmx := Evs.max h
    have hln := Evs.len h
    refine ⟨_, _, _, rfl, h.isS, ?_⟩
    rw [hln, cnd_dec]
    split
    · have hkl : k < l.length := by omega
      rw [show l.length - k = (l.length - (k + 1)) + 1 by omega, firstI] at he
      have fin : ∀ b : Bool, b = (isEnd l k && (askedF l k == some f)) → twainref36_ended_J18 (GoF Try.prog) n R (lp m (twainref36_ended_L24 (GoF Try.prog) n R (twainref36_ended_J2 (GoF Try.prog) n R))) [v, .int .i64 f, .int .i64 k, .bool b] o := by
        intro b hb
        refine ⟨_, _, _, _, rfl, ?_⟩
        cases b with
        | true =>
          rw [cnd_true]
          rw [if_pos hb.symm] at he
          rw [he] at hR
          exact hR
        | false =>
          rw [cnd_false]
          rw [if_neg (by rw [← hb]; simp)] at he
          exact bnd_of (y := ((k + 1 : Nat) : Int)) (by rw [wrap_id (by omega) (by omega)]; omega) (ih (k + 1) (by omega) (by omega) he)
      rw [jp_eq]
      refine ⟨⟨by omega, by omega⟩, Evs.isP h hkl, _, Evs.k h hkl 0 (by omega), ?_⟩
      rw [cnd_beq]
      split
      · rename_i e0
        refine run_asked h hkl ⟨_, rfl, ?_⟩
        refine fin _ ?_
        rw [toI_eq]
        simp [isEnd, e0]
      · rename_i e0
        refine fin _ ?_
        simp [isEnd, e0]
    · have : l.length - k = 0 := by omega
      rw [this, firstI] at he
      rw [he] at hR
      exact ⟨rfl, hR⟩
end
theorem run_ended {o : OS} {v : AV} {l : List Ev} {f : Nat} {K : AV → OS → Prop} (h : Evs o v l) (hf : f < l.length) (hK : K (.int .i64 (toI (endedF l f))) o) : Go Try.prog n_twainref36_ended [v, .int .i64 f] o K := by
  refine twainref36_ended_go (l.length + 1) ?_
  unfold twainref36_ended
  have hmx := Evs.max h
  rw [jp_eq]
  refine bnd_of (y := ((f + 1 : Nat) : Int)) (by rw [wrap_id (by omega) (by omega)]; omega) ?_
  exact ended_loop h (rt_in hK) _ (f + 1) (by omega) (by omega) rfl
/-- A copy of an event in a place of its own, as a loop makes one. -/
theorem ev_copy {o : OS} {e : Ev} (he : e.ok) : ∃ o', stO (AV.ptr o.length 0) (eEv e) (o ++ [AO.cells true [.int .i64 (0 : Int), .int .i64 (0 : Int), .int .i64 (0 : Int), .int .i64 (0 : Int), .int .i64 (0 : Int), .int .i64 (0 : Int), .nilslice, .nilslice]]) = some o' ∧
    Gr o o' ∧ o'[o.length]? = some (.cells true (eEv e)) := by
  refine ⟨(o ++ [AO.cells true [.int .i64 (0 : Int), .int .i64 (0 : Int), .int .i64 (0 : Int), .int .i64 (0 : Int), .int .i64 (0 : Int), .int .i64 (0 : Int), .nilslice, .nilslice]]).set o.length (.cells true (eEv e)), ?_, ((Gr.refl o).push _).set (Nat.le_refl _) _, ?_⟩
  · simp [stO, eEv, splice]
  · rw [List.getElem?_set_self (by simp)]
theorem cell_ld {o : OS} {id : Nat} {cs : List AV} {rw' : Bool} (h : o[id]? = some (.cells rw' cs)) (k : Nat) : ldO false 1 (padd k (AV.ptr id 0)) o = cs[k]? := by
  simp [padd, ldO, h]
theorem all_one_ev {e : Ev} (he : e.ok) : (eEv e).all AV.one = true := by
  simp [eEv, he.2.1, he.2.2.2]; simp [AV.one]

section
variable {o0 : OS} {v : AV} {l : List Ev} {n : Nat} {R : AV → OS → Prop}
theorem open_loop (hv : Evs o0 v l) (hok : ∀ e ∈ l, e.ok) (hl : l.length ≤ 65535) (hR : ∀ o w, Gr o0 o → Ints o w (openF l) → R w o) : ∀ (m k : Nat) (o : OS) (w : AV), l.length - k < m → k ≤ l.length →
    Acc o0 o w 1 ((((List.range k).filter fun i => isAsk l i && (endedF l i == none)).map fun i => ((i : Nat) : Int)).flatMap eInt) →
    lp m (twainref36_Open_L51 (GoF Try.prog) n R (twainref36_Open_J3 (GoF Try.prog) n R)) [v, w, v, .int .i64 l.length, .int .i64 k] o := by
  intro m
  induction m with
  | zero => intro k o w h; omega
  | succ m ih =>
    intro k o w hm hk ha
    rw [lp_succ]
    refine ⟨_, _, _, _, _, rfl, ?_⟩
    have hv' := hv.gr ha.1
    have hln := Evs.len hv'
    rw [cnd_dec]
    split
    · have hkl : k < l.length := by omega
      rw [jp_eq]
      have hek := hok (at' l k) (by simp [at', hkl])
      obtain ⟨o1, h1, g1, c1⟩ := ev_copy (o := o) hek
      refine ⟨⟨by omega, by omega⟩, _, _, _, _, _, _, _, _, Evs.ld hv' hkl, bnd_of rfl ⟨hek.2.1, hek.2.2.2, o1, h1, ?_⟩⟩
      rw [jp_eq]
      refine ⟨rfl, _, cell_ld c1 0, ?_⟩
      have ha1 := ha.gr g1
      have fin : ∀ b : Bool, b = (isAsk l k && (endedF l k == none)) → twainref36_Open_J45 (GoF Try.prog) n R (twainref36_Open_J21 (GoF Try.prog) n R (lp m (twainref36_Open_L51 (GoF Try.prog) n R (twainref36_Open_J3 (GoF Try.prog) n R)))) [v, w, .int .i64 k, v, .int .i64 l.length, .int .i64 k, .bool b] o1 := by
        intro b hb
        refine ⟨_, _, _, _, _, _, _, rfl, ?_⟩
        have e1 : IntKind.wrap .i64 ((k : Int) + 1) = ((k + 1 : Nat) : Int) := by rw [wrap_id (by omega) (by omega)]; omega
        have er : (List.range (k + 1)).filter (fun i => isAsk l i && (endedF l i == none)) = (List.range k).filter (fun i => isAsk l i && (endedF l i == none)) ++ (if b then [k] else []) := by
          rw [List.range_succ, List.filter_append, List.filter_cons, ← hb]
          cases b <;> rfl
        cases b with
        | true =>
          rw [cnd_true]
          refine bnd_of rfl ?_
          have hlen : ((((List.range k).filter fun i => isAsk l i && (endedF l i == none)).map fun i => ((i : Nat) : Int)).flatMap eInt).length ≤ k := by
            rw [flat_eInt]; simp
            have := List.length_filter_le (fun i => isAsk l i && (endedF l i == none)) (List.range k)
            simpa using this
          obtain ⟨w', o2, h2, ha2⟩ := ha1.app1 (b := 8) (new := [.int .i64 k]) rfl rfl (by omega) (by omega) (by omega)
          refine ⟨_, _, h2, ?_⟩
          refine ⟨_, _, _, _, _, rfl, bnd_of e1 (ih (k + 1) o2 w' (by omega) (by omega) ?_)⟩
          rw [er]
          simpa [eInt] using ha2
        | false =>
          rw [cnd_false]
          refine ⟨_, _, _, _, _, rfl, bnd_of e1 (ih (k + 1) o1 w (by omega) (by omega) ?_)⟩
          rw [er]
          simpa using ha1
      rw [cnd_beq]
      split
      · rename_i e0
        refine run_ended (hv'.gr g1) hkl ⟨_, rfl, ?_⟩
        refine fin _ ?_
        rw [toI_neg]
        simp [isAsk, e0]
      · rename_i e0
        refine fin _ ?_
        simp [isAsk, e0]
    · have : k = l.length := by omega
      subst this
      exact ⟨_, rfl, hR o w ha.1 ha.sl⟩
end
theorem run_Open {o : OS} {v : AV} {l : List Ev} {K : AV → OS → Prop} (h : Evs o v l) (hok : ∀ e ∈ l, e.ok) (hl : l.length ≤ 65535) (hK : ∀ o' w, Gr o o' → Ints o' w (openF l) → K w o') : Go Try.prog n_twainref36_Open [v] o K := by
  refine twainref36_Open_go (l.length + 1) ?_
  unfold twainref36_Open
  rw [jp_eq]
  refine ⟨h.isS, ?_⟩
  rw [Evs.len h]
  exact open_loop h hok hl (fun o w g hw => rt_in (hK o w g hw)) _ 0 o .nilslice (by omega) (by omega) (by simpa using Acc.nil o 1)
section
variable {o : OS} {v : AV} {l : List Int} {n : Nat} {R : AV → OS → Prop}
theorem in_loop (h : Ints o v l) {x : Int} (hR : R (.bool (decide (x ∈ l))) o) : ∀ (m k : Nat), l.length - k < m → k ≤ l.length → (x ∈ l ↔ x ∈ l.drop k) →
    lp m (twainref47_in_L13 (GoF Try.prog) n R (twainref47_in_J2 (GoF Try.prog) n R)) [.int .i64 x, v, .int .i64 l.length, .int .i64 k] o := by
  intro m
  induction m with
  | zero => intro k h; omega
  | succ m ih =>
    intro k hm hk he
    rw [lp_succ]
    refine ⟨_, _, _, _, rfl, ?_⟩
    have hmx := h.imax
    have hln := h.ilen
    rw [cnd_dec]
    split
    · have hkl : k < l.length := by omega
      refine ⟨⟨by omega, by omega⟩, _, h.ild (i := (k : Int)) (x := l[k]) (by simp [hkl]) (by omega), ?_⟩
      rw [List.drop_eq_getElem_cons hkl] at he
      rw [cnd_beq]
      split
      · rename_i e0
        have : decide (x ∈ l) = true := by simp [he, e0]
        rw [this] at hR; exact hR
      · rename_i e0
        refine bnd_of (y := ((k + 1 : Nat) : Int)) (by rw [wrap_id (by omega) (by omega)]; omega) (ih (k + 1) (by omega) (by omega) ?_)
        rw [he, List.mem_cons]
        exact ⟨fun h => h.resolve_left (fun h => e0 h.symm), .inr⟩
    · rw [List.drop_eq_nil_of_le (by omega)] at he
      have : decide (x ∈ l) = false := by simp [he]
      rw [this] at hR
      exact ⟨rfl, hR⟩
end
theorem run_in {o : OS} {v : AV} {l : List Int} {x : Int} {K : AV → OS → Prop} (h : Ints o v l) (hK : K (.bool (decide (x ∈ l))) o) : Go Try.prog n_twainref47_in [v, .int .i64 x] o K := by
  refine twainref47_in_go (l.length + 1) ?_
  unfold twainref47_in
  rw [jp_eq]
  refine ⟨h.isS, ?_⟩
  rw [h.ilen]
  exact in_loop h (rt_in hK) _ 0 (by omega) (by omega) (by simp)
section
variable {o : OS} {v : AV} {l : List Ev} {n : Nat} {R : AV → OS → Prop}
theorem end_loop (h : Evs o v l) {f : Nat} (hf : f < l.length) {r : Option Nat} (hR : R (.int .i64 (toI r)) o) : ∀ (m k : Nat), l.length - k < m → k ≤ l.length → r = firstI (fun i => isEnd l i && sameK l i f) k (l.length - k) →
    lp m (twainref47_end_L30 (GoF Try.prog) n R (twainref47_end_J7 (GoF Try.prog) n R)) [v, .int .i64 f, .int .i64 k] o := by
  intro m
  induction m with
  | zero => intro k h; omega
  | succ m ih =>
    intro k hm hk he
    rw [lp_succ]
    have hmx := Evs.max h
    have hln := Evs.len h
    refine ⟨_, _, _, rfl, h.isS, ?_⟩
    rw [hln, cnd_dec]
    split
    · have hkl : k < l.length := by omega
      rw [show l.length - k = (l.length - (k + 1)) + 1 by omega, firstI] at he
      have fin : ∀ b : Bool, b = (isEnd l k && sameK l k f) → twainref47_end_J23 (GoF Try.prog) n R (lp m (twainref47_end_L30 (GoF Try.prog) n R (twainref47_end_J7 (GoF Try.prog) n R))) [v, .int .i64 f, .int .i64 k, .bool b] o := by
        intro b hb
        refine ⟨_, _, _, _, rfl, ?_⟩
        cases b with
        | true =>
          rw [cnd_true]
          rw [if_pos hb.symm] at he
          rw [he] at hR
          exact hR
        | false =>
          rw [cnd_false]
          rw [if_neg (by rw [← hb]; simp)] at he
          exact bnd_of (y := ((k + 1 : Nat) : Int)) (by rw [wrap_id (by omega) (by omega)]; omega) (ih (k + 1) (by omega) (by omega) he)
      rw [jp_eq]
      have bk : 0 ≤ (k : Int) ∧ (k : Int) < (l.length : Int) := ⟨by omega, by omega⟩
      have bi : 0 ≤ (f : Int) ∧ (f : Int) < (l.length : Int) := ⟨by omega, by omega⟩
      refine ⟨bk, Evs.isP h hkl, _, Evs.k h hkl 0 (by omega), ?_⟩
      rw [cnd_beq]
      split
      · rename_i e0
        refine ⟨bk, Evs.isP h hkl, _, Evs.k h hkl 1 (by omega), bi, Evs.isP h hf, _, Evs.k h hf 1 (by omega), ?_⟩
        rw [cnd_beq]
        split
        · rename_i e1
          refine ⟨bk, Evs.isP h hkl, _, Evs.k h hkl 2 (by omega), bi, Evs.isP h hf, _, Evs.k h hf 2 (by omega), ?_⟩
          refine fin _ ?_
          simp [isEnd, sameK, e0, e1]
        · rename_i e1
          refine fin _ ?_
          simp [isEnd, sameK, e0, e1]
      · rename_i e0
        refine fin _ ?_
        simp [isEnd, e0]
    · have : l.length - k = 0 := by omega
      rw [this, firstI] at he
      rw [he] at hR
      exact ⟨rfl, hR⟩
end
theorem run_end {o : OS} {v : AV} {l : List Ev} {f : Nat} {K : AV → OS → Prop} (h : Evs o v l) (hok : ∀ e ∈ l, e.ok) (hl : l.length ≤ 65535) (hf : f < l.length) (hK : K (.int .i64 (toI (endF l f))) o) : Go Try.prog n_twainref47_end [v, .int .i64 f] o K := by
  refine twainref47_end_go (l.length + 1) ?_
  refine run_Open h hok hl fun o1 w g1 hw => ?_
  refine run_in hw ⟨_, rfl, ?_⟩
  have e : decide (((f : Nat) : Int) ∈ openF l) = (isAsk l f && (endedF l f == none)) := by
    have : ((f : Nat) : Int) ∈ openF l ↔ (isAsk l f && (endedF l f == none)) = true := by
      unfold openF
      simp only [List.mem_map, List.mem_filter, List.mem_range]
      constructor
      · rintro ⟨a, ⟨_, h2⟩, h3⟩
        have : a = f := by omega
        subst this; exact h2
      · exact fun h2 => ⟨f, ⟨hf, h2⟩, rfl⟩
    rw [Bool.eq_iff_iff, decide_eq_true_eq]; exact this
  rw [e]
  unfold endF at hK
  cases hb : (isAsk l f && (endedF l f == none)) with
  | true =>
    rw [hb, if_pos rfl] at hK
    rw [cnd_true]
    exact rt_old rfl g1 hK
  | false =>
    rw [hb, if_neg (by simp)] at hK
    rw [cnd_false, jp_eq]
    refine bnd_of (y := ((f + 1 : Nat) : Int)) (by rw [wrap_id (by omega) (by omega)]; omega) ?_
    exact end_loop (h.gr g1) hf (rt_old rfl g1 hK) _ (f + 1) (by omega) (by omega) rfl
end Go.Proofs.Ytlcapliakfomhaa
