/- The library's sort of whole numbers: what each of its functions computes (3): the partial insertion sort. -/
import Derived.Test.YtlcapliakfomhaaS4
set_option linter.all false
namespace Go.Proofs.Ytlcapliakfomhaa
open Go Go.Ab Go.Sort
section
variable {n : Nat} {R : AV → OS → Prop} {id cap kk : Nat} {o0 : OS} {a b : Nat}
abbrev pv (id : Nat) (d : Array Int) (cap kk a b i : Nat) (s : Int) : List AV := [sv id d cap kk, .int .i64 a, .int .i64 b, .int .i64 i, .int .i64 s]
theorem shift_up {i : Nat} {s : Int} {j22 : List AV → OS → Prop} : ∀ (m j : Nat) (d : Array Int) (o : OS), b - j < m → 1 ≤ j → b ≤ d.size → d.size ≤ 1152921504606846976 → GrX id o0 o → Row o id d →
    (∀ o', GrX id o0 o' → Row o' id (shiftUp ltInt b j d) → j22 (pv id d cap kk a b i s) o') →
    lp m (slices_partialInsertionSortOrdered_int_L68 (GoF Try.prog) n R j22) [sv id d cap kk, .int .i64 a, .int .i64 b, .int .i64 i, .int .i64 s, .int .i64 j] o := by
  intro m
  induction m with
  | zero => intro j d o h; omega
  | succ m ih =>
    intro j d o hm h1 hb hsz hg hr hK
    rw [lp_succ]
    refine ⟨_, _, _, _, _, _, rfl, ?_⟩
    rw [cnd_dec]
    rw [shiftUp] at hK
    split
    · rename_i hlt
      rw [if_pos (by omega)] at hK
      have e1 : IntKind.wrap .i64 ((j : Int) - 1) = ((j - 1 : Nat) : Int) := wn (by omega) (by omega)
      refine ⟨inb (by omega), _, hr.rd (by omega), bnd_of e1 ⟨inb (by omega), _, hr.rd (by omega), run_Less ⟨_, rfl, ?_⟩⟩⟩
      cases hl : ltInt d[j]! d[j - 1]! with
      | false =>
        rw [hl] at hK
        rw [cnd_not, cnd_false]
        exact hK o hg hr
      | true =>
        rw [hl] at hK
        rw [cnd_not, cnd_true]
        refine bnd_of e1 (bnd_of e1 ?_)
        refine swap_step hr (by omega) (by omega) fun o' g' r' => bnd_of (wn (n := j + 1) (by omega) (by omega)) ?_
        have := ih (j + 1) (swp d j (j - 1)) o' (by omega) (by omega) (by rw [size_swp]; omega) (by rw [size_swp]; omega) (hg.trans g') r' (by simpa only [pv, sv, size_swp, Bool.not_true, Bool.false_eq_true, if_false] using hK)
        simpa only [sv, size_swp] using this
    · rename_i hlt
      rw [if_neg (by omega)] at hK
      exact hK o hg hr
theorem shift_down {i : Nat} {s : Int} {j70 : List AV → OS → Prop} : ∀ (m j : Nat) (d : Array Int) (o : OS), j < m → j < d.size → d.size ≤ 1152921504606846976 → GrX id o0 o → Row o id d →
    (∀ o', GrX id o0 o' → Row o' id (shiftDown ltInt j d) → j70 (pv id d cap kk a b i s) o') →
    lp m (slices_partialInsertionSortOrdered_int_L95 (GoF Try.prog) n R j70) [sv id d cap kk, .int .i64 a, .int .i64 b, .int .i64 i, .int .i64 s, .int .i64 j] o := by
  intro m
  induction m with
  | zero => intro j d o h; omega
  | succ m ih =>
    intro j d o hm hj hsz hg hr hK
    rw [lp_succ]
    refine ⟨_, _, _, _, _, _, rfl, ?_⟩
    rw [cnd_dec]
    cases j with
    | zero =>
      rw [if_neg (by omega)]
      exact hK o hg hr
    | succ j =>
      rw [if_pos (by omega)]
      rw [shiftDown] at hK
      have e1 : IntKind.wrap .i64 (((j + 1 : Nat) : Int) - 1) = (j : Int) := wn (by omega) (by omega)
      refine ⟨inb (by omega), _, hr.rd (by omega), bnd_of e1 ⟨inb (by omega), _, hr.rd (by omega), run_Less ⟨_, rfl, ?_⟩⟩⟩
      cases hl : ltInt d[j + 1]! d[j]! with
      | false =>
        rw [hl] at hK
        rw [cnd_not, cnd_false]
        exact hK o hg hr
      | true =>
        rw [hl] at hK
        rw [cnd_not, cnd_true]
        refine bnd_of e1 (bnd_of e1 ?_)
        refine swap_step hr (by omega) (by omega) fun o' g' r' => bnd_of e1 ?_
        have := ih j (swp d (j + 1) j) o' (by omega) (by rw [size_swp]; omega) (by rw [size_swp]; omega) (hg.trans g') r' (by simpa only [pv, sv, size_swp, Bool.not_true, Bool.false_eq_true, if_false] using hK)
        simpa only [sv, size_swp] using this
theorem scan_sorted {d : Array Int} {o : OS} {s : Int} {J : List AV → OS → Prop} (hr : Row o id d) (hb : b ≤ d.size) (hsz : d.size ≤ 1152921504606846976) : ∀ (m i : Nat), b - i < m → 1 ≤ i →
    J (pv id d cap kk a b (scanSorted ltInt d b i) s) o → lp m (slices_partialInsertionSortOrdered_int_L123 (GoF Try.prog) n R J) (pv id d cap kk a b i s) o := by
  intro m
  induction m with
  | zero => intro i h; omega
  | succ m ih =>
    intro i hm hi hJ
    rw [lp_succ]
    rw [scanSorted] at hJ
    refine ⟨_, _, _, _, _, rfl, ?_⟩
    have fin : ∀ c : Bool, c = (decide (i < b) && !ltInt d[i]! d[i - 1]!) → slices_partialInsertionSortOrdered_int_J115 (GoF Try.prog) n R (lp m (slices_partialInsertionSortOrdered_int_L123 (GoF Try.prog) n R J)) J [sv id d cap kk, .int .i64 a, .int .i64 b, .int .i64 i, .int .i64 s, .bool c] o := by
      intro c hc
      refine ⟨_, _, _, _, _, _, rfl, ?_⟩
      cases c with
      | true =>
        rw [cnd_true]
        rw [if_pos hc.symm] at hJ
        simp at hc
        exact bnd_of (wn (n := i + 1) (by omega) (by omega)) (ih (i + 1) (by omega) (by omega) hJ)
      | false =>
        rw [cnd_false]
        rw [if_neg (by rw [← hc]; simp)] at hJ
        exact hJ
    rw [jp_eq, cnd_dec]
    split
    · refine ⟨inb (by omega), _, hr.rd (by omega), bnd_of (wn (n := i - 1) (by omega) (by omega)) ⟨inb (by omega), _, hr.rd (by omega), run_Less ⟨_, rfl, ?_⟩⟩⟩
      refine fin _ ?_
      rw [decide_eq_true (by omega), Bool.true_and]
    · refine fin _ ?_
      rw [decide_eq_false (by omega), Bool.false_and]
theorem scanSorted_le (d : Array Int) (b : Nat) : ∀ i, i ≤ b → scanSorted ltInt d b i ≤ b ∧ i ≤ scanSorted ltInt d b i := by
  intro i
  fun_induction scanSorted ltInt d b i with
  | case1 i h ih => intro hi; simp at h; have := ih (by omega); omega
  | case2 i h => intro hi; omega
theorem size_shiftUp (b : Nat) : ∀ (j : Nat) (d : Array Int), (shiftUp ltInt b j d).size = d.size := by
  intro j d
  fun_induction shiftUp ltInt b j d <;> simp_all [size_swp]
theorem size_shiftDown : ∀ (j : Nat) (d : Array Int), (shiftDown ltInt j d).size = d.size
  | 0, d => rfl
  | j + 1, d => by
    rw [shiftDown]
    split
    · rfl
    · rw [size_shiftDown j, size_swp]
theorem pins_loop (hn : b + 2 < n) : ∀ (m s i : Nat) (d : Array Int) (o : OS), s < m → s ≤ 5 → a < i → i ≤ b → b ≤ d.size → d.size ≤ 1152921504606846976 → d.size + 2 < n → GrX id o0 o → Row o id d →
    (∀ o', GrX id o0 o' → Row o' id (partialIns ltInt a b s i d).1 → R (.bool (partialIns ltInt a b s i d).2) o') →
    lp m (slices_partialInsertionSortOrdered_int_L124 (GoF Try.prog) n R (slices_partialInsertionSortOrdered_int_J3 (GoF Try.prog) n R)) (pv id d cap kk a b i (5 - (s : Int))) o := by
  intro m
  induction m with
  | zero => intro s i d o h; omega
  | succ m ih =>
    intro s i d o hm hs hai hib hb hsz hnn hg hr hK
    rw [lp_succ]
    refine ⟨_, _, _, _, _, rfl, ?_⟩
    rw [cnd_dec]
    cases s with
    | zero =>
      rw [if_neg (by omega)]
      exact ⟨rfl, hK o hg hr⟩
    | succ s =>
      rw [if_pos (by omega)]
      rw [jp_eq, jp_eq]
      rw [partialIns_succ] at hK
      simp only [fixUp, fixDown] at hK
      have hsc := scanSorted_le d b i hib
      refine scan_sorted hr hb hsz n i (by omega) (by omega) ?_
      generalize scanSorted ltInt d b i = i2 at hK hsc
      refine ⟨_, _, _, _, _, rfl, ?_⟩
      rw [cnd_beq]
      split
      · rename_i he
        rw [if_pos (by omega)] at hK
        exact hK o hg hr
      · rename_i he
        rw [if_neg (by omega)] at hK
        refine bnd_of (wn (n := b - a) (by omega) (by omega)) ?_
        rw [cnd_dec]
        split
        · rw [if_pos (by omega)] at hK
          exact hK o hg hr
        · rw [if_neg (by omega)] at hK
          refine bnd_of (wn (n := i2 - 1) (by omega) (by omega)) (bnd_of (wn (n := i2 - 1) (by omega) (by omega)) ?_)
          refine swap_step hr (by omega) (by omega) fun o1 g1 r1 => ?_
          have hs1 := size_swp d i2 (i2 - 1)
          have e1 : sv id d cap kk = sv id (swp d i2 (i2 - 1)) cap kk := by simp [sv, hs1]
          rw [e1]
          generalize swp d i2 (i2 - 1) = d1 at hK r1 hs1
          -- the next round
          have next : ∀ (d2 : Array Int) (o2 : OS), d2.size = d.size → GrX id o0 o2 → Row o2 id d2 → (∀ o', GrX id o0 o' → Row o' id (partialIns ltInt a b s i2 d2).1 → R (.bool (partialIns ltInt a b s i2 d2).2) o') →
              slices_partialInsertionSortOrdered_int_J21 (GoF Try.prog) n R (lp m (slices_partialInsertionSortOrdered_int_L124 (GoF Try.prog) n R (slices_partialInsertionSortOrdered_int_J3 (GoF Try.prog) n R))) (pv id d2 cap kk a b i2 (5 - ((s + 1 : Nat) : Int))) o2 := by
            intro d2 o2 hs2 g2 r2 hK
            refine ⟨_, _, _, _, _, rfl, ?_⟩
            refine bnd_of (y := 5 - (s : Int)) (by rw [wrap_id (by omega) (by omega)]; omega) ?_
            exact ih s i2 d2 o2 (by omega) (by omega) (by omega) (by omega) (by omega) (by omega) (by omega) g2 r2 hK
          -- up
          have up : ∀ (d2 : Array Int) (o2 : OS), d2.size = d.size → GrX id o0 o2 → Row o2 id d2 → (∀ o', GrX id o0 o' → Row o' id (partialIns ltInt a b s i2 (if b - i2 ≥ 2 then shiftUp ltInt b (i2 + 1) d2 else d2)).1 → R (.bool (partialIns ltInt a b s i2 (if b - i2 ≥ 2 then shiftUp ltInt b (i2 + 1) d2 else d2)).2) o') →
              slices_partialInsertionSortOrdered_int_J69 (GoF Try.prog) n R (slices_partialInsertionSortOrdered_int_J21 (GoF Try.prog) n R (lp m (slices_partialInsertionSortOrdered_int_L124 (GoF Try.prog) n R (slices_partialInsertionSortOrdered_int_J3 (GoF Try.prog) n R)))) (pv id d2 cap kk a b i2 (5 - ((s + 1 : Nat) : Int))) o2 := by
            intro d2 o2 hs2 g2 r2 hK
            refine ⟨_, _, _, _, _, rfl, ?_⟩
            refine bnd_of (wn (n := b - i2) (by omega) (by omega)) ?_
            rw [cnd_dec]
            split
            · rw [if_pos (by omega)] at hK
              refine bnd_of (wn (n := i2 + 1) (by omega) (by omega)) ?_
              refine shift_up (o0 := o0) n (i2 + 1) d2 o2 (by omega) (by omega) (by omega) (by omega) g2 r2 fun o3 g3 r3 => ?_
              have e : pv id d2 cap kk a b i2 (5 - ((s + 1 : Nat) : Int)) = pv id (shiftUp ltInt b (i2 + 1) d2) cap kk a b i2 (5 - ((s + 1 : Nat) : Int)) := by simp [pv, sv, size_shiftUp]
              rw [e]
              exact next _ o3 (by rw [size_shiftUp]; omega) g3 r3 hK
            · rw [if_neg (by omega)] at hK
              exact next _ o2 hs2 g2 r2 hK
          rw [jp_eq]
          refine bnd_of (wn (n := i2 - a) (by omega) (by omega)) ?_
          rw [cnd_dec]
          split
          · rw [if_pos (show i2 - a ≥ 2 by omega)] at hK
            refine bnd_of (wn (n := i2 - 1) (by omega) (by omega)) ?_
            refine shift_down (o0 := o0) n (i2 - 1) d1 o1 (by omega) (by omega) (by omega) (hg.trans g1) r1 fun o3 g3 r3 => ?_
            have e : pv id d1 cap kk a b i2 (5 - ((s + 1 : Nat) : Int)) = pv id (shiftDown ltInt (i2 - 1) d1) cap kk a b i2 (5 - ((s + 1 : Nat) : Int)) := by simp [pv, sv, size_shiftDown]
            rw [e]
            exact up _ o3 (by rw [size_shiftDown]; omega) g3 r3 hK
          · rw [if_neg (show ¬ i2 - a ≥ 2 by omega)] at hK
            exact up _ o1 hs1 (hg.trans g1) r1 hK
theorem run_pins {d : Array Int} {o : OS} {K : AV → OS → Prop} (hr : Row o id d) (hsz : d.size ≤ 1152921504606846976) (hab : a < b) (hb : b ≤ d.size)
    (hK : ∀ o', GrX id o o' → Row o' id (partialInsertionSort ltInt d a b).1 → K (.bool (partialInsertionSort ltInt d a b).2) o') :
    Go Try.prog n_slices_partialInsertionSortOrdered_int [sv id d cap kk, .int .i64 a, .int .i64 b] o K := by
  refine slices_partialInsertionSortOrdered_int_go (d.size + 8) ?_
  unfold slices_partialInsertionSortOrdered_int
  refine bnd_of (wn (n := a + 1) (by omega) (by omega)) ?_
  rw [jp_eq]
  have := pins_loop (R := rt o K) (n := d.size + 8) (id := id) (cap := cap) (kk := kk) (o0 := o) (a := a) (b := b) (by omega) (d.size + 8) 5 (a + 1) d o (by omega) (by omega) (by omega) (by omega) hb hsz (by omega) (GrX.refl _ _) hr (fun o2 g2 r2 => rt_in (hK o2 g2 r2))
  simpa [pv] using this
end
end Go.Proofs.Ytlcapliakfomhaa
