/- The library's sort of whole numbers: what each of its functions computes (1): less, insertion, heap. -/
import Derived.Test.YtlcapliakfomhaaT2
import Derived.Test.YtlcapliakfomhaaAb28
import Derived.Sort.LotD3
import Derived.Sort.LotA
import Derived.Sort.LotB
import Derived.Sort.LotC
set_option linter.all false
namespace Go.Proofs.Ytlcapliakfomhaa
open Go Go.Ab Go.Sort

/-- All stays but one object; new ones come. -/
def GrX (id : Nat) (o o' : OS) : Prop := ∀ (i : Nat) (x : AO), i ≠ id → o[i]? = some x → o'[i]? = some x
theorem GrX.refl (id : Nat) (o : OS) : GrX id o o := fun _ _ _ h => h
theorem GrX.trans {id : Nat} {a b c : OS} (h : GrX id a b) (k : GrX id b c) : GrX id a c := fun i x hi hx => k i x hi (h i x hi hx)
theorem GrX.of_gr {id : Nat} {a b : OS} (h : Gr a b) : GrX id a b := fun i x _ hx => h i x hx
theorem GrX.set {id : Nat} (o : OS) (x : AO) : GrX id o (o.set id x) := fun i y hi hy => by rw [List.getElem?_set_ne (fun h => hi h.symm)]; exact hy
/-- A row of numbers, the call's own. -/
def Row (o : OS) (id : Nat) (d : Array Int) : Prop := o[id]? = some (.cells true (d.toList.map (.int .i64)))
theorem Row.gr {o o' : OS} {id : Nat} {d : Array Int} (h : Row o id d) (hg : Gr o o') : Row o' id d := hg _ _ h
section
variable {o : OS} {id : Nat} {d : Array Int} {cap kk : Nat}
abbrev sv (id : Nat) (d : Array Int) (cap kk : Nat) : AV := .slice id 0 d.size cap kk
theorem Row.rd (h : Row o id d) {i : Nat} (hi : i < d.size) : ldO false 1 (ixp 1 (sv id d cap kk) (i : Int)) o = some (.int .i64 d[i]!) := by
  have h' : o[id]? = some (.cells true (d.toList.map (.int .i64))) := h
  simp only [ixp, ldO, h', Int.toNat_natCast, Nat.zero_add, Nat.mul_one, List.getElem?_map]
  have : d.toList[i]? = some d[i]! := by simp [hi]
  rw [this]; rfl
theorem inb {i n : Nat} (hi : i < n) : 0 ≤ (i : Int) ∧ (i : Int) < alen (.slice id 0 n cap kk) := by simp [alen]; omega
theorem Row.st (h : Row o id d) {i : Nat} (hi : i < d.size) (x : Int) : ∃ o', stO (ixp 1 (sv id d cap kk) (i : Int)) [.int .i64 x] o = some o' ∧ GrX id o o' ∧ Row o' id (d.setIfInBounds i x) := by
  refine ⟨_, stO_own0 h (by simp; omega), GrX.set o _, ?_⟩
  unfold Row
  rw [List.getElem?_set_self (getElem?_lt h)]
  simp
/-- Two are changed for each other. -/
theorem swap_step {Q : OS → Prop} (h : Row o id d) {i j : Nat} (hi : i < d.size) (hj : j < d.size) (hQ : ∀ o', GrX id o o' → Row o' id (swp d i j) → Q o') :
    (0 ≤ (j : Int) ∧ (j : Int) < alen (sv id d cap kk)) ∧ ∃ x : Int, ldO false 1 (ixp 1 (sv id d cap kk) (j : Int)) o = some (.int .i64 x) ∧
    (0 ≤ (i : Int) ∧ (i : Int) < alen (sv id d cap kk)) ∧ ∃ y : Int, ldO false 1 (ixp 1 (sv id d cap kk) (i : Int)) o = some (.int .i64 y) ∧
    (0 ≤ (i : Int) ∧ (i : Int) < alen (sv id d cap kk)) ∧ ∃ o2 : OS, stO (ixp 1 (sv id d cap kk) (i : Int)) [.int .i64 x] o = some o2 ∧
    (0 ≤ (j : Int) ∧ (j : Int) < alen (sv id d cap kk)) ∧ ∃ o3 : OS, stO (ixp 1 (sv id d cap kk) (j : Int)) [.int .i64 y] o2 = some o3 ∧ Q o3 := by
  refine ⟨inb hj, _, h.rd hj, inb hi, _, h.rd hi, inb hi, ?_⟩
  obtain ⟨o2, h1, g1, r1⟩ := h.st (cap := cap) (kk := kk) hi d[j]!
  refine ⟨o2, h1, inb hj, ?_⟩
  obtain ⟨o3, h2, g2, r2⟩ := r1.st (cap := cap) (kk := kk) (i := j) (by simpa using hj) d[i]!
  refine ⟨o3, ?_, hQ o3 (g1.trans g2) r2⟩
  have : sv id (d.setIfInBounds i d[j]!) cap kk = sv id d cap kk := by simp [sv]
  rw [← this]; exact h2
end

theorem run_isNaN {o : OS} {x : Int} {K : AV → OS → Prop} (h : K (.bool false) o) : Go Try.prog n_cmp_isNaN_int [.int .i64 x] o K := by
  refine cmp_isNaN_int_go 1 ?_
  refine rt_in ?_
  simpa using h
theorem run_Less {o : OS} {x y : Int} {K : AV → OS → Prop} (h : K (.bool (ltInt x y)) o) : Go Try.prog n_cmp_Less_int [.int .i64 x, .int .i64 y] o K := by
  refine cmp_Less_int_go 1 ?_
  unfold cmp_Less_int
  rw [jp_eq]
  refine run_isNaN ⟨_, rfl, ?_⟩
  rw [cnd_false]
  exact ⟨_, rfl, rt_in h⟩

theorem wn {x : Int} {n : Nat} (h : x = n) (hn : n ≤ 9223372036854775807) : IntKind.wrap .i64 x = (n : Int) := by
  subst h; exact wrap_id (by omega) (by omega)

section
variable {n : Nat} {R : AV → OS → Prop} {id cap kk : Nat} {o0 : OS}
theorem ins_inner {a b i : Nat} {j16 : List AV → OS → Prop} : ∀ (m j : Nat) (d : Array Int) (o : OS), j < m → j < d.size → d.size ≤ 4611686018427387904 → a ≤ d.size → GrX id o0 o → Row o id d →
    (∀ o', GrX id o0 o' → Row o' id (insInner ltInt a j d) → j16 [sv id d cap kk, .int .i64 a, .int .i64 b, .int .i64 i] o') →
    lp m (slices_insertionSortOrdered_int_L48 (GoF Try.prog) n R j16) [sv id d cap kk, .int .i64 a, .int .i64 b, .int .i64 i, .int .i64 j] o := by
  intro m
  induction m with
  | zero => intro j d o h; omega
  | succ m ih =>
    intro j d o hm hj hsz ha hg hr hJ
    rw [lp_succ]
    refine ⟨_, _, _, _, _, rfl, ?_⟩
    rw [jp_eq, cnd_dec]
    cases j with
    | zero =>
      rw [if_neg (by omega)]
      refine ⟨_, _, _, _, _, _, rfl, ?_⟩
      rw [cnd_false]
      exact hJ o hg hr
    | succ j =>
      have e1 : IntKind.wrap .i64 (((j + 1 : Nat) : Int) - 1) = (j : Int) := wn (by omega) (by omega)
      split
      · rename_i hgt
        refine ⟨inb hj, _, hr.rd hj, bnd_of e1 ⟨inb (by omega), _, hr.rd (by omega), run_Less ⟨_, rfl, ?_⟩⟩⟩
        refine ⟨_, _, _, _, _, _, rfl, ?_⟩
        simp only [insInner] at hJ
        cases hl : ltInt d[j + 1]! d[j]! with
        | false =>
          rw [cnd_false]
          rw [hl, Bool.and_false, if_neg (by simp)] at hJ
          exact hJ o hg hr
        | true =>
          rw [cnd_true]
          rw [hl, if_pos (by simp; omega)] at hJ
          refine bnd_of e1 (bnd_of e1 ?_)
          refine swap_step hr hj (by omega) fun o' g' r' => bnd_of e1 ?_
          have := ih j (swp d (j + 1) j) o' (by omega) (by simp [swp]; omega) (by simpa [swp] using hsz) (by simpa [swp] using ha) (hg.trans g') r'
          simp only [sv, size_swp] at this ⊢
          exact this (by simpa [sv] using hJ)
      · rename_i hgt
        refine ⟨_, _, _, _, _, _, rfl, ?_⟩
        rw [cnd_false]
        simp only [insInner] at hJ
        rw [if_neg (by simp; omega)] at hJ
        exact hJ o hg hr

theorem ins_outer {a b : Nat} (hn : ∀ d : Array Int, Row o0 id d → d.size < n) : ∀ (m i : Nat) (d : Array Int) (o : OS), b - i < m → b ≤ d.size → a ≤ d.size → d.size ≤ 4611686018427387904 → d.size < n → GrX id o0 o → Row o id d →
    (∀ o', GrX id o0 o' → Row o' id (insOuter ltInt a b i d) → R (.tuple []) o') →
    lp m (slices_insertionSortOrdered_int_L49 (GoF Try.prog) n R) [sv id d cap kk, .int .i64 a, .int .i64 b, .int .i64 i] o := by
  intro m
  induction m with
  | zero => intro i d o h; omega
  | succ m ih =>
    intro i d o hm hb ha hsz hnn hg hr hK
    rw [lp_succ]
    refine ⟨_, _, _, _, rfl, ?_⟩
    rw [cnd_dec]
    rw [insOuter] at hK
    split
    · rename_i hlt
      rw [if_pos (by omega)] at hK
      rw [jp_eq]
      refine ins_inner (o0 := o0) n i d o (by omega) (by omega) hsz ha hg hr fun o' g' r' => ?_
      refine ⟨_, _, _, _, rfl, ?_⟩
      refine bnd_of (wn (n := i + 1) (by omega) (by omega)) ?_
      have hs := insInner_size a i d
      have := ih (i + 1) (insInner ltInt a i d) o' (by omega) (by omega) (by omega) (by omega) (by omega) g' r' hK
      simpa only [sv, hs] using this
    · rename_i hlt
      rw [if_neg (by omega)] at hK
      exact hK o hg hr
where
  insInner_size (a : Nat) : ∀ (j : Nat) (d : Array Int), (insInner ltInt a j d).size = d.size
    | 0, d => rfl
    | j + 1, d => by
      rw [insInner]
      split
      · rw [insInner_size a j, size_swp]
      · rfl
end
theorem run_insertion {o : OS} {id cap kk a b : Nat} {d : Array Int} {K : AV → OS → Prop} (hr : Row o id d) (hsz : d.size ≤ 4611686018427387904) (hab : a ≤ b) (hb : b ≤ d.size)
    (hK : ∀ o' d', GrX id o o' → Row o' id d' → PermIn a b d d' → SortedIn ltInt a b d' → K (.tuple []) o') :
    Go Try.prog n_slices_insertionSortOrdered_int [sv id d cap kk, .int .i64 a, .int .i64 b] o K := by
  refine slices_insertionSortOrdered_int_go (d.size + b + 2) ?_
  refine bnd_of (wn (n := a + 1) (by omega) (by omega)) ?_
  have h := insertionSort_holds (lt := ltInt) swo_ltInt d a b hab hb
  refine ins_outer (o0 := o) (fun d' h' => ?_) _ (a + 1) d o (by omega) hb (by omega) hsz (by omega) (GrX.refl _ _) hr fun o' g' r' => rt_in (hK o' _ g' r' h.1 h.2)
  have : d'.size = d.size := by
    have e := Option.some.inj (hr.symm.trans h')
    have := congrArg List.length (AO.cells.inj e).2
    simpa using this.symm
  omega

/-! The heap. -/
theorem size_sift (hi first root : Nat) (d : Array Int) : (siftDown ltInt hi first root d).size = d.size := by
  fun_induction siftDown ltInt hi first root d <;> simp_all [size_swp]
section
variable {n : Nat} {R : AV → OS → Prop} {id cap kk : Nat} {o0 : OS}
theorem sift_loop {hi first : Nat} : ∀ (m root : Nat) (d : Array Int) (o : OS), hi - root < m → first + hi ≤ d.size → d.size ≤ 1152921504606846976 → root ≤ hi → GrX id o0 o → Row o id d →
    (∀ o', GrX id o0 o' → Row o' id (siftDown ltInt hi first root d) → R (.tuple []) o') →
    lp m (slices_siftDownOrdered_int_L53 (GoF Try.prog) n R) [sv id d cap kk, .int .i64 hi, .int .i64 first, .int .i64 root] o := by
  intro m
  induction m with
  | zero => intro root d o h; omega
  | succ m ih =>
    intro root d o hm hs hsz hrt hg hr hK
    rw [lp_succ]
    refine ⟨_, _, _, _, rfl, ?_⟩
    refine bnd_of (wn (n := 2 * root) (by omega) (by omega)) (bnd_of (wn (n := 2 * root + 1) (by omega) (by omega)) ?_)
    rw [cnd_dec]
    rw [siftDown] at hK
    split
    · rename_i hge
      rw [dif_pos (by omega)] at hK
      exact hK o hg hr
    · rename_i hge
      have hlt : 2 * root + 1 < hi := by omega
      rw [dif_neg (by omega)] at hK
      -- the swap with child c, then the loop
      have tail : ∀ c : Nat, root < c → c < hi → (∀ o', GrX id o0 o' → Row o' id (if !ltInt d[first + root]! d[first + c]! then d else siftDown ltInt hi first c (swp d (first + root) (first + c))) → R (.tuple []) o') →
          slices_siftDownOrdered_int_J31 (GoF Try.prog) n R (lp m (slices_siftDownOrdered_int_L53 (GoF Try.prog) n R)) [sv id d cap kk, .int .i64 hi, .int .i64 first, .int .i64 root, .int .i64 c] o := by
        intro c hc1 hc2 hK
        have e1 : IntKind.wrap .i64 ((first : Int) + root) = ((first + root : Nat) : Int) := wn (by omega) (by omega)
        have e2 : IntKind.wrap .i64 ((first : Int) + c) = ((first + c : Nat) : Int) := wn (by omega) (by omega)
        refine ⟨_, _, _, _, _, rfl, bnd_of e1 ⟨inb (by omega), _, hr.rd (by omega), bnd_of e2 ⟨inb (by omega), _, hr.rd (by omega), run_Less ⟨_, rfl, ?_⟩⟩⟩⟩
        cases hl : ltInt d[first + root]! d[first + c]! with
        | false =>
          rw [hl] at hK
          rw [cnd_not, cnd_false]
          exact hK o hg hr
        | true =>
          rw [hl] at hK
          rw [cnd_not, cnd_true]
          refine bnd_of e1 (bnd_of e2 (bnd_of e2 ?_))
          refine ⟨inb (by omega), _, hr.rd (by omega), bnd_of e1 ⟨inb (by omega), _, hr.rd (by omega), inb (by omega), ?_⟩⟩
          obtain ⟨o2, h1, g1, r1⟩ := hr.st (cap := cap) (kk := kk) (i := first + root) (by omega) d[first + c]!
          refine ⟨o2, h1, inb (by omega), ?_⟩
          obtain ⟨o3, h2, g2, r2⟩ := r1.st (cap := cap) (kk := kk) (i := first + c) (by simp; omega) d[first + root]!
          have e : sv id (d.setIfInBounds (first + root) d[first + c]!) cap kk = sv id d cap kk := by simp [sv]
          rw [e] at h2
          refine ⟨o3, h2, ?_⟩
          have := ih c (swp d (first + root) (first + c)) o3 (by omega) (by simp [size_swp]; omega) (by simpa [size_swp] using hsz) (by omega) (hg.trans (g1.trans g2)) r2 (by simpa using hK)
          simpa only [sv, size_swp] using this
      have mid : ∀ b : Bool, b = (decide (2 * root + 1 + 1 < hi) && ltInt d[first + (2 * root + 1)]! d[first + (2 * root + 1) + 1]!) →
          slices_siftDownOrdered_int_J42 (GoF Try.prog) n R (slices_siftDownOrdered_int_J31 (GoF Try.prog) n R (lp m (slices_siftDownOrdered_int_L53 (GoF Try.prog) n R))) [sv id d cap kk, .int .i64 hi, .int .i64 first, .int .i64 root, .int .i64 ((2 * root + 1 : Nat) : Int), .bool b] o := by
        intro b hb
        refine ⟨_, _, _, _, _, _, rfl, ?_⟩
        cases b with
        | true =>
          rw [cnd_true]
          rw [if_pos hb.symm] at hK
          have h2 : 2 * root + 2 < hi := by simp at hb; omega
          refine bnd_of (wn (n := 2 * root + 2) (by omega) (by omega)) ?_
          refine tail (2 * root + 2) (by omega) h2 ?_
          rw [dif_pos h2] at hK
          exact hK
        | false =>
          rw [cnd_false]
          rw [if_neg (by rw [← hb]; simp)] at hK
          exact tail (2 * root + 1) (by omega) hlt hK
      rw [jp_eq, jp_eq]
      refine bnd_of (wn (n := 2 * root + 2) (by omega) (by omega)) ?_
      rw [cnd_dec]
      split
      · rename_i h2
        refine bnd_of (wn (n := first + (2 * root + 1)) (by omega) (by omega)) ⟨inb (by omega), _, hr.rd (by omega), bnd_of (wn (n := first + (2 * root + 1)) (by omega) (by omega)) (bnd_of (wn (n := first + (2 * root + 1) + 1) (by omega) (by omega)) ⟨inb (by omega), _, hr.rd (by omega), run_Less ⟨_, rfl, ?_⟩⟩)⟩
        refine mid _ ?_
        rw [decide_eq_true (by omega), Bool.true_and]
      · refine mid _ ?_
        rw [decide_eq_false (by omega), Bool.false_and]
theorem run_sift {o : OS} {hi first root : Nat} {d : Array Int} {K : AV → OS → Prop} (hr : Row o id d) (hs : first + hi ≤ d.size) (hsz : d.size ≤ 1152921504606846976) (hrt : root ≤ hi)
    (hK : ∀ o', GrX id o o' → Row o' id (siftDown ltInt hi first root d) → K (.tuple []) o') :
    Go Try.prog n_slices_siftDownOrdered_int [sv id d cap kk, .int .i64 root, .int .i64 hi, .int .i64 first] o K := by
  refine slices_siftDownOrdered_int_go (hi + 1) ?_
  exact sift_loop (o0 := o) _ root d o (by omega) hs hsz hrt (GrX.refl _ _) hr fun o' g r => rt_in (hK o' g r)

theorem pop_loop {first N : Nat} : ∀ (m k : Nat) (d : Array Int) (o : OS), k < m → k ≤ N → first + N ≤ d.size → d.size ≤ 1152921504606846976 → GrX id o0 o → Row o id d →
    (∀ o', GrX id o0 o' → Row o' id (heapPop ltInt first k d) → R (.tuple []) o') →
    lp m (slices_heapSortOrdered_int_L24 (GoF Try.prog) n R) [sv id d cap kk, .int .i64 first, .int .i64 (0 : Int), .int .i64 ((k : Int) - 1)] o := by
  intro m
  induction m with
  | zero => intro k d o h; omega
  | succ m ih =>
    intro k d o hm hk hs hsz hg hr hK
    rw [lp_succ]
    refine ⟨_, _, _, _, rfl, ?_⟩
    rw [cnd_dec]
    cases k with
    | zero => rw [if_neg (by omega)]; exact hK o hg hr
    | succ k =>
      rw [if_pos (by omega)]
      have e : ((k + 1 : Nat) : Int) - 1 = (k : Int) := by omega
      rw [e]
      have e1 : IntKind.wrap .i64 ((first : Int) + (k : Int)) = ((first + k : Nat) : Int) := wn (by omega) (by omega)
      refine bnd_of e1 (bnd_of e1 ?_)
      refine swap_step hr (by omega) (by omega) fun o' g' r' => ?_
      have e2 : sv id d cap kk = sv id (swp d first (first + k)) cap kk := by simp [sv, size_swp]
      rw [e2]
      refine run_sift (root := 0) r' (by rw [size_swp]; omega) (by rw [size_swp]; omega) (by omega) fun o2 g2 r2 => ?_
      refine bnd_of (y := (k : Int) - 1) (wrap_id (by omega) (by omega)) ?_
      have := ih k (siftDown ltInt k first 0 (swp d first (first + k))) o2 (by omega) (by omega) (by rw [size_sift, size_swp]; omega) (by rw [size_sift, size_swp]; omega) ((hg.trans g').trans g2) r2 hK
      simpa only [sv, size_sift, size_swp] using this
theorem build_loop {first hi : Nat} {j26 : List AV → OS → Prop} : ∀ (m k : Nat) (d : Array Int) (o : OS), k < m → k ≤ hi + 1 → first + hi ≤ d.size → d.size ≤ 1152921504606846976 → GrX id o0 o → Row o id d →
    (∀ o', GrX id o0 o' → Row o' id (heapBuild ltInt hi first k d) → j26 [sv id d cap kk, .int .i64 first, .int .i64 (0 : Int), .int .i64 hi] o') →
    lp m (slices_heapSortOrdered_int_L40 (GoF Try.prog) n R j26) [sv id d cap kk, .int .i64 first, .int .i64 (0 : Int), .int .i64 hi, .int .i64 ((k : Int) - 1)] o := by
  intro m
  induction m with
  | zero => intro k d o h; omega
  | succ m ih =>
    intro k d o hm hk hs hsz hg hr hK
    rw [lp_succ]
    refine ⟨_, _, _, _, _, rfl, ?_⟩
    rw [cnd_dec]
    cases k with
    | zero => rw [if_neg (by omega)]; exact hK o hg hr
    | succ k =>
      rw [if_pos (by omega)]
      have e : ((k + 1 : Nat) : Int) - 1 = (k : Int) := by omega
      rw [e]
      refine run_sift (root := k) hr hs hsz (by omega) fun o2 g2 r2 => ?_
      refine bnd_of (y := (k : Int) - 1) (wrap_id (by omega) (by omega)) ?_
      have := ih k (siftDown ltInt hi first k d) o2 (by omega) (by omega) (by rw [size_sift]; omega) (by rw [size_sift]; omega) (hg.trans g2) r2 (by rw [heapBuild] at hK; simpa only [sv, size_sift] using hK)
      simpa only [sv, size_sift] using this
end
theorem size_build (hi first : Nat) : ∀ (k : Nat) (d : Array Int), (heapBuild ltInt hi first k d).size = d.size
  | 0, d => rfl
  | k + 1, d => by rw [heapBuild, size_build hi first k, size_sift]
theorem run_heap {o : OS} {id cap kk a b : Nat} {d : Array Int} {K : AV → OS → Prop} (hr : Row o id d) (hsz : d.size ≤ 1152921504606846976) (hab : a ≤ b) (hb : b ≤ d.size)
    (hK : ∀ o' d', GrX id o o' → Row o' id d' → PermIn a b d d' → SortedIn ltInt a b d' → K (.tuple []) o') :
    Go Try.prog n_slices_heapSortOrdered_int [sv id d cap kk, .int .i64 a, .int .i64 b] o K := by
  refine slices_heapSortOrdered_int_go (b - a + 3) ?_
  unfold slices_heapSortOrdered_int
  refine bnd_of (wn (n := b - a) (by omega) (by omega)) ?_
  rw [jp_eq]
  refine bnd_of (y := ((b - a : Nat) : Int) - 1) (wrap_id (by omega) (by omega)) ⟨by omega, ?_⟩
  have h := heapSort_holds (lt := ltInt) swo_ltInt d a b hab hb
  have e : (((b - a : Nat) : Int) - 1).tdiv 2 = (((b - a - 1) / 2 + 1 : Nat) : Int) - 1 := by
    rcases Nat.eq_zero_or_pos (b - a) with hz | hp
    · rw [hz]; decide
    · rw [Int.tdiv_eq_ediv_of_nonneg (by omega)]; omega
  refine bnd_of (y := (((b - a - 1) / 2 + 1 : Nat) : Int) - 1) (by rw [e, wrap_id (by omega) (by omega)]) ?_
  refine build_loop (o0 := o) _ _ d o (by omega) (by omega) (by omega) hsz (GrX.refl _ _) hr fun o' g' r' => ?_
  refine ⟨_, _, _, _, rfl, ?_⟩
  refine bnd_of (y := ((b - a : Nat) : Int) - 1) (wrap_id (by omega) (by omega)) ?_
  have := pop_loop (R := rt o K) (n := b - a + 3) (o0 := o) (N := b - a) (id := id) (cap := cap) (kk := kk) (first := a) (b - a + 3) (b - a) (heapBuild ltInt (b - a) a ((b - a - 1) / 2 + 1) d) o' (by omega) (by omega) (by rw [size_build]; omega) (by rw [size_build]; omega) g' r' (fun o2 g2 r2 => rt_in (hK o2 _ g2 r2 h.1 h.2))
  simpa only [sv, size_build] using this
end Go.Proofs.Ytlcapliakfomhaa
