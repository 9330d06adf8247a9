/- The library's sort of whole numbers: what each of its functions computes (4): the pivot, the patterns, the recursion; the sort. -/
import Derived.Test.YtlcapliakfomhaaS5
set_option linter.all false
namespace Go.Proofs.Ytlcapliakfomhaa
open Go Go.Ab Go.Sort

theorem GrX.new {id r : Nat} {o0 o o' : OS} (h : GrX id o0 o) (hr : o0.length ≤ r) (k : GrX r o o') : GrX id o0 o' := fun i x hi hx => k i x (by have := getElem?_lt hx; omega) (h i x hi hx)
theorem GrX.gr {r : Nat} {o0 o o' : OS} (h : Gr o0 o) (hr : o0.length ≤ r) (k : GrX r o o') : Gr o0 o' := fun i x hx => k i x (by have := getElem?_lt hx; omega) (h i x hx)
/-- A cell of its own. -/
def Cel (o : OS) (r : Nat) (v : AV) : Prop := o[r]? = some (.cells true [v])
theorem Cel.ld {o : OS} {r : Nat} {v : AV} (h : Cel o r v) : ldO false 1 (.ptr r 0) o = some v := by
  have h' : o[r]? = some (.cells true [v]) := h
  simp [ldO, h']
theorem Cel.st {o : OS} {r : Nat} {v : AV} (h : Cel o r v) (w : AV) : ∃ o', stO (.ptr r 0) [w] o = some o' ∧ GrX r o o' ∧ Cel o' r w := by
  have h' : o[r]? = some (.cells true [v]) := h
  refine ⟨o.set r (.cells true [w]), by simp [stO, h', splice], GrX.set o _, ?_⟩
  unfold Cel
  rw [List.getElem?_set_self (getElem?_lt h')]
theorem Row.grx {o o' : OS} {id r : Nat} {d : Array Int} (h : Row o id d) (hne : id ≠ r) (hg : GrX r o o') : Row o' id d := hg id _ hne h
theorem Cel.grx {o o' : OS} {id r : Nat} {v : AV} (h : Cel o r v) (hne : r ≠ id) (hg : GrX id o o') : Cel o' r v := hg r _ hne h

section
variable {id cap kk r : Nat} {o : OS} {d : Array Int} {a b c : Nat} {K : AV → OS → Prop}
theorem run_order2 {s : Int} (hr : Row o id d) (hs : Cel o r (.int .i64 s)) (ha : a < d.size) (hb : b < d.size)
    (hK : ∀ (o' : OS) (s' : Int) (x y : Nat), (x = a ∧ y = b ∨ x = b ∧ y = a) → GrX r o o' → Cel o' r (.int .i64 s') → K (.tuple [.int .i64 x, .int .i64 y]) o') :
    Go Try.prog n_slices_order2Ordered_int [sv id d cap kk, .int .i64 a, .int .i64 b, .ptr r 0] o K := by
  refine slices_order2Ordered_int_go 1 ?_
  refine ⟨inb hb, _, hr.rd hb, inb ha, _, hr.rd ha, run_Less ⟨_, rfl, ?_⟩⟩
  cases ltInt d[b]! d[a]! with
  | true =>
    rw [cnd_true]
    obtain ⟨o', h1, h2, h3⟩ := hs.st (.int .i64 (IntKind.wrap .i64 (s + 1)))
    exact ⟨rfl, _, hs.ld, bnd_of rfl ⟨rfl, o', h1, rt_in (hK o' _ b a (.inr ⟨rfl, rfl⟩) h2 h3)⟩⟩
  | false =>
    rw [cnd_false]
    exact rt_in (hK o s a b (.inl ⟨rfl, rfl⟩) (GrX.refl _ _) hs)
theorem run_median {s : Int} (hr : Row o id d) (hs : Cel o r (.int .i64 s)) (hne : id ≠ r) (ha : a < d.size) (hb : b < d.size) (hc : c < d.size)
    (hK : ∀ (o' : OS) (s' : Int) (x : Nat), (x = a ∨ x = b ∨ x = c) → GrX r o o' → Cel o' r (.int .i64 s') → K (.int .i64 x) o') :
    Go Try.prog n_slices_medianOrdered_int [sv id d cap kk, .int .i64 a, .int .i64 b, .int .i64 c, .ptr r 0] o K := by
  refine slices_medianOrdered_int_go 1 ?_
  refine run_order2 hr hs ha hb fun o1 s1 x1 y1 h1 g1 c1 => ⟨_, _, rfl, ?_⟩
  refine run_order2 (hr.grx hne g1) c1 (by omega) hc fun o2 s2 x2 y2 h2 g2 c2 => ⟨_, _, rfl, ?_⟩
  refine run_order2 ((hr.grx hne g1).grx hne g2) c2 (by omega) (by omega) fun o3 s3 x3 y3 h3 g3 c3 => ⟨_, _, rfl, ?_⟩
  exact rt_in (hK o3 s3 y3 (by omega) ((g1.trans g2).trans g3) c3)
theorem run_medianAdjacent {s : Int} (hr : Row o id d) (hs : Cel o r (.int .i64 s)) (hne : id ≠ r) (ha : 1 ≤ a) (hb : a + 1 < d.size) (hsz : d.size ≤ 65535)
    (hK : ∀ (o' : OS) (s' : Int) (x : Nat), (a - 1 ≤ x ∧ x ≤ a + 1) → GrX r o o' → Cel o' r (.int .i64 s') → K (.int .i64 x) o') :
    Go Try.prog n_slices_medianAdjacentOrdered_int [sv id d cap kk, .int .i64 a, .ptr r 0] o K := by
  refine slices_medianAdjacentOrdered_int_go 1 ?_
  refine bnd_of (wn (n := a - 1) (by omega) (by omega)) (bnd_of (wn (n := a + 1) (by omega) (by omega)) ?_)
  refine run_median hr hs hne (by omega) (by omega) (by omega) fun o1 s1 x1 h1 g1 c1 => ⟨_, rfl, ?_⟩
  exact rt_in (hK o1 s1 x1 (by omega) g1 c1)
theorem run_choosePivot (hr : Row o id d) (hsz : d.size ≤ 65535) (hab : a < b) (hb : b ≤ d.size)
    (hK : ∀ (p : Nat) (h : Int), a ≤ p → p < b → K (.tuple [.int .i64 p, .int .i64 h]) o) :
    Go Try.prog n_slices_choosePivotOrdered_int [sv id d cap kk, .int .i64 a, .int .i64 b] o K := by
  refine slices_choosePivotOrdered_int_go 1 ?_
  have hid : id < o.length := getElem?_lt (show o[id]? = _ from hr)
  have q : ∀ j : Nat, IntKind.wrap .i64 (Int.tdiv ((b - a : Nat) : Int) 4) = (((b - a) / 4 : Nat) : Int) := fun _ => by
    rw [Int.tdiv_eq_ediv_of_nonneg (by omega)]; exact wn (by omega) (by omega)
  refine bnd_of (wn (n := b - a) (by omega) (by omega)) (bnd_of rfl ⟨by omega, bnd_of (q 0) (bnd_of (wn (n := (b - a) / 4 * 1) (by omega) (by omega)) (bnd_of (wn (n := a + (b - a) / 4 * 1) (by omega) (by omega)) ⟨by omega, bnd_of (q 0) (bnd_of (wn (n := (b - a) / 4 * 2) (by omega) (by omega)) (bnd_of (wn (n := a + (b - a) / 4 * 2) (by omega) (by omega)) ⟨by omega, bnd_of (q 0) (bnd_of (wn (n := (b - a) / 4 * 3) (by omega) (by omega)) (bnd_of (wn (n := a + (b - a) / 4 * 3) (by omega) (by omega)) ?_))⟩))⟩))⟩)
  rw [jp_eq]
  have g0 : Gr o (o ++ [AO.cells true [.int .i64 (0 : Int)]]) := (Gr.refl o).push _
  have c0 : Cel (o ++ [AO.cells true [.int .i64 (0 : Int)]]) o.length (.int .i64 (0 : Int)) := by simp [Cel]
  generalize (o ++ [AO.cells true [AV.int .i64 (0 : Int)]]) = o1 at g0 c0 ⊢
  have fin : ∀ (o' : OS) (s : Int) (p : Nat), a ≤ p → p < b → Gr o o' → Cel o' o.length (.int .i64 s) → slices_choosePivotOrdered_int_J16 (GoF Try.prog) 1 (rt o K) [.ptr o.length 0, .int .i64 p] o' := by
    intro o' s p h1 h2 g hc
    refine ⟨_, _, rfl, _, hc.ld, ?_⟩
    rw [cnd_beq]
    split
    · exact rt_old rfl g (hK p _ h1 h2)
    · rw [cnd_beq]
      split
      · exact rt_old rfl g (hK p _ h1 h2)
      · exact rt_old rfl g (hK p _ h1 h2)
  have med : ∀ (o' : OS) (s : Int) (x y z : Nat), (a ≤ x ∧ x < b) → (a ≤ y ∧ y < b) → (a ≤ z ∧ z < b) → Gr o o' → Cel o' o.length (.int .i64 s) → slices_choosePivotOrdered_int_J28 (GoF Try.prog) 1 (rt o K) (slices_choosePivotOrdered_int_J16 (GoF Try.prog) 1 (rt o K)) [sv id d cap kk, .ptr o.length 0, .int .i64 x, .int .i64 y, .int .i64 z] o' := by
    intro o' s x y z hx hy hz g hc
    refine ⟨_, _, _, _, _, rfl, ?_⟩
    refine run_median (hr.gr g) hc (by omega) (by omega) (by omega) (by omega) fun o2 s2 p hp g2 c2 => ⟨_, rfl, ?_⟩
    exact fin o2 s2 p (by omega) (by omega) (GrX.gr g (Nat.le_refl _) g2) c2
  rw [cnd_dec]
  split
  · rw [jp_eq, cnd_dec]
    split
    · refine run_medianAdjacent (hr.gr g0) c0 (by omega) (by omega) (by omega) hsz fun o2 s2 x2 h2 g2 c2 => ⟨_, rfl, ?_⟩
      have g2' := GrX.gr g0 (Nat.le_refl _) g2
      refine run_medianAdjacent (hr.gr g2') c2 (by omega) (by omega) (by omega) hsz fun o3 s3 x3 h3 g3 c3 => ⟨_, rfl, ?_⟩
      have g3' := GrX.gr g2' (Nat.le_refl _) g3
      refine run_medianAdjacent (hr.gr g3') c3 (by omega) (by omega) (by omega) hsz fun o4 s4 x4 h4 g4 c4 => ⟨_, rfl, ?_⟩
      exact med o4 s4 x2 x3 x4 (by omega) (by omega) (by omega) (GrX.gr g3' (Nat.le_refl _) g4) c4
    · exact med o1 0 _ _ _ (by omega) (by omega) (by omega) g0 c0
  · exact fin o1 0 _ (by omega) (by omega) g0 c0
end

/-! Backwards. -/
section
variable {id cap kk : Nat} {o0 : OS} {n : Nat} {R : AV → OS → Prop}
theorem rev_loop : ∀ (m i j : Nat) (d : Array Int) (o : OS), j - i < m → j < d.size → i ≤ d.size → d.size ≤ 65535 → GrX id o0 o → Row o id d →
    (∀ o', GrX id o0 o' → Row o' id (reverseLoop i j d) → R (.tuple []) o') →
    lp m (slices_reverseRangeOrdered_int_L13 (GoF Try.prog) n R) [sv id d cap kk, .int .i64 i, .int .i64 j] o := by
  intro m
  induction m with
  | zero => intro i j d o h; omega
  | succ m ih =>
    intro i j d o hm hj hi hsz hg hr hK
    rw [lp_succ]
    refine ⟨_, _, _, rfl, ?_⟩
    rw [reverseLoop] at hK
    rw [cnd_dec]
    split
    · rw [if_pos (by omega)] at hK
      refine swap_step hr (by omega) hj fun o' g' r' => ?_
      refine bnd_of (wn (n := i + 1) (by omega) (by omega)) (bnd_of (wn (n := j - 1) (by omega) (by omega)) ?_)
      have := ih (i + 1) (j - 1) (swp d i j) o' (by omega) (by rw [size_swp]; omega) (by rw [size_swp]; omega) (by rw [size_swp]; omega) (hg.trans g') r' hK
      simpa only [sv, size_swp] using this
    · rw [if_neg (by omega)] at hK
      exact hK o hg hr
theorem run_reverse {o : OS} {d : Array Int} {a b : Nat} {K : AV → OS → Prop} (hr : Row o id d) (hsz : d.size ≤ 65535) (hab : a < b) (hb : b ≤ d.size)
    (hK : ∀ (o' : OS) (d' : Array Int), GrX id o o' → Row o' id d' → PermIn a b d d' → K (.tuple []) o') :
    Go Try.prog n_slices_reverseRangeOrdered_int [sv id d cap kk, .int .i64 a, .int .i64 b] o K := by
  refine slices_reverseRangeOrdered_int_go (b + 1) ?_
  refine bnd_of (wn (n := b - 1) (by omega) (by omega)) ?_
  exact rev_loop (o0 := o) _ a (b - 1) d o (by omega) (by omega) (by omega) hsz (GrX.refl _ _) hr fun o' g r => rt_in (hK o' _ g r (reverseRange_holds d a b (by omega) hb))
end

/-! How long a number is. -/
abbrev len8 : ByteArray := ByteArray.mk #[0, 1, 2, 2, 3, 3, 3, 3, 4, 4, 4, 4, 4, 4, 4, 4, 5, 5, 5, 5, 5, 5, 5, 5, 5, 5, 5, 5, 5, 5, 5, 5, 6, 6, 6, 6, 6, 6, 6, 6, 6, 6, 6, 6, 6, 6, 6, 6, 6, 6, 6, 6, 6, 6, 6, 6, 6, 6, 6, 6, 6, 6, 6, 6, 7, 7, 7, 7, 7, 7, 7, 7, 7, 7, 7, 7, 7, 7, 7, 7, 7, 7, 7, 7, 7, 7, 7, 7, 7, 7, 7, 7, 7, 7, 7, 7, 7, 7, 7, 7, 7, 7, 7, 7, 7, 7, 7, 7, 7, 7, 7, 7, 7, 7, 7, 7, 7, 7, 7, 7, 7, 7, 7, 7, 7, 7, 7, 7, 8, 8, 8, 8, 8, 8, 8, 8, 8, 8, 8, 8, 8, 8, 8, 8, 8, 8, 8, 8, 8, 8, 8, 8, 8, 8, 8, 8, 8, 8, 8, 8, 8, 8, 8, 8, 8, 8, 8, 8, 8, 8, 8, 8, 8, 8, 8, 8, 8, 8, 8, 8, 8, 8, 8, 8, 8, 8, 8, 8, 8, 8, 8, 8, 8, 8, 8, 8, 8, 8, 8, 8, 8, 8, 8, 8, 8, 8, 8, 8, 8, 8, 8, 8, 8, 8, 8, 8, 8, 8, 8, 8, 8, 8, 8, 8, 8, 8, 8, 8, 8, 8, 8, 8, 8, 8, 8, 8, 8, 8, 8, 8, 8, 8, 8, 8, 8, 8, 8, 8, 8, 8, 8, 8, 8, 8, 8, 8]
theorem len8_all : ∀ x : Fin 256, x.val < 2 ^ ((len8[x.val]?).getD 0).toNat ∧ (x.val = 0 ∨ 2 ^ ((len8[x.val]?).getD 0).toNat ≤ 2 * x.val) ∧ ((len8[x.val]?).getD 0).toNat ≤ 8 ∧ len8.size = 256 := by decide +kernel
theorem len8_spec {x : Int} (h0 : 0 ≤ x) (h1 : x < 256) : ∃ k : Nat, byteAt len8 x = k ∧ x.toNat < 2 ^ k ∧ (x.toNat = 0 ∨ 2 ^ k ≤ 2 * x.toNat) ∧ k ≤ 8 ∧ x < ((ByteArray.size len8 : Nat) : Int) := by
  have := len8_all ⟨x.toNat, by omega⟩
  refine ⟨_, rfl, this.1, this.2.1, this.2.2.1, ?_⟩
  rw [this.2.2.2]; exact h1
theorem run_Len64 {x : Nat} {o : OS} {K : AV → OS → Prop} (hx : x ≤ 65535) (hK : ∀ k : Nat, x < 2 ^ k → (x = 0 ∨ 2 ^ k ≤ 2 * x) → k ≤ 16 → K (.int .i64 k) o) : Go Try.prog n_math_bits_Len64 [.int .u64 x] o K := by
  refine math_bits_Len64_go 1 ?_
  unfold math_bits_Len64
  rw [jp_eq, cnd_dec, if_neg (by omega)]
  refine ⟨_, _, rfl, ?_⟩
  rw [jp_eq, cnd_dec, if_neg (by omega)]
  refine ⟨_, _, rfl, ?_⟩
  have fin : ∀ (y m : Nat), y < 256 → m ≤ 8 → (∀ k, y < 2 ^ k → (y = 0 ∨ 2 ^ k ≤ 2 * y) → k ≤ 8 → rt o K (.int .i64 ((m + k : Nat) : Int)) o) → math_bits_Len64_J16 (GoF Try.prog) 1 (rt o K) [.int .u64 y, .int .i64 m] o := by
    intro y m hy hm hk
    refine ⟨_, _, rfl, ?_⟩
    obtain ⟨k, e, h1, h2, h3, h4⟩ := len8_spec (x := (y : Int)) (by omega) (by omega)
    refine bnd_of (y := (y : Int)) (by rw [wrap_u8]; omega) ⟨⟨by omega, h4⟩, bnd_of e (bnd_of (wn (n := k) rfl (by omega)) (bnd_of (wn (n := m + k) (by omega) (by omega)) ?_))⟩
    exact hk k (by simpa using h1) (by simpa using h2) h3
  rw [jp_eq, cnd_dec]
  split
  · refine ⟨by omega, bnd_of (y := ((x / 256 : Nat) : Int)) (by rw [Int.fdiv_eq_ediv_of_nonneg _ (by simp [IntKind.bits])]; simp [IntKind.bits]) (bnd_of (wn (n := 8) (by omega) (by omega)) ?_)⟩
    refine fin _ 8 (by omega) (by omega) fun k h1 h2 h3 => rt_in (hK _ ?_ ?_ (by omega))
    · rw [Nat.pow_add]; omega
    · right; rw [Nat.pow_add]; omega
  · refine fin x 0 (by omega) (by omega) fun k h1 h2 h3 => rt_in ?_
    rw [Nat.zero_add]
    exact hK k h1 h2 (by omega)
theorem run_Len {x : Nat} {o : OS} {K : AV → OS → Prop} (hx : x ≤ 65535) (hK : ∀ k : Nat, x < 2 ^ k → (x = 0 ∨ 2 ^ k ≤ 2 * x) → k ≤ 16 → K (.int .i64 k) o) : Go Try.prog n_math_bits_Len [.int .u64 x] o K := by
  refine math_bits_Len_go 1 ?_
  exact run_Len64 hx fun k h1 h2 h3 => ⟨_, rfl, rt_in (hK k h1 h2 h3)⟩
theorem run_nextPow {x : Nat} {o : OS} {K : AV → OS → Prop} (hx : x ≤ 65535) (h0 : 0 < x) (hK : ∀ p : Nat, x < p → p ≤ 2 * x → K (.int .u64 p) o) : Go Try.prog n_slices_nextPowerOfTwo [.int .i64 x] o K := by
  refine slices_nextPowerOfTwo_go 1 ?_
  refine bnd_of (y := (x : Int)) (by rw [wrap_u64]; omega) ?_
  refine run_Len hx fun k h1 h2 h3 => ⟨_, rfl, by omega, bnd_of (y := ((2 ^ k : Nat) : Int)) ?_ (rt_in (hK _ h1 (by omega)))⟩
  have hk : 2 ^ k ≤ 2 ^ 16 := Nat.pow_le_pow_right (by omega) h3
  rw [wrap_u64, Int.toNat_natCast, Nat.min_eq_left (by simp [IntKind.bits]; omega), Int.one_mul]
  rw [show ((2 : Int) ^ k) = ((2 ^ k : Nat) : Int) by simp]
  omega

/-! Patterns broken. -/
theorem run_next {o : OS} {r : Nat} {x : Int} {K : AV → OS → Prop} (hc : Cel o r (.int .u64 x)) (hK : ∀ (o' : OS) (y : Int), GrX r o o' → Cel o' r (.int .u64 y) → K (.int .u64 y) o') : Go Try.prog n_slices_xorshift_Next [.ptr r 0] o K := by
  refine slices_xorshift_Next_go 1 ?_
  refine ⟨rfl, _, hc.ld, rfl, _, hc.ld, by omega, bnd_of rfl (bnd_of rfl ⟨rfl, ?_⟩)⟩
  obtain ⟨o1, h1, g1, c1⟩ := hc.st (.int .u64 (IntKind.wrap .u64 (BitVec.toNat (BitVec.ofInt (IntKind.bits .u64) x ^^^ BitVec.ofInt (IntKind.bits .u64) (IntKind.wrap .u64 (x * 2 ^ (min (Int.toNat (13 : Int)) (IntKind.bits .u64))))))))
  refine ⟨o1, h1, rfl, _, c1.ld, rfl, _, c1.ld, by omega, bnd_of rfl (bnd_of rfl ⟨rfl, ?_⟩)⟩
  obtain ⟨o2, h2, g2, c2⟩ := c1.st _
  refine ⟨o2, h2, rfl, _, c2.ld, rfl, _, c2.ld, by omega, bnd_of rfl (bnd_of rfl ⟨rfl, ?_⟩)⟩
  obtain ⟨o3, h3, g3, c3⟩ := c2.st _
  exact ⟨o3, h3, rfl, _, c3.ld, rt_in (hK o3 _ ((g1.trans g2).trans g3) c3)⟩
theorem and_bound (x : Int) (p : Nat) (hp : p ≤ 131072) : ∃ q : Nat, q ≤ p ∧ IntKind.wrap .u64 (BitVec.toNat (BitVec.ofInt (IntKind.bits .u64) x &&& BitVec.ofInt (IntKind.bits .u64) (p : Int))) = (q : Int) := by
  refine ⟨BitVec.toNat (BitVec.ofInt 64 x &&& BitVec.ofInt 64 (p : Int)), ?_, ?_⟩
  · rw [BitVec.toNat_and]
    refine Nat.le_trans Nat.and_le_right ?_
    rw [BitVec.toNat_ofInt]; omega
  · have : BitVec.toNat (BitVec.ofInt 64 x &&& BitVec.ofInt 64 (p : Int)) ≤ p := by
      rw [BitVec.toNat_and]
      refine Nat.le_trans Nat.and_le_right ?_
      rw [BitVec.toNat_ofInt]; omega
    show IntKind.wrap .u64 ((BitVec.toNat (BitVec.ofInt 64 x &&& BitVec.ofInt 64 (p : Int)) : Nat) : Int) = _
    rw [wrap_u64]; omega
section
variable {id cap kk r : Nat} {o0 : OS} {n : Nat} {R : AV → OS → Prop} {a b M : Nat} {d0 : Array Int}
theorem break_loop (hab : a + 8 ≤ b) (hM : M ≤ 2 * (b - a)) (hM0 : 1 ≤ M) (hid : id < o0.length) (hrr : o0.length ≤ r) (hK : ∀ (o' : OS) (d' : Array Int), GrX id o0 o' → Row o' id d' → PermIn a b d0 d' → R (.tuple []) o') :
    ∀ (m i : Nat) (d : Array Int) (o : OS) (x : Int), b - i < m → a ≤ i → i < b → b ≤ d.size → d.size ≤ 65535 → d.size = d0.size → PermIn a b d0 d → GrX id o0 o → Row o id d → Cel o r (.int .u64 x) →
      lp m (slices_breakPatternsOrdered_int_L49 (GoF Try.prog) n R) [sv id d cap kk, .int .i64 a, .int .i64 ((b - a : Nat) : Int), .ptr r 0, .int .u64 M, .int .i64 i] o := by
  intro m
  induction m with
  | zero => intro i d o x h; omega
  | succ m ih =>
    intro i d o x hm hai hib hb hsz hd hp hg hr hc
    rw [lp_succ]
    refine ⟨_, _, _, _, _, _, rfl, by omega, ?_⟩
    have q : IntKind.wrap .i64 (Int.tdiv ((b - a : Nat) : Int) 4) = (((b - a) / 4 : Nat) : Int) := by
      rw [Int.tdiv_eq_ediv_of_nonneg (by omega)]; exact wn (by omega) (by omega)
    refine bnd_of q (bnd_of (wn (n := (b - a) / 4 * 2) (by omega) (by omega)) (bnd_of (wn (n := a + (b - a) / 4 * 2) (by omega) (by omega)) (bnd_of (wn (n := a + (b - a) / 4 * 2 + 1) (by omega) (by omega)) ?_)))
    rw [cnd_dec]
    split
    · refine run_next hc fun o1 y g1 c1 => ⟨_, rfl, ?_⟩
      have hne : id ≠ r := by omega
      have r1 := hr.grx hne g1
      have g1' := hg.new hrr g1
      refine bnd_of (y := ((M - 1 : Nat) : Int)) (by rw [wrap_u64]; omega) ?_
      obtain ⟨p, hp1, hp2⟩ := and_bound y (M - 1) (by omega)
      refine bnd_of hp2 (bnd_of (wn (n := p) rfl (by omega)) ?_)
      have fin : ∀ t : Nat, t < b - a → slices_breakPatternsOrdered_int_J46 (GoF Try.prog) n R (lp m (slices_breakPatternsOrdered_int_L49 (GoF Try.prog) n R)) [sv id d cap kk, .int .i64 a, .int .i64 ((b - a : Nat) : Int), .ptr r 0, .int .u64 M, .int .i64 i, .int .i64 t] o1 := by
        intro t ht
        refine ⟨_, _, _, _, _, _, _, rfl, bnd_of (wn (n := a + t) (by omega) (by omega)) (bnd_of (wn (n := a + t) (by omega) (by omega)) ?_)⟩
        refine swap_step r1 (by omega) (by omega) fun o2 g2 r2 => bnd_of (wn (n := i + 1) (by omega) (by omega)) ?_
        have := ih (i + 1) (swp d i (a + t)) o2 y (by omega) (by omega) (by omega) (by rw [size_swp]; omega) (by rw [size_swp]; omega) (by rw [size_swp]; omega) (permIn_trans _ _ _ a b hp (swp_permIn d a b i (a + t) hai hib (by omega) (by omega) hb)) (g1'.trans g2) r2 (c1.grx (by omega) g2)
        simpa only [sv, size_swp] using this
      rw [jp_eq, cnd_dec]
      split
      · refine bnd_of (wn (n := p - (b - a)) (by omega) (by omega)) ?_
        exact fin _ (by omega)
      · exact fin _ (by omega)
    · exact hK o d hg hr hp
theorem run_break {o : OS} {d : Array Int} {K : AV → OS → Prop} (hr : Row o id d) (hsz : d.size ≤ 65535) (hab : a < b) (hb : b ≤ d.size)
    (hK : ∀ (o' : OS) (d' : Array Int), GrX id o o' → Row o' id d' → PermIn a b d d' → K (.tuple []) o') :
    Go Try.prog n_slices_breakPatternsOrdered_int [sv id d cap kk, .int .i64 a, .int .i64 b] o K := by
  refine slices_breakPatternsOrdered_int_go (b + 1) ?_
  have hid : id < o.length := getElem?_lt (show o[id]? = _ from hr)
  refine bnd_of (wn (n := b - a) (by omega) (by omega)) ?_
  rw [cnd_dec]
  split
  · refine bnd_of (y := ((b - a : Nat) : Int)) (by rw [wrap_u64]; omega) (bnd_of rfl ?_)
    have g0 : Gr o (o ++ [AO.cells true [.int .u64 (0 : Int)]]) := (Gr.refl o).push _
    have c0 : Cel (o ++ [AO.cells true [.int .u64 (0 : Int)]]) o.length (.int .u64 (0 : Int)) := by simp [Cel]
    generalize (o ++ [AO.cells true [AV.int .u64 (0 : Int)]]) = o1 at g0 c0 ⊢
    obtain ⟨o2, h2, g2, c2⟩ := c0.st (.int .u64 ((b - a : Nat) : Int))
    refine ⟨o2, h2, ?_⟩
    have g2' := GrX.gr g0 (Nat.le_refl _) g2
    refine run_nextPow (by omega) (by omega) fun M hM1 hM2 => ⟨_, rfl, by omega, ?_⟩
    have q : IntKind.wrap .i64 (Int.tdiv ((b - a : Nat) : Int) 4) = (((b - a) / 4 : Nat) : Int) := by
      rw [Int.tdiv_eq_ediv_of_nonneg (by omega)]; exact wn (by omega) (by omega)
    refine bnd_of q (bnd_of (wn (n := (b - a) / 4 * 2) (by omega) (by omega)) (bnd_of (wn (n := a + (b - a) / 4 * 2) (by omega) (by omega)) (bnd_of (wn (n := a + (b - a) / 4 * 2 - 1) (by omega) (by omega)) ?_)))
    exact break_loop (o0 := o) (d0 := d) (by omega) (by omega) (by omega) hid (Nat.le_refl _) (fun o' d' g r p => rt_in (hK o' d' g r p)) _ _ d o2 _ (by omega) (by omega) (by omega) hb hsz rfl (permIn_refl _ _ _) (GrX.of_gr g2') (hr.gr g2') c2
  · exact rt_in (hK o d (GrX.refl _ _) hr (permIn_refl _ _ _))
end

/-! The recursion. -/
def PdqAt (k : Nat) : Prop := ∀ (id cap kk a b : Nat) (limit : Int) (d : Array Int) (o : OS) (K : AV → OS → Prop), b - a < k → a ≤ b → b ≤ d.size → d.size ≤ 65535 → Below ltInt a b d → Row o id d →
  (∀ (o' : OS) (d' : Array Int), GrX id o o' → Row o' id d' → PermIn a b d d' → SortedIn ltInt a b d' → K (.tuple []) o') →
  Go Try.prog n_slices_pdqsortOrdered_int [sv id d cap kk, .int .i64 a, .int .i64 b, .int .i64 limit] o K
theorem sv_of {id cap kk : Nat} {d d' : Array Int} (h : d'.size = d.size) : sv id d cap kk = sv id d' cap kk := by simp [sv, h]
section
variable {id cap kk : Nat} {o0 : OS} {n : Nat} {R : AV → OS → Prop} {k : Nat}
theorem pdq_loop (hrec : PdqAt k) : ∀ (m a b : Nat) (limit : Int) (wb wp : Bool) (d : Array Int) (o : OS), b - a < m → b - a ≤ k → a ≤ b → b ≤ d.size → d.size ≤ 65535 → Below ltInt a b d → GrX id o0 o → Row o id d →
    (∀ (o' : OS) (d' : Array Int), GrX id o0 o' → Row o' id d' → PermIn a b d d' → SortedIn ltInt a b d' → R (.tuple []) o') →
    lp m (slices_pdqsortOrdered_int_L113 (GoF Try.prog) n R) [sv id d cap kk, .int .i64 a, .int .i64 b, .int .i64 limit, .bool wb, .bool wp] o := by
  intro m
  induction m with
  | zero => intro a b limit wb wp d o h; omega
  | succ m ih =>
    intro a b limit wb wp d o hm hk hab hb hsz hB hg hr hK
    rw [lp_succ]
    refine ⟨_, _, _, _, _, _, rfl, ?_⟩
    refine bnd_of (wn (n := b - a) (by omega) (by omega)) ?_
    rw [cnd_dec]
    split
    · exact run_insertion hr (by omega) hab hb fun o' d' g r p s => hK o' d' (hg.trans g) r p s
    · rw [cnd_beq]
      split
      · exact run_heap hr (by omega) hab hb fun o' d' g r p s => hK o' d' (hg.trans g) r p s
      · rename_i h12 _
        have hlt : a < b := by omega
        rw [jp_eq]
        -- behind the patterns
        have body : ∀ (d1 : Array Int) (o1 : OS) (lim : Int), d1.size = d.size → PermIn a b d d1 → GrX id o0 o1 → Row o1 id d1 →
            slices_pdqsortOrdered_int_J108 (GoF Try.prog) n R (lp m (slices_pdqsortOrdered_int_L113 (GoF Try.prog) n R)) [sv id d cap kk, .int .i64 a, .int .i64 b, .int .i64 lim, .bool wb, .bool wp, .int .i64 ((b - a : Nat) : Int)] o1 := by
          intro d1 o1 lim hs1 p1 g1 r1
          rw [sv_of hs1]
          refine ⟨_, _, _, _, _, _, _, rfl, ?_⟩
          refine run_choosePivot r1 (by omega) hlt (by omega) fun pv hint hp1 hp2 => ⟨_, _, rfl, ?_⟩
          rw [jp_eq]
          -- behind the hint
          have body2 : ∀ (d2 : Array Int) (o2 : OS) (pv : Nat) (hint : Int), d2.size = d.size → a ≤ pv → pv < b → PermIn a b d d2 → GrX id o0 o2 → Row o2 id d2 →
              slices_pdqsortOrdered_int_J101 (GoF Try.prog) n R (lp m (slices_pdqsortOrdered_int_L113 (GoF Try.prog) n R)) [sv id d1 cap kk, .int .i64 a, .int .i64 b, .int .i64 lim, .bool wb, .bool wp, .int .i64 ((b - a : Nat) : Int), .int .i64 pv, .int .i64 hint] o2 := by
            intro d2 o2 pv hint hs2 hp1 hp2 p2 g2 r2
            rw [sv_of (show d2.size = d1.size by omega)]
            refine ⟨_, _, _, _, _, _, _, _, _, rfl, ?_⟩
            rw [jp_eq, jp_eq]
            have B2 : Below ltInt a b d2 := hB.perm hb p2
            -- behind the partial insertion sort
            have body3 : ∀ (d3 : Array Int) (o3 : OS), d3.size = d.size → PermIn a b d d3 → GrX id o0 o3 → Row o3 id d3 →
                slices_pdqsortOrdered_int_J83 (GoF Try.prog) n R (lp m (slices_pdqsortOrdered_int_L113 (GoF Try.prog) n R)) [sv id d2 cap kk, .int .i64 a, .int .i64 b, .int .i64 lim, .bool wb, .bool wp, .int .i64 ((b - a : Nat) : Int), .int .i64 pv] o3 := by
              intro d3 o3 hs3 p3 g3 r3
              rw [sv_of (show d3.size = d2.size by omega)]
              refine ⟨_, _, _, _, _, _, _, _, rfl, ?_⟩
              rw [jp_eq]
              have B3 : Below ltInt a b d3 := hB.perm hb p3
              have part : slices_pdqsortOrdered_int_J75 (GoF Try.prog) n R (lp m (slices_pdqsortOrdered_int_L113 (GoF Try.prog) n R)) [sv id d3 cap kk, .int .i64 a, .int .i64 b, .int .i64 lim, .bool wb, .bool wp, .int .i64 ((b - a : Nat) : Int), .int .i64 pv, .bool false] o3 := by
                refine ⟨_, _, _, _, _, _, _, _, _, rfl, ?_⟩
                rw [cnd_false]
                refine run_part r3 (by omega) hp1 hp2 (by omega) fun o4 g4 r4 => ⟨_, _, rfl, ?_⟩
                obtain ⟨mid, ap, d4, hx⟩ : ∃ mid ap d4, Sort.partition ltInt d3 a b pv = (mid, ap, d4) := ⟨_, _, _, rfl⟩
                rw [hx] at r4 ⊢
                simp only at r4 ⊢
                obtain ⟨m1, m2, hs4, BL, BR, fL, fR⟩ := round_part swo_ltInt (partition_holds _) hp1 hp2 (by omega) B3 hx
                refine bnd_of (wn (n := mid - a) (by omega) (by omega)) (bnd_of (wn (n := b - mid) (by omega) (by omega)) ⟨by omega, bnd_of rfl ?_⟩)
                rw [sv_of (show d4.size = d3.size by omega), cnd_dec]
                split
                · refine hrec id cap kk a mid lim d4 o4 _ (by omega) m1 (by omega) (by omega) BL r4 fun o5 d5 g5 r5 p5 s5 => ?_
                  obtain ⟨B5, f5⟩ := fL d5 p5 s5
                  have hs5 := p5.1
                  refine bnd_of (wn (n := mid + 1) (by omega) (by omega)) ?_
                  rw [sv_of (show d5.size = d4.size by omega)]
                  refine ih (mid + 1) b lim _ ap d5 o5 (by omega) (by omega) (by omega) (by omega) (by omega) B5 ((g3.trans g4).trans g5) r5 fun o6 d6 g6 r6 p6 s6 => ?_
                  obtain ⟨q1, q2⟩ := f5 d6 p6 s6
                  exact hK o6 d6 g6 r6 (permIn_trans _ _ _ a b p3 q1) q2
                · refine bnd_of (wn (n := mid + 1) (by omega) (by omega)) ?_
                  refine hrec id cap kk (mid + 1) b lim d4 o4 _ (by omega) (by omega) (by omega) (by omega) BR r4 fun o5 d5 g5 r5 p5 s5 => ?_
                  obtain ⟨B5, f5⟩ := fR d5 p5 s5
                  have hs5 := p5.1
                  rw [sv_of (show d5.size = d4.size by omega)]
                  refine ih a mid lim _ ap d5 o5 (by omega) (by omega) (by omega) (by omega) (by omega) B5 ((g3.trans g4).trans g5) r5 fun o6 d6 g6 r6 p6 s6 => ?_
                  obtain ⟨q1, q2⟩ := f5 d6 p6 s6
                  exact hK o6 d6 g6 r6 (permIn_trans _ _ _ a b p3 q1) q2
              rw [cnd_dec]
              split
              · refine bnd_of (wn (n := a - 1) (by omega) (by omega)) ⟨inb (by omega), _, r3.rd (by omega), inb (by omega), _, r3.rd (by omega), run_Less ⟨_, rfl, ?_⟩⟩
                cases hl : ltInt d3[a - 1]! d3[pv]! with
                | true => exact part
                | false =>
                  refine ⟨_, _, _, _, _, _, _, _, _, rfl, ?_⟩
                  rw [Bool.not_false, cnd_true]
                  refine run_peq r3 (by omega) hp1 hp2 (by omega) fun o4 g4 r4 => ⟨_, rfl, ?_⟩
                  obtain ⟨mid, d4, hx⟩ : ∃ mid d4, partitionEqual ltInt d3 a b pv = (mid, d4) := ⟨_, _, rfl⟩
                  rw [hx] at r4 ⊢
                  simp only at r4 ⊢
                  obtain ⟨m1, m2, hs4, B4, f4⟩ := round_eq swo_ltInt (partitionEqual_holds _) (by omega) hp1 hp2 (by omega) B3 hl hx
                  rw [sv_of (show d4.size = d3.size by omega)]
                  refine ih mid b lim wb wp d4 o4 (by omega) (by omega) (by omega) (by omega) (by omega) B4 (g3.trans g4) r4 fun o6 d6 g6 r6 p6 s6 => ?_
                  obtain ⟨q1, q2⟩ := f4 d6 p6 s6
                  exact hK o6 d6 g6 r6 (permIn_trans _ _ _ a b p3 q1) q2
              · exact part
            have pins : ∀ c : Bool, slices_pdqsortOrdered_int_J99 (GoF Try.prog) n R (slices_pdqsortOrdered_int_J83 (GoF Try.prog) n R (lp m (slices_pdqsortOrdered_int_L113 (GoF Try.prog) n R))) [sv id d2 cap kk, .int .i64 a, .int .i64 b, .int .i64 lim, .bool wb, .bool wp, .int .i64 ((b - a : Nat) : Int), .int .i64 pv, .bool c] o2 := by
              intro c
              refine ⟨_, _, _, _, _, _, _, _, _, rfl, ?_⟩
              cases c with
              | false => exact body3 d2 o2 hs2 p2 g2 r2
              | true =>
                rw [cnd_true]
                have hpi := partialInsertionSort_holds swo_ltInt d2 a b hlt (by omega) B2
                refine run_pins r2 (by omega) hlt (by omega) fun o3 g3 r3 => ⟨_, rfl, ?_⟩
                cases hc : (partialInsertionSort ltInt d2 a b).2 with
                | true =>
                  rw [cnd_true]
                  exact hK o3 _ (g2.trans g3) r3 (permIn_trans _ _ _ a b p2 hpi.1) (hpi.2 hc)
                | false =>
                  rw [cnd_false]
                  exact body3 _ o3 (by rw [hpi.1.1]; exact hs2) (permIn_trans _ _ _ a b p2 hpi.1) (g2.trans g3) r3
            cases wb with
            | false => exact pins false
            | true =>
              rw [cnd_true]
              cases wp with
              | false => exact pins false
              | true => rw [cnd_true]; exact pins _
          rw [cnd_beq]
          split
          · refine run_reverse r1 (by omega) hlt (by omega) fun o2 d2 g2 r2 p2 => ?_
            refine bnd_of (wn (n := b - 1) (by omega) (by omega)) (bnd_of (wn (n := pv - a) (by omega) (by omega)) (bnd_of (wn (n := b - 1 - (pv - a)) (by omega) (by omega)) ?_))
            exact body2 d2 o2 _ _ (by rw [p2.1]; exact hs1) (by omega) (by omega) (permIn_trans _ _ _ a b p1 p2) (g1.trans g2) r2
          · exact body2 d1 o1 pv hint hs1 hp1 hp2 p1 g1 r1
        cases wb with
        | true => exact body d o limit rfl (permIn_refl _ _ _) hg hr
        | false =>
          rw [Bool.not_false, cnd_true]
          refine run_break hr (by omega) hlt hb fun o1 d1 g1 r1 p1 => bnd_of rfl ?_
          exact body d1 o1 _ p1.1 p1 (hg.trans g1) r1
end
theorem pdq_at : ∀ k, PdqAt k
  | 0 => fun id cap kk a b limit d o K h => by omega
  | k + 1 => fun id cap kk a b limit d o K h hab hb hsz hB hr hK => by
    refine slices_pdqsortOrdered_int_go (b + 1) ?_
    exact pdq_loop (o0 := o) (pdq_at k) _ a b limit true true d o (by omega) (by omega) hab hb hsz hB (GrX.refl _ _) hr fun o' d' g r p s => rt_in (hK o' d' g r p s)

/-- THE SORT OF WHOLE NUMBERS. -/
theorem run_Sort {id cap kk : Nat} {d : Array Int} {o : OS} {K : AV → OS → Prop} (hsz : d.size ≤ 65535) (hr : Row o id d)
    (hK : ∀ (o' : OS) (d' : Array Int), GrX id o o' → Row o' id d' → d'.size = d.size → d'.toList.Perm d.toList → d'.toList.Pairwise (· ≤ ·) → K (.tuple []) o') :
    Go Try.prog n_slices_Sort__intint [sv id d cap kk] o K := by
  refine slices_Sort__intint_go 1 ?_
  refine ⟨rfl, bnd_of (y := (d.size : Int)) (by simp only [alen]; rw [wrap_u64]; omega) ?_⟩
  refine run_Len hsz fun k _ _ _ => ⟨_, rfl, ?_⟩
  refine pdq_at (d.size + 1) id cap kk 0 d.size _ d o _ (by omega) (by omega) (Nat.le_refl _) hsz (.inl rfl) hr fun o' d' g r p s => rt_in (hK o' d' g r p.1 ?_ ?_)
  · have := p.2.2
    rw [extract_toList _ _ _ (by rw [p.1]; exact Nat.le_refl _), extract_toList _ _ _ (Nat.le_refl _)] at this
    have e : ∀ (x : Array Int), x.size = d.size → (List.range' 0 (d.size - 0)).map (fun i => x[i]!) = x.toList := by
      intro x hx
      apply List.ext_getElem
      · simp [hx]
      · intro i h1 h2
        simp at h1 h2
        simp [h2]
    rwa [e d' p.1, e d rfl] at this
  · rw [List.pairwise_iff_getElem]
    intro i j hi hj hij
    have hps := p.1
    have := s i j (by omega) hij (by simp at hj; omega)
    simp [ltInt] at this
    simp at hi hj
    simpa [hi, hj] using this
end Go.Proofs.Ytlcapliakfomhaa
