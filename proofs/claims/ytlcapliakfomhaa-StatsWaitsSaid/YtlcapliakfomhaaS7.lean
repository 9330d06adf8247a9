/- Of the stats' functions: what each computes (3): ranks; the reference's sorted; that the laws' example comes out. -/
import Derived.Test.YtlcapliakfomhaaS2
import Derived.Test.YtlcapliakfomhaaS6
set_option linter.all false
namespace Go.Proofs.Ytlcapliakfomhaa
open Go Go.Ab Go.Sort

/-- Numbers as they rise. -/
def rising (l : List Int) : List Int := l.mergeSort fun a b => decide (a ≤ b)
theorem rising_of {l l' : List Int} (hp : l'.Perm l) (hs : l'.Pairwise (· ≤ ·)) : l' = rising l := by
  refine List.Perm.eq_of_pairwise (le := fun a b => decide (a ≤ b) = true) (fun a b _ _ h1 h2 => by simp only [decide_eq_true_eq] at h1 h2; omega) (hs.imp fun {a b} h => by simpa using h) ?_ (hp.trans (List.mergeSort_perm _ _).symm)
  refine List.pairwise_mergeSort ?_ ?_ _
  · intro a b c h1 h2; simp only [decide_eq_true_eq] at *; omega
  · intro a b; simp only [Bool.or_eq_true, decide_eq_true_eq]; omega
theorem rising_len (l : List Int) : (rising l).length = l.length := List.length_mergeSort _
def rankM (l : List Int) (num den : Int) : Int × Bool :=
  if l.length = 0 ∨ den < 1 ∨ den > 1000 ∨ num < 0 ∨ num > den then (0, false) else ((rising l).getD (((l.length : Int) - 1) * num / den).toNat 0, true)

/-- A copy into a new row of the same length. -/
theorem cpO_full {o : OS} {v : AV} {s : Nat} {cs old : List AV} {id cap kk : Nat} (h : Sl o v s cs) (ho : o[id]? = some (.cells true old)) (hl : old.length = cs.length) (hone : cs.all AV.one = true) (h0 : 0 < alen v) :
    cpO s (.slice id 0 (alen v).toNat cap kk) v o = some (alen v, o.set id (.cells true cs)) := by
  have hm := h.alen_mul
  unfold cpO
  rw [h.newOf]
  simp only
  rw [show Nat.min (alen v).toNat (alen v).toNat = (alen v).toNat from Nat.min_self _, if_neg (by omega), ho]
  simp only
  rw [if_pos ⟨by omega, by rw [← hm, List.take_length]; exact hone, hm⟩]
  rw [← hm, List.take_length]
  simp only [splice, List.take_zero, List.nil_append, Nat.zero_add]
  rw [List.drop_eq_nil_of_le (by omega), List.append_nil]
  have : ((alen v).toNat : Int) = alen v := by omega
  rw [this]

theorem row_ints {o : OS} {id cap kk : Nat} {d : Array Int} (h : Row o id d) (hs : d.size ≤ 65535) : Ints o (sv id d cap kk) d.toList := by
  have := Ints.of_own (cap := cap) (k := kk) (l := d.toList) h (by simp; omega)
  simpa [sv] using this
theorem all_one_ints (l : List Int) : (l.flatMap eInt).all AV.one = true := by
  rw [flat_eInt]; simp [AV.one]
theorem ix_range {n : Nat} {num den : Int} (hn : 0 < n) (hd : 1 ≤ den) (h0 : 0 ≤ num) (h1 : num ≤ den) : 0 ≤ ((n : Int) - 1) * num / den ∧ ((n : Int) - 1) * num / den < n := by
  have a0 : 0 ≤ ((n : Int) - 1) * num := Int.mul_nonneg (by omega) h0
  refine ⟨Int.ediv_nonneg a0 (by omega), ?_⟩
  refine Int.ediv_lt_of_lt_mul (by omega) ?_
  have : ((n : Int) - 1) * num ≤ ((n : Int) - 1) * den := Int.mul_le_mul_of_nonneg_left h1 (by omega)
  have e : (n : Int) * den = ((n : Int) - 1) * den + den := by rw [Int.sub_mul]; omega
  rw [e]; omega
theorem ix_small {n : Nat} {num den : Int} (hn : 0 < n) (hn2 : n ≤ 65535) (h0 : 0 ≤ num) (h1 : num ≤ den) (hd : den ≤ 1000) : 0 ≤ ((n : Int) - 1) * num ∧ ((n : Int) - 1) * num ≤ 65535000 := by
  refine ⟨Int.mul_nonneg (by omega) h0, ?_⟩
  have h2 : ((n : Int) - 1) * num ≤ ((n : Int) - 1) * 1000 := Int.mul_le_mul_of_nonneg_left (by omega) (by omega)
  omega

theorem run_Rank {o : OS} {v : AV} {l : List Int} {num den : Int} {K : AV → OS → Prop} (hv : Ints o v l) (hl : l.length ≤ 65535) (hK : K (.tuple [.int .i64 (rankM l num den).1, .bool (rankM l num den).2]) o) :
    Go Try.prog n_stats_Rank [v, .int .i64 num, .int .i64 den] o K := by
  refine stats_Rank_go 1 ?_
  unfold stats_Rank
  rw [jp_eq]
  refine ⟨hv.isS, ?_⟩
  have body : ∀ b : Bool, b = decide (l.length = 0 ∨ den < 1 ∨ den > 1000 ∨ num < 0 ∨ num > den) → stats_Rank_J15 (GoF Try.prog) 1 (rt o K) [v, .int .i64 num, .int .i64 den, .bool b] o := by
    intro b hb
    refine ⟨_, _, _, _, rfl, ?_⟩
    subst hb
    rw [cnd_dec]
    unfold rankM at hK
    split
    · rename_i h
      rw [if_pos h] at hK
      exact rt_in hK
    · rename_i h
      rw [if_neg h] at hK
      have hlen := hv.ilen
      have hv' := hv.gr ((Gr.refl o).push [AO.cells true (times [.int .i64 (0 : Int)] (Int.toNat (alen v)))])
      have hix := ix_range (n := l.length) (num := num) (den := den) (by omega) (by omega) (by omega) (by omega)
      have hsm := ix_small (n := l.length) (num := num) (den := den) (by omega) hl (by omega) (by omega) (by omega)
      refine ⟨hv.isS, by omega, bnd_of rfl ⟨_, _, cpO_full hv' (by simp; rfl) (by simp [times_rep, flat_eInt, hlen]) (all_one_ints l) (by omega), ?_⟩⟩
      have hrow : Row ((o ++ [AO.cells true (times [.int .i64 (0 : Int)] (Int.toNat (alen v)))]).set o.length (.cells true (l.flatMap eInt))) o.length l.toArray := by
        unfold Row
        rw [List.getElem?_set_self (by simp), flat_eInt]
      have hg0 : Gr o ((o ++ [AO.cells true (times [.int .i64 (0 : Int)] (Int.toNat (alen v)))]).set o.length (.cells true (l.flatMap eInt))) := ((Gr.refl o).push _).set (Nat.le_refl _) _
      generalize ((o ++ [AO.cells true (times [AV.int .i64 (0 : Int)] (Int.toNat (alen v)))]).set o.length (.cells true (l.flatMap eInt))) = o8 at hrow hg0 ⊢
      have esv : (AV.slice (List.length o) 0 (Int.toNat (alen v)) (Int.toNat (alen v)) 0) = sv o.length l.toArray (alen v).toNat 0 := by simp [sv, hlen]
      rw [esv]
      refine run_Sort (by simpa using hl) hrow fun o9 d' g r hs hp hso => ⟨hv.isS, ?_⟩
      have hg9 := GrX.gr hg0 (Nat.le_refl _) g
      simp at hs
      refine bnd_of (y := (l.length : Int) - 1) (by rw [wrap_id (by omega) (by omega)]; omega) (bnd_of (wrap_id (by omega) (by omega)) ⟨by omega, bnd_of (y := ((l.length : Int) - 1) * num / den) ?_ ⟨?_, (rising l).getD (((l.length : Int) - 1) * num / den).toNat 0, ?_, ?_⟩⟩)
      · rw [Int.tdiv_eq_ediv_of_nonneg hsm.1, wrap_id (by omega) (by omega)]
      · simp [alen]; omega
      · have := row_ints (cap := (alen v).toNat) (kk := 0) r (by omega)
        have e : sv o.length d' (alen v).toNat 0 = sv o.length l.toArray (alen v).toNat 0 := by simp [sv, hs]
        have hd : d'.toList = rising l := rising_of (by simpa using hp) hso
        rw [hd, e] at this
        exact this.ild (getD_of (by rw [rising_len]; omega)) hix.1
      · exact rt_old rfl hg9 hK
  rw [hv.ilen, cnd_beq]
  split
  · exact body true (decide_eq_true (by omega)).symm
  · rw [cnd_dec]
    split
    · exact body true (decide_eq_true (by omega)).symm
    · rw [cnd_dec]
      split
      · exact body true (decide_eq_true (by omega)).symm
      · rw [cnd_dec]
        split
        · exact body true (decide_eq_true (by omega)).symm
        · exact body _ (decide_eq_decide.2 (by omega))

/-! The reference's sorted. -/
section
variable {n : Nat} {R : AV → OS → Prop} {id cap kk : Nat} {o0 : OS}
theorem rs_inner {N i : Nat} {j21 : List AV → OS → Prop} : ∀ (m j : Nat) (d : Array Int) (o : OS), j < m → j < d.size → d.size ≤ 65535 → GrX id o0 o → Row o id d →
    (∀ o', GrX id o0 o' → Row o' id (insInner ltInt 0 j d) → j21 [sv id d cap kk, .int .i64 N, .int .i64 i] o') →
    lp m (twainref47_sorted_L48 (GoF Try.prog) n R j21) [sv id d cap kk, .int .i64 j, .int .i64 N, .int .i64 i] o := by
  intro m
  induction m with
  | zero => intro j d o h; omega
  | succ m ih =>
    intro j d o hm hj hsz hg hr hJ
    rw [lp_succ]
    refine ⟨_, _, _, _, rfl, ?_⟩
    rw [jp_eq, cnd_dec]
    cases j with
    | zero =>
      rw [if_neg (by omega)]
      refine ⟨_, _, _, _, _, rfl, ?_⟩
      rw [cnd_false]
      exact hJ o hg hr
    | succ j =>
      rw [if_pos (by omega)]
      have e1 : IntKind.wrap .i64 (((j + 1 : Nat) : Int) - 1) = (j : Int) := wn (by omega) (by omega)
      refine bnd_of e1 ⟨inb (by omega), _, hr.rd (by omega), inb hj, _, hr.rd hj, ?_⟩
      refine ⟨_, _, _, _, _, rfl, ?_⟩
      simp only [insInner] at hJ
      have el : decide (d[j]! > d[j + 1]!) = ltInt d[j + 1]! d[j]! := rfl
      rw [el]
      cases hl : ltInt d[j + 1]! d[j]! with
      | false =>
        rw [cnd_false]
        rw [hl, Bool.and_false, if_neg (by simp)] at hJ
        exact hJ o hg hr
      | true =>
        rw [cnd_true]
        rw [hl, if_pos (by simp)] at hJ
        refine bnd_of e1 ⟨inb hj, _, hr.rd hj, bnd_of e1 ⟨inb (by omega), _, hr.rd (by omega), inb (by omega), ?_⟩⟩
        obtain ⟨o2, h1, g1, r1⟩ := hr.st (cap := cap) (kk := kk) (i := j) (by omega) d[j + 1]!
        refine ⟨o2, h1, inb hj, ?_⟩
        obtain ⟨o3, h2, g2, r2⟩ := r1.st (cap := cap) (kk := kk) (i := j + 1) (by simpa using hj) d[j]!
        have e : sv id (d.setIfInBounds j d[j + 1]!) cap kk = sv id d cap kk := by simp [sv]
        rw [e] at h2
        refine ⟨o3, h2, bnd_of e1 ?_⟩
        have esw : (d.setIfInBounds j d[j + 1]!).setIfInBounds (j + 1) d[j]! = swp d (j + 1) j := by
          unfold swp
          apply Array.ext_getElem?
          intro i
          simp only [Array.getElem?_setIfInBounds, Array.size_setIfInBounds]
          by_cases h1 : j + 1 = i <;> by_cases h2 : j = i <;> simp [h1, h2] <;> omega
        rw [esw] at r2
        have := ih j (swp d (j + 1) j) o3 (by omega) (by rw [size_swp]; omega) (by rw [size_swp]; omega) (hg.trans (g1.trans g2)) r2 (by simpa only [sv, size_swp] using hJ)
        simpa only [sv, size_swp] using this
theorem rs_size (j : Nat) : ∀ (d : Array Int), (insInner ltInt 0 j d).size = d.size := by
  induction j with
  | zero => intro d; rfl
  | succ j ih =>
    intro d
    rw [insInner]
    split
    · rw [ih, size_swp]
    · rfl
theorem rs_outer : ∀ (m i : Nat) (d : Array Int) (o : OS), d.size - i < m → i ≤ d.size → d.size ≤ 65535 → d.size < n → GrX id o0 o → Row o id d →
    (∀ o', GrX id o0 o' → Row o' id (insOuter ltInt 0 d.size i d) → R (sv id d cap kk) o') →
    lp m (twainref47_sorted_L49 (GoF Try.prog) n R (twainref47_sorted_J6 (GoF Try.prog) n R)) [sv id d cap kk, .int .i64 d.size, .int .i64 i] o := by
  intro m
  induction m with
  | zero => intro i d o h; omega
  | succ m ih =>
    intro i d o hm hi hsz hnn hg hr hK
    rw [lp_succ]
    refine ⟨_, _, _, rfl, ?_⟩
    rw [cnd_dec]
    rw [insOuter] at hK
    split
    · rw [if_pos (by omega)] at hK
      rw [jp_eq]
      refine rs_inner (o0 := o0) n i d o (by omega) (by omega) hsz hg hr fun o' g' r' => ?_
      refine ⟨_, _, _, rfl, bnd_of (wn (n := i + 1) (by omega) (by omega)) ?_⟩
      have hs := rs_size i d
      have := ih (i + 1) (insInner ltInt 0 i d) o' (by omega) (by omega) (by omega) (by omega) g' r' (by simpa only [sv, hs] using hK)
      simpa only [sv, hs] using this
    · rw [if_neg (by omega)] at hK
      exact ⟨_, rfl, hK o hg hr⟩
end
theorem insOuter_rising (d : Array Int) (hsz : d.size ≤ 65535) : (insOuter ltInt 0 d.size 0 d).toList = rising d.toList ∧ (insOuter ltInt 0 d.size 0 d).size = d.size := by
  rcases Nat.eq_zero_or_pos d.size with hz | hp
  · rw [insOuter, if_neg (by omega)]
    have : d.toList = [] := List.eq_nil_of_length_eq_zero (by simpa using hz)
    refine ⟨?_, rfl⟩
    rw [this]; simp [rising]
  · have e : insOuter ltInt 0 d.size 0 d = insertionSort ltInt d 0 d.size := by
      rw [insOuter, if_pos hp]; rfl
    have h := insertionSort_holds (lt := ltInt) swo_ltInt d 0 d.size (by omega) (Nat.le_refl _)
    rw [e]
    refine ⟨?_, h.1.1⟩
    generalize insertionSort ltInt d 0 d.size = d' at h
    have hsz' := h.1.1
    have hp := h.1.2.2
    rw [extract_toList _ _ _ (by omega), extract_toList _ _ _ (Nat.le_refl _)] at hp
    have e : ∀ (x : Array Int), x.size = d.size → (List.range' 0 (d.size - 0)).map (fun i => x[i]!) = x.toList := by
      intro x hx
      apply List.ext_getElem
      · simp [hx]
      · intro i h1 h2
        simp at h1 h2
        simp [h2]
    rw [e d' hsz', e d rfl] at hp
    refine rising_of hp ?_
    rw [List.pairwise_iff_getElem]
    intro i j hi hj hij
    have := h.2 i j (by omega) hij (by simp at hj; omega)
    simp [ltInt] at this
    simp at hi hj
    simpa [hi, hj] using this
theorem run_sorted {o : OS} {v : AV} {l : List Int} {K : AV → OS → Prop} (hv : Ints o v l) (hl : l.length ≤ 65535) (hK : ∀ o' w, Gr o o' → Ints o' w (rising l) → K w o') : Go Try.prog n_twainref47_sorted [v] o K := by
  refine twainref47_sorted_go (l.length + 2) ?_
  refine bnd_of rfl ?_
  have hlen := hv.ilen
  obtain ⟨id, k, o', h1, g1, hid, ho⟩ := appO_clone (b := 8) hv (all_one_ints l) (by omega) (by omega) (by omega)
  refine ⟨_, _, h1, ?_⟩
  rw [jp_eq]
  refine ⟨rfl, ?_⟩
  rw [flat_eInt] at ho
  have e : AV.slice id 0 (alen v).toNat (alen v).toNat k = sv id l.toArray (alen v).toNat k := by simp [sv, hlen]
  rw [e]
  have hr : Row o' id l.toArray := by unfold Row; rw [ho]
  have hrs := insOuter_rising l.toArray (by simpa using hl)
  have := rs_outer (R := rt o K) (n := l.length + 2) (id := id) (cap := (alen v).toNat) (kk := k) (o0 := o') (l.length + 2) 0 l.toArray o' (by simp) (by simp) (by simpa using hl) (by simp) (GrX.refl _ _) hr fun o2 g2 r2 => rt_in (hK o2 _ (GrX.gr g1 hid g2) ?_)
  · simpa [alen, sv] using this
  · have := row_ints (cap := (alen v).toNat) (kk := k) r2 (by rw [hrs.2]; simpa using hl)
    rw [hrs.1] at this
    have h2 := hrs.2
    simp at h2
    simpa [sv, h2] using this
theorem run_rRank {o : OS} {v : AV} {l : List Int} {num den : Int} {K : AV → OS → Prop} (hv : Ints o v l) (hl : l.length ≤ 65535) (hK : K (.tuple [.int .i64 (rankM l num den).1, .bool (rankM l num den).2]) o) :
    Go Try.prog n_twainref47_Rank [v, .int .i64 num, .int .i64 den] o K := by
  refine twainref47_Rank_go 1 ?_
  unfold twainref47_Rank
  rw [jp_eq]
  refine ⟨hv.isS, ?_⟩
  have body : ∀ b : Bool, b = decide (l.length = 0 ∨ den < 1 ∨ den > 1000 ∨ num < 0 ∨ num > den) → twainref47_Rank_J12 (GoF Try.prog) 1 (rt o K) [v, .int .i64 num, .int .i64 den, .bool b] o := by
    intro b hb
    refine ⟨_, _, _, _, rfl, ?_⟩
    subst hb
    rw [cnd_dec]
    unfold rankM at hK
    split
    · rename_i h
      rw [if_pos h] at hK
      exact rt_in hK
    · rename_i h
      rw [if_neg h] at hK
      have hlen := hv.ilen
      have hix := ix_range (n := l.length) (num := num) (den := den) (by omega) (by omega) (by omega) (by omega)
      have hsm := ix_small (n := l.length) (num := num) (den := den) (by omega) hl (by omega) (by omega) (by omega)
      refine ⟨hv.isS, bnd_of (y := (l.length : Int) - 1) (by rw [wrap_id (by omega) (by omega)]; omega) (bnd_of (wrap_id (by omega) (by omega)) ⟨by omega, bnd_of (y := ((l.length : Int) - 1) * num / den) ?_ ?_⟩)⟩
      · rw [Int.tdiv_eq_ediv_of_nonneg hsm.1, wrap_id (by omega) (by omega)]
      · refine run_sorted hv hl fun o' w g hw => ⟨hv.isS, rfl, by simp [beqA], ⟨hix.1, by rw [hw.ilen, rising_len]; exact hix.2⟩, _, hw.ild (getD_of (by rw [rising_len]; omega)) hix.1, rt_old rfl g hK⟩
  rw [hv.ilen, cnd_beq]
  split
  · exact body true (decide_eq_true (by omega)).symm
  · rw [cnd_dec]
    split
    · exact body true (decide_eq_true (by omega)).symm
    · rw [cnd_dec]
      split
      · exact body true (decide_eq_true (by omega)).symm
      · rw [cnd_dec]
        split
        · exact body true (decide_eq_true (by omega)).symm
        · exact body _ (decide_eq_decide.2 (by omega))

theorem lives_eq : callF Try.prog 1000 100 (.func n_twainlaw47_lives) [] ⟨[], some []⟩ (fun v _ => v = .bool true) = (AV.bool true = AV.bool true) := by kernel_rfl
theorem run_lives {o : OS} {K : AV → OS → Prop} (hK : K (.bool true) o) : Go Try.prog n_twainlaw47_lives [] o K :=
  Go.alone sane rfl rfl (Run.of_eq rfl lives_eq) hK
end Go.Proofs.Ytlcapliakfomhaa
