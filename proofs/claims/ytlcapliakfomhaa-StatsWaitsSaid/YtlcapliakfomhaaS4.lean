/- The library's sort of whole numbers: what each of its functions computes (2): the partitions. -/
import Derived.Test.YtlcapliakfomhaaS3
set_option linter.all false
namespace Go.Proofs.Ytlcapliakfomhaa
open Go Go.Ab Go.Sort

/-! A scan: a loop that changes nothing but its counter. -/
section
variable {id cap kk : Nat} {o : OS} {d : Array Int} {a : Nat}
theorem scan_up {F : (List AV → OS → Prop) → List AV → OS → Prop} {J : List AV → OS → Prop} {p : Int → Bool} {j : Nat}
    (hF : ∀ (X : List AV → OS → Prop) (i : Nat), (i ≤ j + 1) → (if i ≤ j ∧ p d[i]! = true then X [sv id d cap kk, .int .i64 a, .int .i64 ((i + 1 : Nat) : Int), .int .i64 j] o else J [sv id d cap kk, .int .i64 a, .int .i64 i, .int .i64 j] o) → F X [sv id d cap kk, .int .i64 a, .int .i64 i, .int .i64 j] o) :
    ∀ (m i : Nat), j + 1 - i < m → i ≤ j + 1 → J [sv id d cap kk, .int .i64 a, .int .i64 (scanUp p d j i : Nat), .int .i64 j] o → lp m F [sv id d cap kk, .int .i64 a, .int .i64 i, .int .i64 j] o := by
  intro m
  induction m with
  | zero => intro i h; omega
  | succ m ih =>
    intro i hm hi hJ
    rw [lp_succ]
    refine hF _ _ hi ?_
    rw [scanUp] at hJ
    by_cases h : i ≤ j ∧ p d[i]! = true
    · rw [if_pos h]
      rw [if_pos (by simp [h])] at hJ
      exact ih (i + 1) (by omega) (by omega) hJ
    · rw [if_neg h]
      rw [if_neg (by simpa using h)] at hJ
      exact hJ
theorem scan_down {F : (List AV → OS → Prop) → List AV → OS → Prop} {J : List AV → OS → Prop} {p : Int → Bool} {i : Nat} (hi : 1 ≤ i)
    (hF : ∀ (X : List AV → OS → Prop) (j : Nat), j < d.size → (if i ≤ j ∧ p d[j]! = true then X [sv id d cap kk, .int .i64 a, .int .i64 i, .int .i64 ((j - 1 : Nat) : Int)] o else J [sv id d cap kk, .int .i64 a, .int .i64 i, .int .i64 j] o) → F X [sv id d cap kk, .int .i64 a, .int .i64 i, .int .i64 j] o) :
    ∀ (m j : Nat), j < m → j < d.size → J [sv id d cap kk, .int .i64 a, .int .i64 i, .int .i64 (scanDown p d i j : Nat)] o → lp m F [sv id d cap kk, .int .i64 a, .int .i64 i, .int .i64 j] o := by
  intro m
  induction m with
  | zero => intro j h; omega
  | succ m ih =>
    intro j hm hj hJ
    rw [lp_succ]
    refine hF _ _ hj ?_
    cases j with
    | zero =>
      rw [if_neg (by omega)]
      exact hJ
    | succ j =>
      rw [scanDown] at hJ
      by_cases h : i ≤ j + 1 ∧ p d[j + 1]! = true
      · rw [if_pos h]
        rw [if_pos (by simp [h])] at hJ
        exact ih j (by omega) (by omega) hJ
      · rw [if_neg h]
        rw [if_neg (by simpa using h)] at hJ
        exact hJ
end

section
variable {n : Nat} {R : AV → OS → Prop} {id cap kk : Nat} {o0 o : OS} {d : Array Int} {a : Nat}
/-! partitionEqual -/
theorem peq_up {j10 X11 : List AV → OS → Prop} (hr : Row o id d) (hsz : d.size ≤ 1152921504606846976) (ha : a < d.size) {J : List AV → OS → Prop} {i j : Nat} (hj : j < d.size) (hi : i ≤ j + 1) (hn : d.size + 1 < n)
    (hJ : J [sv id d cap kk, .int .i64 a, .int .i64 (scanUp (fun x => !ltInt d[a]! x) d j i : Nat), .int .i64 j] o) :
    lp n (slices_partitionEqualOrdered_int_L85 (GoF Try.prog) n R J) [sv id d cap kk, .int .i64 a, .int .i64 i, .int .i64 j] o := by
  refine scan_up (p := fun x => !ltInt d[a]! x) (J := J) (fun X i hij h => ?_) n i (by omega) hi hJ
  refine ⟨_, _, _, _, rfl, ?_⟩
  have fin : ∀ b : Bool, b = (decide (i ≤ j) && !ltInt d[a]! d[i]!) → slices_partitionEqualOrdered_int_J78 (GoF Try.prog) n R X J [sv id d cap kk, .int .i64 a, .int .i64 i, .int .i64 j, .bool b] o := by
    intro b hb
    refine ⟨_, _, _, _, _, rfl, ?_⟩
    cases b with
    | true =>
      rw [cnd_true]
      rw [if_pos (by simpa using hb.symm)] at h
      exact bnd_of (wn (n := i + 1) (by omega) (by omega)) h
    | false =>
      rw [cnd_false]
      rw [if_neg (by simpa using hb.symm)] at h
      exact h
  rw [jp_eq, cnd_dec]
  split
  · refine ⟨inb ha, _, hr.rd ha, inb (by omega), _, hr.rd (by omega), run_Less ⟨_, rfl, ?_⟩⟩
    refine fin _ ?_
    rw [decide_eq_true (by omega), Bool.true_and]
  · refine fin _ ?_
    rw [decide_eq_false (by omega), Bool.false_and]
theorem peq_down (hr : Row o id d) (hsz : d.size ≤ 1152921504606846976) (ha : a < d.size) {J : List AV → OS → Prop} {i j : Nat} (hj : j < d.size) (hi : 1 ≤ i) (hn : d.size + 1 < n)
    (hJ : J [sv id d cap kk, .int .i64 a, .int .i64 i, .int .i64 (scanDown (fun x => ltInt d[a]! x) d i j : Nat)] o) :
    lp n (slices_partitionEqualOrdered_int_L60 (GoF Try.prog) n R J) [sv id d cap kk, .int .i64 a, .int .i64 i, .int .i64 j] o := by
  refine scan_down (p := fun x => ltInt d[a]! x) (J := J) hi (fun X j hjj h => ?_) n j (by omega) hj hJ
  refine ⟨_, _, _, _, rfl, ?_⟩
  have fin : ∀ b : Bool, b = (decide (i ≤ j) && ltInt d[a]! d[j]!) → slices_partitionEqualOrdered_int_J53 (GoF Try.prog) n R X J [sv id d cap kk, .int .i64 a, .int .i64 i, .int .i64 j, .bool b] o := by
    intro b hb
    refine ⟨_, _, _, _, _, rfl, ?_⟩
    cases b with
    | true =>
      rw [cnd_true]
      have hb' : i ≤ j ∧ ltInt d[a]! d[j]! = true := by simpa using hb.symm
      rw [if_pos hb'] at h
      exact bnd_of (wn (n := j - 1) (by omega) (by omega)) h
    | false =>
      rw [cnd_false]
      rw [if_neg (by simpa using hb.symm)] at h
      exact h
  rw [jp_eq, cnd_dec]
  split
  · refine ⟨inb ha, _, hr.rd ha, inb (by omega), _, hr.rd (by omega), run_Less ⟨_, rfl, ?_⟩⟩
    refine fin _ ?_
    rw [decide_eq_true (by omega), Bool.true_and]
  · refine fin _ ?_
    rw [decide_eq_false (by omega), Bool.false_and]
theorem peq_loop {b : Nat} : ∀ (m i j : Nat) (d : Array Int) (o : OS), j + 1 - i < m → a < i → i ≤ j + 1 → j < b → b ≤ d.size → d.size ≤ 1152921504606846976 → d.size + 1 < n → GrX id o0 o → Row o id d →
    (∀ o', GrX id o0 o' → Row o' id (partEqLoop ltInt a i j d).2 → R (.int .i64 ((partEqLoop ltInt a i j d).1 : Nat)) o') →
    lp m (slices_partitionEqualOrdered_int_L86 (GoF Try.prog) n R (slices_partitionEqualOrdered_int_J9 (GoF Try.prog) n R)) [sv id d cap kk, .int .i64 a, .int .i64 i, .int .i64 j] o := by
  intro m
  induction m with
  | zero => intro i j d o h; omega
  | succ m ih =>
    intro i j d o hm hai hij hjb hb hsz hnn hg hr hK
    rw [lp_succ]
    refine ⟨_, _, _, _, rfl, ?_⟩
    rw [partEqLoop_eq] at hK
    have u := scanUp_spec (fun x => !ltInt d[a]! x) d j _ i rfl
    generalize hi2 : scanUp (fun x => !ltInt d[a]! x) d j i = i2 at hK u
    have dn := scanDown_le (fun x => ltInt d[a]! x) d i2 j
    have ds := scanDown_spec (fun x => ltInt d[a]! x) d i2 j
    have u1 := u.1
    have u2 := u.2.1 hij
    have u4 := u.2.2.2
    rw [jp_eq]
    refine peq_up (j10 := fun _ _ => True) (X11 := fun _ _ => True) hr hsz (by omega) (by omega) hij hnn ?_
    rw [hi2]
    refine ⟨_, _, _, _, rfl, ?_⟩
    rw [jp_eq]
    refine peq_down hr hsz (by omega) (by omega) (by omega) hnn ?_
    generalize hj2 : scanDown (fun x => ltInt d[a]! x) d i2 j = j2 at hK dn ds
    have ne : i2 ≠ j2 := by
      rintro rfl
      have h1 := u4 (by omega)
      have h2 := ds.2.2.2 (by omega) (by omega)
      try simp only at h1 h2
      first | (rw [h2] at h1; simp at h1; done) | (rw [h1] at h2; simp at h2; done)
    refine ⟨_, _, _, _, rfl, ?_⟩
    rw [cnd_dec]
    split
    · rw [if_pos (by omega)] at hK
      exact ⟨_, rfl, hK o hg hr⟩
    · rw [if_neg (by omega)] at hK
      refine swap_step hr (by omega) (by omega) fun o' g' r' => ?_
      refine bnd_of (wn (n := i2 + 1) (by omega) (by omega)) (bnd_of (wn (n := j2 - 1) (by omega) (by omega)) ?_)
      have := ih (i2 + 1) (j2 - 1) (swp d i2 j2) o' (by omega) (by omega) (by omega) (by omega) (by rw [size_swp]; omega) (by rw [size_swp]; omega) (by rw [size_swp]; omega) (hg.trans g') r' hK
      simpa only [sv, size_swp] using this
theorem run_peq {b pivot : Nat} {K : AV → OS → Prop} (hr : Row o id d) (hsz : d.size ≤ 1152921504606846976) (hap : a ≤ pivot) (hpb : pivot < b) (hb : b ≤ d.size)
    (hK : ∀ o', GrX id o o' → Row o' id (partitionEqual ltInt d a b pivot).2 → K (.int .i64 ((partitionEqual ltInt d a b pivot).1 : Nat)) o') :
    Go Try.prog n_slices_partitionEqualOrdered_int [sv id d cap kk, .int .i64 a, .int .i64 b, .int .i64 pivot] o K := by
  refine slices_partitionEqualOrdered_int_go (d.size + 3) ?_
  refine swap_step hr (i := a) (by omega) (by omega) fun o' g' r' => ?_
  refine bnd_of (wn (n := a + 1) (by omega) (by omega)) (bnd_of (wn (n := b - 1) (by omega) (by omega)) ?_)
  rw [jp_eq]
  have := peq_loop (R := rt o K) (n := d.size + 3) (id := id) (cap := cap) (kk := kk) (o0 := o) (a := a) (b := b) (d.size + 3) (a + 1) (b - 1) (swp d a pivot) o' (by omega) (by omega) (by omega) (by omega) (by rw [size_swp]; omega) (by rw [size_swp]; omega) (by rw [size_swp]; omega) g' r' (fun o2 g2 r2 => rt_in (hK o2 g2 r2))
  simpa only [sv, size_swp] using this

/-! partition: the scans stand there twice. -/
theorem part_up1 (hr : Row o id d) (hsz : d.size ≤ 1152921504606846976) (ha : a < d.size) {J : List AV → OS → Prop} {i j : Nat} (hj : j < d.size) (hi : i ≤ j + 1) (hn : d.size + 1 < n)
    (hJ : J [sv id d cap kk, .int .i64 a, .int .i64 (scanUp (fun x => ltInt x d[a]!) d j i : Nat), .int .i64 j] o) :
    lp n (slices_partitionOrdered_int_L164 (GoF Try.prog) n R J) [sv id d cap kk, .int .i64 a, .int .i64 i, .int .i64 j] o := by
  refine scan_up (p := fun x => ltInt x d[a]!) (J := J) (fun X i hij h => ?_) n i (by omega) hi hJ
  refine ⟨_, _, _, _, rfl, ?_⟩
  have fin : ∀ b : Bool, b = (decide (i ≤ j) && ltInt d[i]! d[a]!) → slices_partitionOrdered_int_J157 (GoF Try.prog) n R X J [sv id d cap kk, .int .i64 a, .int .i64 i, .int .i64 j, .bool b] o := by
    intro b hb
    refine ⟨_, _, _, _, _, rfl, ?_⟩
    cases b with
    | true =>
      rw [cnd_true]
      rw [if_pos (by simpa using hb.symm)] at h
      exact bnd_of (wn (n := i + 1) (by omega) (by omega)) h
    | false =>
      rw [cnd_false]
      rw [if_neg (by simpa using hb.symm)] at h
      exact h
  rw [jp_eq, cnd_dec]
  split
  · refine ⟨inb (by omega), _, hr.rd (by omega), inb ha, _, hr.rd ha, run_Less ⟨_, rfl, ?_⟩⟩
    refine fin _ ?_
    rw [decide_eq_true (by omega), Bool.true_and]
  · refine fin _ ?_
    rw [decide_eq_false (by omega), Bool.false_and]
theorem part_down1 (hr : Row o id d) (hsz : d.size ≤ 1152921504606846976) (ha : a < d.size) {J : List AV → OS → Prop} {i j : Nat} (hj : j < d.size) (hi : 1 ≤ i) (hn : d.size + 1 < n)
    (hJ : J [sv id d cap kk, .int .i64 a, .int .i64 i, .int .i64 (scanDown (fun x => !ltInt x d[a]!) d i j : Nat)] o) :
    lp n (slices_partitionOrdered_int_L139 (GoF Try.prog) n R J) [sv id d cap kk, .int .i64 a, .int .i64 i, .int .i64 j] o := by
  refine scan_down (p := fun x => !ltInt x d[a]!) (J := J) hi (fun X j hjj h => ?_) n j (by omega) hj hJ
  refine ⟨_, _, _, _, rfl, ?_⟩
  have fin : ∀ b : Bool, b = (decide (i ≤ j) && !ltInt d[j]! d[a]!) → slices_partitionOrdered_int_J132 (GoF Try.prog) n R X J [sv id d cap kk, .int .i64 a, .int .i64 i, .int .i64 j, .bool b] o := by
    intro b hb
    refine ⟨_, _, _, _, _, rfl, ?_⟩
    cases b with
    | true =>
      rw [cnd_true]
      have hb' : i ≤ j ∧ (!ltInt d[j]! d[a]!) = true := by simpa using hb.symm
      rw [if_pos hb'] at h
      exact bnd_of (wn (n := j - 1) (by omega) (by omega)) h
    | false =>
      rw [cnd_false]
      rw [if_neg (by simpa using hb.symm)] at h
      exact h
  rw [jp_eq, cnd_dec]
  split
  · refine ⟨inb (by omega), _, hr.rd (by omega), inb ha, _, hr.rd ha, run_Less ⟨_, rfl, ?_⟩⟩
    refine fin _ ?_
    rw [decide_eq_true (by omega), Bool.true_and]
  · refine fin _ ?_
    rw [decide_eq_false (by omega), Bool.false_and]
theorem part_up2 (hr : Row o id d) (hsz : d.size ≤ 1152921504606846976) (ha : a < d.size) {J : List AV → OS → Prop} {i j : Nat} (hj : j < d.size) (hi : i ≤ j + 1) (hn : d.size + 1 < n)
    (hJ : J [sv id d cap kk, .int .i64 a, .int .i64 (scanUp (fun x => ltInt x d[a]!) d j i : Nat), .int .i64 j] o) :
    lp n (slices_partitionOrdered_int_L113 (GoF Try.prog) n R J) [sv id d cap kk, .int .i64 a, .int .i64 i, .int .i64 j] o :=
  part_up1 (R := R) hr hsz ha hj hi hn hJ
theorem part_down2 (hr : Row o id d) (hsz : d.size ≤ 1152921504606846976) (ha : a < d.size) {J : List AV → OS → Prop} {i j : Nat} (hj : j < d.size) (hi : 1 ≤ i) (hn : d.size + 1 < n)
    (hJ : J [sv id d cap kk, .int .i64 a, .int .i64 i, .int .i64 (scanDown (fun x => !ltInt x d[a]!) d i j : Nat)] o) :
    lp n (slices_partitionOrdered_int_L88 (GoF Try.prog) n R J) [sv id d cap kk, .int .i64 a, .int .i64 i, .int .i64 j] o :=
  part_down1 (R := R) hr hsz ha hj hi hn hJ
theorem part_loop {b : Nat} {j38 : List AV → OS → Prop} : ∀ (m i j : Nat) (d : Array Int) (o : OS), j + 1 - i < m → a < i → i ≤ j + 1 → j < b → b ≤ d.size → d.size ≤ 1152921504606846976 → d.size + 1 < n → GrX id o0 o → Row o id d →
    (∀ o', GrX id o0 o' → Row o' id (partLoop ltInt a i j d).2 → j38 [sv id d cap kk, .int .i64 a, .int .i64 ((partLoop ltInt a i j d).1 : Nat)] o') →
    lp m (slices_partitionOrdered_int_L114 (GoF Try.prog) n R j38) [sv id d cap kk, .int .i64 a, .int .i64 i, .int .i64 j] o := by
  intro m
  induction m with
  | zero => intro i j d o h; omega
  | succ m ih =>
    intro i j d o hm hai hij hjb hb hsz hnn hg hr hK
    rw [lp_succ]
    refine ⟨_, _, _, _, rfl, ?_⟩
    rw [partLoop_eq] at hK
    have u := scanUp_spec (fun x => ltInt x d[a]!) d j _ i rfl
    generalize hi2 : scanUp (fun x => ltInt x d[a]!) d j i = i2 at hK u
    have dn := scanDown_le (fun x => !ltInt x d[a]!) d i2 j
    have ds := scanDown_spec (fun x => !ltInt x d[a]!) d i2 j
    have u1 := u.1
    have u2 := u.2.1 hij
    have u4 := u.2.2.2
    rw [jp_eq]
    refine part_up2 hr hsz (by omega) (by omega) hij hnn ?_
    rw [hi2]
    refine ⟨_, _, _, _, rfl, ?_⟩
    rw [jp_eq]
    refine part_down2 hr hsz (by omega) (by omega) (by omega) hnn ?_
    generalize hj2 : scanDown (fun x => !ltInt x d[a]!) d i2 j = j2 at hK dn ds
    have ne : i2 ≠ j2 := by
      rintro rfl
      have h1 := u4 (by omega)
      have h2 := ds.2.2.2 (by omega) (by omega)
      try simp only at h1 h2
      first | (rw [h2] at h1; simp at h1; done) | (rw [h1] at h2; simp at h2; done)
    refine ⟨_, _, _, _, rfl, ?_⟩
    rw [cnd_dec]
    split
    · rw [if_pos (by omega)] at hK
      exact hK o hg hr
    · rw [if_neg (by omega)] at hK
      refine swap_step hr (by omega) (by omega) fun o' g' r' => ?_
      refine bnd_of (wn (n := i2 + 1) (by omega) (by omega)) (bnd_of (wn (n := j2 - 1) (by omega) (by omega)) ?_)
      have := ih (i2 + 1) (j2 - 1) (swp d i2 j2) o' (by omega) (by omega) (by omega) (by omega) (by rw [size_swp]; omega) (by rw [size_swp]; omega) (by rw [size_swp]; omega) (hg.trans g') r' (by simpa only [sv, size_swp] using hK)
      simpa only [sv, size_swp] using this
theorem size_partLoop (a b : Nat) : ∀ (i j : Nat) (d : Array Int), (partLoop ltInt a i j d).2.size = d.size := by
  intro i j d
  fun_induction partLoop ltInt a i j d <;> simp_all [size_swp]
theorem partLoop_le (a : Nat) : ∀ (i j : Nat) (d : Array Int), (partLoop ltInt a i j d).1 ≤ j := by
  intro i j d
  fun_induction partLoop ltInt a i j d with
  | case1 i j d i2 j2 h => have := scanDown_le (fun x => !ltInt x d[a]!) d i2 j; omega
  | case2 i j d i2 j2 h h3 ih => have := scanDown_le (fun x => !ltInt x d[a]!) d i2 j; omega
  | case3 i j d i2 j2 h h3 => have := scanDown_le (fun x => !ltInt x d[a]!) d i2 j; omega
theorem run_part {b pivot : Nat} {K : AV → OS → Prop} (hr : Row o id d) (hsz : d.size ≤ 1152921504606846976) (hap : a ≤ pivot) (hpb : pivot < b) (hb : b ≤ d.size)
    (hK : ∀ o', GrX id o o' → Row o' id (Sort.partition ltInt d a b pivot).2.2 → K (.tuple [.int .i64 ((Sort.partition ltInt d a b pivot).1 : Nat), .bool (Sort.partition ltInt d a b pivot).2.1]) o') :
    Go Try.prog n_slices_partitionOrdered_int [sv id d cap kk, .int .i64 a, .int .i64 b, .int .i64 pivot] o K := by
  refine slices_partitionOrdered_int_go (d.size + 3) ?_
  refine swap_step hr (i := a) (by omega) (by omega) fun o' g' r' => ?_
  refine bnd_of (wn (n := a + 1) (by omega) (by omega)) (bnd_of (wn (n := b - 1) (by omega) (by omega)) ?_)
  rw [jp_eq]
  unfold Sort.partition at hK
  simp only at hK
  have e : sv id d cap kk = sv id (swp d a pivot) cap kk := by simp [sv, size_swp]
  have hs1 := size_swp d a pivot
  rw [e]
  generalize swp d a pivot = d1 at hK r' hs1
  have u := scanUp_spec (fun x => ltInt x d1[a]!) d1 (b - 1) _ (a + 1) rfl
  generalize hi2 : scanUp (fun x => ltInt x d1[a]!) d1 (b - 1) (a + 1) = i2 at hK u
  have dn := scanDown_le (fun x => !ltInt x d1[a]!) d1 i2 (b - 1)
  have ds := scanDown_spec (fun x => !ltInt x d1[a]!) d1 i2 (b - 1)
  have u1 := u.1
  have u2 := u.2.1 (by omega)
  have u4 := u.2.2.2
  refine part_up1 r' (by omega) (by omega) (by omega) (by omega) (by omega) ?_
  rw [hi2]
  refine ⟨_, _, _, _, rfl, ?_⟩
  rw [jp_eq]
  refine part_down1 r' (by omega) (by omega) (by omega) (by omega) (by omega) ?_
  generalize hj2 : scanDown (fun x => !ltInt x d1[a]!) d1 i2 (b - 1) = j2 at hK dn ds
  have ne : i2 ≠ j2 := by
    rintro rfl
    have h1 := u4 (by omega)
    have h2 := ds.2.2.2 (by omega) (by omega)
    try simp only at h1 h2
    first | (rw [h2] at h1; simp at h1; done) | (rw [h1] at h2; simp at h2; done)
  refine ⟨_, _, _, _, rfl, ?_⟩
  rw [cnd_dec]
  split
  · rw [if_pos (by omega)] at hK
    refine swap_step r' (i := j2) (by omega) (by omega) fun o2 g2 r2 => ?_
    exact rt_in (hK o2 (g'.trans g2) r2)
  · rw [if_neg (by omega)] at hK
    refine swap_step r' (i := i2) (by omega) (by omega) fun o2 g2 r2 => ?_
    refine bnd_of (wn (n := i2 + 1) (by omega) (by omega)) (bnd_of (wn (n := j2 - 1) (by omega) (by omega)) ?_)
    rw [jp_eq]
    have hs2 := size_swp d1 i2 j2
    have e2 : sv id d1 cap kk = sv id (swp d1 i2 j2) cap kk := by simp [sv, size_swp]
    rw [e2]
    generalize swp d1 i2 j2 = d2 at hK r2 hs2
    have hle := partLoop_le a (i2 + 1) (j2 - 1) d2
    have hsz2 := size_partLoop a b (i2 + 1) (j2 - 1) d2
    refine part_loop (o0 := o) (b := b) _ (i2 + 1) (j2 - 1) d2 o2 (by omega) (by omega) (by omega) (by omega) (by omega) (by omega) (by omega) (g'.trans g2) r2 fun o3 g3 r3 => ?_
    refine ⟨_, _, _, rfl, ?_⟩
    have e3 : sv id d2 cap kk = sv id (partLoop ltInt a (i2 + 1) (j2 - 1) d2).2 cap kk := by simp [sv, hsz2]
    rw [e3]
    refine swap_step r3 (by omega) (by omega) fun o4 g4 r4 => ?_
    exact rt_in (hK o4 (g3.trans g4) r4)
end
end Go.Proofs.Ytlcapliakfomhaa
