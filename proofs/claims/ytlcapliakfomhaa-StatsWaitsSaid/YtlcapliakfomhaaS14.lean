/- Of the stats' functions: what each computes (9): how many are open: the plain laws. -/
import Derived.Test.YtlcapliakfomhaaS13
set_option linter.all false
namespace Go.Proofs.Ytlcapliakfomhaa
open Go Go.Ab
def isFell (l : List Ev) (i : Nat) : Bool := (at' l i).kind == 2
def whoOf (l : List Ev) (i : Nat) : Int := (at' l i).who
def closes (l : List Ev) (j i : Nat) : Bool := (isFell l j && (whoOf l j == whoOf l i)) || (endF l i == some j)
def openK (l : List Ev) (k i : Nat) : Bool := isAsk l i && (firstI (fun j => closes l j i) (i + 1) (k - (i + 1)) == none)
def lst (l : List Ev) (k : Nat) (w : Int) : List (Int × Bool) := ((List.range k).filter fun i => openK l k i && (whoOf l i == w)).map fun (i : Nat) => ((i : Int), true)
def cnt (l : List Ev) (k : Nat) : Nat := ((List.range k).filter (openK l k)).length
def bestF (l : List Ev) : Nat → Int
  | 0 => 0
  | k + 1 => if (cnt l (k + 1) : Int) > bestF l k then (cnt l (k + 1) : Int) else bestF l k
theorem endF_some {l : List Ev} {i k : Nat} (h : endF l i = some k) : i < k ∧ k < l.length ∧ isEnd l k = true ∧ sameK l k i = true := by
  unfold endF at h
  split at h
  · cases h
  · rw [firstI_some, Bool.and_eq_true] at h
    exact ⟨by omega, by omega, h.2.2.1.1, h.2.2.1.2⟩
theorem kinds {l : List Ev} {k : Nat} : (isAsk l k = true → isEnd l k = false ∧ isFell l k = false) ∧ (isEnd l k = true → isAsk l k = false ∧ isFell l k = false) ∧ (isFell l k = true → isAsk l k = false ∧ isEnd l k = false) := by
  simp only [isAsk, isEnd, isFell, beq_iff_eq, beq_eq_false_iff_ne]
  exact ⟨fun h => ⟨by omega, by omega⟩, fun h => ⟨by omega, by omega⟩, fun h => ⟨by omega, by omega⟩⟩
theorem closes_who {l : List Ev} {j i : Nat} (h : closes l j i = true) : whoOf l i = whoOf l j := by
  unfold closes at h
  rw [Bool.or_eq_true, Bool.and_eq_true, beq_iff_eq, beq_iff_eq] at h
  rcases h with ⟨_, h⟩ | h
  · exact h.symm
  · have := (endF_some h).2.2.2
    rw [sameK_iff] at this
    exact (congrArg (·.1) this).symm
theorem openK_succ {l : List Ev} {k i : Nat} (h : i < k) : openK l (k + 1) i = (openK l k i && !closes l k i) := by
  unfold openK
  rw [show k + 1 - (i + 1) = (k - (i + 1)) + 1 by omega, firstI_snoc, show i + 1 + (k - (i + 1)) = k by omega]
  cases firstI (fun j => closes l j i) (i + 1) (k - (i + 1)) with
  | some x => simp
  | none => cases closes l k i <;> simp
theorem openK_self (l : List Ev) (k : Nat) : openK l (k + 1) k = isAsk l k := by
  unfold openK; rw [show k + 1 - (k + 1) = 0 by omega]; simp [firstI]
theorem filter_range_congr {p q : Nat → Bool} {k : Nat} (h : ∀ i, i < k → p i = q i) : (List.range k).filter p = (List.range k).filter q :=
  List.filter_congr fun i hi => h i (List.mem_range.1 hi)
theorem filter_succ {p : Nat → Bool} {k : Nat} : (List.range (k + 1)).filter p = (List.range k).filter p ++ (if p k then [k] else []) := by
  rw [List.range_succ, List.filter_append, List.filter_cons]; rfl
theorem lst_other {l : List Ev} {k : Nat} {w : Int} (h : w ≠ whoOf l k) : lst l (k + 1) w = lst l k w := by
  unfold lst
  rw [filter_succ, if_neg (by simp [Ne.symm h]), List.append_nil]
  congr 1
  refine filter_range_congr fun i hi => ?_
  rw [openK_succ hi]
  cases hc : closes l k i with
  | false => simp
  | true =>
    have : whoOf l i ≠ w := by rw [closes_who hc]; exact Ne.symm h
    simp [this]
theorem len_parts {p q : Nat → Bool} : ∀ (L : List Nat), (L.filter p).length = (L.filter fun i => p i && q i).length + (L.filter fun i => p i && !q i).length
  | [] => rfl
  | a :: L => by
    have := len_parts (p := p) (q := q) L
    simp only [List.filter_cons]
    cases p a <;> cases q a <;> simp <;> omega
theorem lst_len (l : List Ev) (k : Nat) (w : Int) : (lst l k w).length = ((List.range k).filter fun i => openK l k i && (whoOf l i == w)).length := by
  unfold lst; simp
theorem cnt_step (l : List Ev) (k : Nat) : cnt l (k + 1) + (lst l k (whoOf l k)).length = cnt l k + (lst l (k + 1) (whoOf l k)).length := by
  unfold cnt
  rw [lst_len, lst_len]
  have a := len_parts (p := openK l (k + 1)) (q := fun i => whoOf l i == whoOf l k) (List.range (k + 1))
  have b := len_parts (p := openK l k) (q := fun i => whoOf l i == whoOf l k) (List.range k)
  have : ((List.range (k + 1)).filter fun i => openK l (k + 1) i && !(whoOf l i == whoOf l k)) = (List.range k).filter fun i => openK l k i && !(whoOf l i == whoOf l k) := by
    rw [filter_succ, if_neg (by simp), List.append_nil]
    refine filter_range_congr fun i hi => ?_
    rw [openK_succ hi]
    cases hc : closes l k i with
    | false => simp
    | true => simp [closes_who hc]
  rw [this] at a; omega
theorem cnt_le (l : List Ev) (k : Nat) : cnt l k ≤ k := by
  unfold cnt
  have := List.length_filter_le (openK l k) (List.range k)
  simpa using this
theorem lst_le (l : List Ev) (k : Nat) (w : Int) : (lst l k w).length ≤ k := by
  rw [lst_len]
  have := List.length_filter_le (fun i => openK l k i && (whoOf l i == w)) (List.range k)
  simpa using this
theorem lst_lt {l : List Ev} {k : Nat} {w : Int} : ∀ p ∈ lst l k w, ∃ i : Nat, i < k ∧ p = ((i : Int), true) ∧ openK l k i = true ∧ whoOf l i = w := by
  intro p hp
  unfold lst at hp
  rw [List.mem_map] at hp
  obtain ⟨i, hi, rfl⟩ := hp
  rw [List.mem_filter, List.mem_range, Bool.and_eq_true, beq_iff_eq] at hi
  exact ⟨i, hi.1, rfl, hi.2.1, hi.2.2⟩
theorem lst_nd (l : List Ev) (k : Nat) (w : Int) : KeysND (lst l k w) := by
  unfold KeysND lst
  rw [List.map_map]
  have : ∀ L : List Nat, L.Nodup → (L.map ((fun p : Int × Bool => p.1) ∘ fun (i : Nat) => ((i : Int), true))).Nodup := by
    intro L
    induction L with
    | nil => intro _; simp
    | cons a L ih =>
      intro h
      rw [List.nodup_cons] at h
      rw [List.map_cons, List.nodup_cons]
      refine ⟨?_, ih h.2⟩
      intro hm
      rw [List.mem_map] at hm
      obtain ⟨b, hb, he⟩ := hm
      simp only [Function.comp] at he
      have : b = a := by omega
      exact h.1 (this ▸ hb)
  exact this _ (List.Pairwise.filter _ List.nodup_range)
theorem lst_new (l : List Ev) (k : Nat) (w : Int) : getK ((k : Nat) : Int) (lst l k w) = none := by
  rw [getK_none]
  intro p hp he
  obtain ⟨i, hi, rfl, _⟩ := lst_lt p hp
  simp only at he
  omega
theorem lst_ask {l : List Ev} {k : Nat} (ha : isAsk l k = true) : lst l (k + 1) (whoOf l k) = putK (k : Int) true (lst l k (whoOf l k)) := by
  rw [putK_new (lst_new l k _)]
  unfold lst
  rw [filter_succ, openK_self, ha, if_pos (by simp), List.map_append]
  congr 2
  refine filter_range_congr fun i hi => ?_
  rw [openK_succ hi]
  have : closes l k i = false := by
    cases hc : closes l k i with
    | false => rfl
    | true =>
      unfold closes at hc
      rw [(kinds.1 ha).2] at hc
      simp only [Bool.false_and, Bool.false_or, beq_iff_eq] at hc
      have := (endF_some hc).2.2.1
      rw [(kinds.1 ha).1] at this; cases this
  simp [this]
theorem lst_fell {l : List Ev} {k : Nat} (ha : isFell l k = true) : lst l (k + 1) (whoOf l k) = [] := by
  unfold lst
  rw [filter_succ, openK_self, (kinds.2.2 ha).1, if_neg (by simp), List.append_nil]
  have : ((List.range k).filter fun i => openK l (k + 1) i && (whoOf l i == whoOf l k)) = [] := by
    rw [List.filter_eq_nil_iff]
    intro i hi
    rw [openK_succ (List.mem_range.1 hi)]
    by_cases h : whoOf l i = whoOf l k
    · simp [closes, ha, h]
    · simp [h]
  rw [this]; rfl
theorem lst_same {l : List Ev} {k : Nat} (ha : isAsk l k = false) (hc : ∀ i, i < k → isAsk l i = true → closes l k i = false) (w : Int) : lst l (k + 1) w = lst l k w := by
  unfold lst
  rw [filter_succ, openK_self, ha, if_neg (by simp), List.append_nil]
  congr 1
  refine filter_range_congr fun i hi => ?_
  rw [openK_succ hi]
  cases hi' : isAsk l i with
  | true => rw [hc i hi hi']; simp
  | false => simp [openK, hi']
/-- Whose end an end is. -/
theorem endF_inv {l : List Ev} {i k : Nat} (ha : isAsk l i = true) : endF l i = some k ↔ (askedF l k = some i ∧ endAt l i l.length = some k) := by
  rw [← endAt_all ha]
  constructor
  · intro h
    refine ⟨?_, h⟩
    have hl := endAt_lt h
    have h' := h
    unfold endAt at h'
    split at h'
    · rename_i hc
      rw [Bool.and_eq_true, beq_iff_eq] at hc
      rw [firstI_some, Bool.and_eq_true, sameK_iff] at h'
      exact (asked_first hl.1).2 ⟨hc.1, hc.2, h'.2.2.1.2⟩
    · cases h'
  · exact fun h => h.2
theorem lst_end {l : List Ev} {k f : Nat} (he : isEnd l k = true) (hf : askedF l k = some f) (hen : endAt l f l.length = some k) : lst l (k + 1) (whoOf l k) = delK (f : Int) (lst l k (whoOf l k)) := by
  rw [delK_eq (lst_nd l k _)]
  unfold lst
  rw [filter_succ, openK_self, (kinds.2.1 he).1, if_neg (by simp), List.append_nil, List.filter_map]
  congr 1
  rw [List.filter_filter]
  refine filter_range_congr fun i hi => ?_
  rw [openK_succ hi]
  cases hi' : isAsk l i with
  | false => simp [openK, hi']
  | true =>
    have : closes l k i = decide (i = f) := by
      unfold closes
      rw [(kinds.2.1 he).2, Bool.false_and, Bool.false_or, Bool.eq_iff_iff, beq_iff_eq, endF_inv hi', decide_eq_true_eq, hf]
      constructor
      · rintro ⟨h, _⟩; exact (Option.some.inj h).symm
      · rintro rfl; exact ⟨rfl, hen⟩
    rw [this]
    have e : decide (((i : Nat) : Int) ≠ (f : Int)) = !decide (i = f) := by
      rw [Bool.eq_iff_iff]; simp; omega
    simp only [Function.comp, e]
    cases openK l k i <;> cases (whoOf l i == whoOf l k) <;> cases decide (i = f) <;> rfl
theorem lst_end_no {l : List Ev} {k : Nat} (he : isEnd l k = true) (hf : ∀ f, askedF l k = some f → endAt l f l.length ≠ some k) (w : Int) : lst l (k + 1) w = lst l k w := by
  refine lst_same (kinds.2.1 he).1 (fun i hi hi' => ?_) w
  cases hc : closes l k i with
  | false => rfl
  | true =>
    unfold closes at hc
    rw [(kinds.2.1 he).2, Bool.false_and, Bool.false_or, beq_iff_eq, endF_inv hi'] at hc
    exact absurd hc.2 (hf i hc.1)
theorem lst_none {l : List Ev} {k : Nat} (ha : isAsk l k = false) (he : isEnd l k = false) (hf : isFell l k = false) (w : Int) : lst l (k + 1) w = lst l k w := by
  refine lst_same ha (fun i hi hi' => ?_) w
  cases hc : closes l k i with
  | false => rfl
  | true =>
    unfold closes at hc
    rw [hf, Bool.false_and, Bool.false_or, beq_iff_eq] at hc
    have := (endF_some hc).2.2.1
    rw [he] at this; cases this
end Go.Proofs.Ytlcapliakfomhaa
