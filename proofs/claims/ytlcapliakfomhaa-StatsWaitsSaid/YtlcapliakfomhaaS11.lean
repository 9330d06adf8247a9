/- Of the stats' functions: what each computes (6): pairs, their laws. -/
import Derived.Test.YtlcapliakfomhaaS10
set_option linter.all false
namespace Go.Proofs.Ytlcapliakfomhaa
open Go Go.Ab
theorem firstI_snoc {p : Nat → Bool} : ∀ {a n : Nat}, firstI p a (n + 1) = match firstI p a n with | some i => some i | none => if p (a + n) then some (a + n) else none
  | a, 0 => by simp [firstI]
  | a, n + 1 => by
    rw [firstI, firstI_snoc]
    conv => rhs; rw [firstI]
    by_cases h : p a = true
    · simp [h]
    · simp only [h, if_neg, Bool.false_eq_true, if_false]
      rw [show a + 1 + n = a + (n + 1) by omega]
def keyOf (l : List Ev) (i : Nat) : Int × Int := ((at' l i).who, (at' l i).ticket)
def firstQ (l : List Ev) (q : Int × Int) (k : Nat) : Option Nat := firstI (fun j => isAsk l j && (((at' l j).who == q.1) && ((at' l j).ticket == q.2))) 0 k
theorem firstQ_asked (l : List Ev) (k : Nat) : firstQ l (keyOf l k) k = askedF l k := rfl
theorem firstQ_succ (l : List Ev) (q : Int × Int) (k : Nat) : firstQ l q (k + 1) = match firstQ l q k with | some i => some i | none => if isAsk l k && (((at' l k).who == q.1) && ((at' l k).ticket == q.2)) then some k else none := by
  unfold firstQ; rw [firstI_snoc]; simp
/-- The end of the first that was asked under a key. -/
def endAt (l : List Ev) (f k : Nat) : Option Nat := if isAsk l f && (askedF l f == none) then firstI (fun i => isEnd l i && sameK l i f) (f + 1) (k - (f + 1)) else none
theorem sameK_iff {l : List Ev} {i j : Nat} : sameK l i j = true ↔ keyOf l i = keyOf l j := by
  simp [sameK, keyOf]
theorem sameK_key {l : List Ev} {i j : Nat} : sameK l i j = (((at' l i).who == (keyOf l j).1) && ((at' l i).ticket == (keyOf l j).2)) := rfl
theorem asked_iff {l : List Ev} {k f : Nat} : askedF l k = some f ↔ (f < k ∧ isAsk l f = true ∧ keyOf l f = keyOf l k ∧ ∀ j, j < f → isAsk l j = true → keyOf l j ≠ keyOf l k) := by
  unfold askedF
  rw [firstI_some]
  constructor
  · rintro ⟨_, h2, h3, h4⟩
    rw [Bool.and_eq_true, sameK_iff] at h3
    refine ⟨by omega, h3.1, h3.2, fun j hj ha he => ?_⟩
    have := h4 j (by omega) hj
    rw [ha, sameK_iff.2 he] at this; cases this
  · rintro ⟨h1, h2, h3, h4⟩
    refine ⟨by omega, by omega, by rw [h2, sameK_iff.2 h3]; rfl, fun j _ hj => ?_⟩
    cases ha : isAsk l j with
    | false => rfl
    | true =>
      cases hs : sameK l j k with
      | false => rfl
      | true => exact absurd (sameK_iff.1 hs) (h4 j hj ha)
theorem asked_none {l : List Ev} {k : Nat} : askedF l k = none ↔ ∀ j, j < k → isAsk l j = true → keyOf l j ≠ keyOf l k := by
  unfold askedF
  rw [firstI_none]
  constructor
  · intro h j hj ha he
    have := h j (by omega) (by omega)
    rw [ha, sameK_iff.2 he] at this; cases this
  · intro h j _ hj
    cases ha : isAsk l j with
    | false => rfl
    | true =>
      cases hs : sameK l j k with
      | false => rfl
      | true => exact absurd (sameK_iff.1 hs) (h j (by omega) ha)
/-- The first that was asked under a key: what asks for it. -/
theorem asked_first {l : List Ev} {f k : Nat} (hf : f < k) : askedF l k = some f ↔ (isAsk l f = true ∧ askedF l f = none ∧ keyOf l k = keyOf l f) := by
  rw [asked_iff, asked_none]
  constructor
  · rintro ⟨_, h2, h3, h4⟩
    exact ⟨h2, fun j hj ha => by rw [h3]; exact h4 j hj ha, h3.symm⟩
  · rintro ⟨h1, h2, h3⟩
    exact ⟨hf, h1, h3.symm, fun j hj ha => by rw [h3]; exact h2 j hj ha⟩
theorem endAt_succ (l : List Ev) (f k : Nat) : endAt l f (k + 1) = match endAt l f k with | some i => some i | none => if isEnd l k && (askedF l k == some f) then some k else none := by
  unfold endAt
  by_cases hc : (isAsk l f && (askedF l f == none)) = true
  · rw [if_pos hc, if_pos hc]
    simp only [Bool.and_eq_true, beq_iff_eq] at hc
    by_cases hf : f < k
    · rw [show k + 1 - (f + 1) = (k - (f + 1)) + 1 by omega, firstI_snoc, show f + 1 + (k - (f + 1)) = k by omega]
      have : (askedF l k == some f) = sameK l k f := by
        rw [Bool.eq_iff_iff, beq_iff_eq, asked_first hf, sameK_iff]
        exact ⟨fun h => h.2.2, fun h => ⟨hc.1, hc.2, h⟩⟩
      rw [this]
    · rw [show k + 1 - (f + 1) = 0 by omega, show k - (f + 1) = 0 by omega]
      simp only [firstI]
      have : ¬ askedF l k = some f := by rw [asked_iff]; omega
      simp [this]
  · rw [if_neg hc, if_neg hc]
    have : ¬ askedF l k = some f := by
      intro h
      have hf : f < k := (asked_iff.1 h).1
      obtain ⟨h1, h2, _⟩ := (asked_first hf).1 h
      exact hc (by simp [h1, h2])
    simp [this]
theorem endAt_zero (l : List Ev) (f : Nat) : endAt l f 0 = none := by
  unfold endAt; split <;> simp [firstI]
/-- With every event in sight: the model's end. -/
theorem endAt_all {l : List Ev} {f : Nat} (ha : isAsk l f = true) : endAt l f l.length = endF l f := by
  unfold endAt endF
  by_cases hn : askedF l f = none
  · have hn' : (askedF l f == none) = true := by simp [hn]
    rw [if_pos (by simp [ha, hn])]
    have he : endedF l f = firstI (fun i => isEnd l i && sameK l i f) (f + 1) (l.length - (f + 1)) := by
      unfold endedF
      have : ∀ (n a : Nat), f < a → firstI (fun i => isEnd l i && (askedF l i == some f)) a n = firstI (fun i => isEnd l i && sameK l i f) a n := by
        intro n
        induction n with
        | zero => intro a _; rfl
        | succ n ih =>
          intro a hfa
          unfold firstI
          have e : (askedF l a == some f) = sameK l a f := by
            rw [Bool.eq_iff_iff, beq_iff_eq, asked_first hfa, sameK_iff]
            exact ⟨fun h => h.2.2, fun h => ⟨ha, hn, h⟩⟩
          rw [e, ih (a + 1) (by omega)]
      exact this _ _ (by omega)
    rw [← he]
    cases h : endedF l f with
    | none => simp [ha]
    | some i => simp [ha]
  · rw [if_neg (by simp [hn])]
    have he : endedF l f = none := by
      unfold endedF
      rw [firstI_none]
      intro j hj _
      have : ¬ askedF l j = some f := by
        intro h
        exact hn ((asked_first (by omega)).1 h).2.1
      simp [this]
    rw [if_pos (by simp [ha, he])]
theorem endAt_not {l : List Ev} {f k : Nat} (ha : isAsk l f = false) : endAt l f k = none := by
  unfold endAt; rw [if_neg (by simp [ha])]
end Go.Proofs.Ytlcapliakfomhaa
