/- Of the stats' functions: what each computes (1). -/
import Derived.Test.YtlcapliakfomhaaT1
import Derived.Test.YtlcapliakfomhaaAb28
set_option linter.all false
namespace Go.Proofs.Ytlcapliakfomhaa
open Go Go.Ab

theorem ints_loop {n : Nat} {o : OS} {v w : AV} {a b : List Int} {R : AV → OS → Prop} (hv : Ints o v a) (hw : Ints o w b) (hl : a.length = b.length) (hK : R (.bool (decide (a = b))) o) :
    ∀ (m k : Nat), k ≤ a.length → a.length - k < m → a.take k = b.take k → lp m (twainref01_Ints_L14 (GoF Try.prog) n R (twainref01_Ints_J2 (GoF Try.prog) n R)) [v, w, .int .i64 a.length, .int .i64 k] o := by
  intro m
  induction m with
  | zero => intro k _ h; omega
  | succ m ih =>
    intro k hk hm he
    rw [lp_succ]
    refine ⟨v, w, _, _, rfl, ?_⟩
    rw [cnd_dec]
    split
    · rename_i hlt
      have hlt : k < a.length := by omega
      have hlb : k < b.length := by omega
      have ha : a[(k : Int).toNat]? = some a[k] := by simp [hlt]
      have hb : b[(k : Int).toNat]? = some b[k] := by simp [hlb]
      refine ⟨⟨by omega, by rw [hv.len]; omega⟩, _, hv.ld ha (by omega), ⟨by omega, by rw [hw.len]; omega⟩, _, hw.ld hb (by omega), ?_⟩
      rw [cnd_bne]
      split
      · rename_i heq
        unfold bnd
        have := hv.max
        rw [wrap_id (by omega) (by omega)]
        have := ih (k + 1) (by omega) (by omega) (by rw [List.take_succ_eq_append_getElem hlt, List.take_succ_eq_append_getElem hlb, he, heq])
        simpa using this
      · rename_i hne
        have : decide (a = b) = false := by simp; intro h; subst h; exact hne rfl
        rw [this] at hK
        exact hK
    · rename_i hge
      have : k = a.length := by omega
      subst this
      refine ⟨rfl, ?_⟩
      rw [List.take_length, hl, List.take_length] at he
      have : decide (a = b) = true := by simp [he]
      rw [this] at hK; exact hK

/-- Are they the very same numbers? -/
theorem run_Ints {o : OS} {v w : AV} {a b : List Int} {K : AV → OS → Prop} (hv : Ints o v a) (hw : Ints o w b) (hK : K (.bool (decide (a = b))) o) : Go Try.prog n_twainref01_Ints [v, w] o K := by
  refine twainref01_Ints_go (a.length + 1) ?_
  refine ⟨hv.isS, hw.isS, ?_⟩
  rw [cnd_bne, hv.len, hw.len]
  split
  · rename_i hl
    refine ⟨hv.isS, ?_⟩
    exact ints_loop hv hw (by omega) (rt_in hK) _ 0 (by omega) (by omega) (by simp)
  · rename_i hl
    have : decide (a = b) = false := by simp; intro h; subst h; exact hl rfl
    rw [this] at hK
    exact rt_in hK
end Go.Proofs.Ytlcapliakfomhaa
