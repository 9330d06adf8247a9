/- THE ABSTRACT EVALUATOR, 5: operators, cuts, builds, maps that are read. -/
import Derived.Test.YtlcapliakfomhaaAb4
namespace Go.Ab
open Go.RowKit (Below)
variable {P : Program} {M : Map} {n : Nat} {st : St} {w0 w : World}

theorem VR_int {k : IntKind} {i : Int} : VR M n (.int k i) (.int k i) := by simp [VR]
theorem VR_bool {b : Bool} : VR M n (.bool b) (.bool b) := by simp [VR]
theorem VR_str {s : ByteArray} : VR M n (.str s) (.string s) := by simp [VR]
theorem intBin_sound {op : BinOp} {k : IntKind} {a b : Int} {x : AV} (h : intBin op k a b = some x) (hop : op ≠ .shl ∧ op ≠ .shr) (t : TypeId) (w : World) :
    ∃ v, (binOp op t (.int k a) (.int k b)).run P w = .ok v w ∧ VR M n x v := by
  unfold intBin at h
  split at h
  all_goals first
    | (cases h; done)
    | (obtain rfl := Option.some.inj h; refine ⟨_, ?_, VR_int⟩; simp [binOp, Op.intArith, Op.intBits]; done)
    | (obtain rfl := Option.some.inj h; refine ⟨_, ?_, VR_bool⟩; simp [binOp, Op.intCmp]; done)
    | (split at h; · cases h
       rename_i hb
       obtain rfl := Option.some.inj h
       refine ⟨_, ?_, VR_int⟩; simp [binOp, Op.intDiv, hb])
    | (simp at hop)
theorem strBin_sound {op : BinOp} {a b : ByteArray} {x : AV} (h : strBin op a b = some x) (t : TypeId) (w : World) :
    ∃ v, (binOp op t (.string a) (.string b)).run P w = .ok v w ∧ VR M n x v := by
  unfold strBin at h
  split at h
  · split at h
    · rename_i hle
      obtain rfl := Option.some.inj h
      refine ⟨_, ?_, VR_str⟩
      have : ¬ ((((a.size + b.size : Nat) : Int)) > IntKind.i64.max) := by rw [IntKind.max_i64]; omega
      simp only [binOp, Op.stringOp, this, if_false, Sem.run_pure]
    · cases h
  all_goals first
    | (cases h; done)
    | (obtain rfl := Option.some.inj h; refine ⟨_, ?_, VR_bool⟩; simp [binOp, Op.stringOp])

theorem eqGuard_plain (op : BinOp) (t : TypeId) (x y : Operand) {a b : Value} (h : op ≠ .eql ∧ op ≠ .neq) : (eqGuard op t x y a b).run P w = .ok () w := by
  cases op <;> simp_all [eqGuard]
theorem VR.no_nilIface {x : AV} (hx : x ≠ .unk) (h : VR M n x .nilIface) : False := by
  cases x <;> simp [VR] at h hx
theorem eqGuard_vr (op : BinOp) (t : TypeId) (x y : Operand) {ax : AV} {a b : Value} (hx : VR M n ax a) (hn : ax ≠ .unk)
    (hg : isAggA ax = true → P.eqGuardType P.depth t = false) : (eqGuard op t x y a b).run P w = .ok () w := by
  by_cases ho : op = .eql ∨ op = .neq
  · cases ax
    case unk => exact absurd rfl hn
    case agg cs =>
      simp only [VR] at hx
      obtain ⟨cs', rfl, _⟩ := hx
      have := hg rfl
      rcases ho with rfl | rfl <;> cases b <;> simp [eqGuard, this]
    all_goals
      simp only [VR] at hx
      try (obtain ⟨_, _, _, _, rfl, _⟩ := hx)
      try (obtain ⟨_, _, _, rfl, _⟩ := hx)
      try (obtain ⟨_, _, rfl, _⟩ := hx)
      try (obtain ⟨_, rfl, _⟩ := hx)
      try (obtain ⟨_, rfl⟩ := hx)
      try subst hx
      rcases ho with rfl | rfl <;> simp [eqGuard]
  · exact eqGuard_plain op t x y (by simpa using ho)

theorem shift_sound {op : BinOp} {k k' : IntKind} {a b : Int} {x : AV} (h : shiftA op k a b = some x) (hop : op = .shl ∨ op = .shr) (t : TypeId) (w : World) :
    ∃ v, (binOp op t (.int k a) (.int k' b)).run P w = .ok v w ∧ VR M n x v := by
  unfold shiftA at h
  split at h
  · cases h
  · rename_i hb
    rcases hop with rfl | rfl
    all_goals
      obtain rfl := Option.some.inj h
      refine ⟨_, ?_, VR_int⟩
      simp [binOp, Op.shift, hb]

theorem eqA_unk {D : Nat} {t : TypeId} {y : AV} {b : Bool} (h : eqA P D t .unk y = some b) : False := by
  cases D with
  | zero => simp [eqA] at h
  | succ D => unfold eqA at h; split at h <;> simp_all

theorem binOp_eq {t : TypeId} {ax ay : AV} {a b : Value} (hx : VR M n ax a) (hy : VR M n ay b) {D : Nat} {r : Bool} (h : eqA P D t ax ay = some r)
    (hni : ∀ k i k' i', ax = .int k i → ay = .int k' i' → False) (hns : ∀ s s', ax = .str s → ay = .str s' → False) (w : World) (hD : D ≤ 10000) :
    (binOp .eql t a b).run P w = .ok (.bool r) w ∧ (binOp .neq t a b).run P w = .ok (.bool !r) w := by
  have he := eqA_sound w D t ax ay r a b h hx hy 10000 hD
  have e1 : (Op.equal t a b).run P w = .ok r w := he
  cases ax
  case unk => exact (eqA_unk h).elim
  case int k i =>
    cases ay <;> try (exact (hni _ _ _ _ rfl rfl).elim)
    all_goals (cases D <;> simp [eqA] at h)
  case str s =>
    cases ay <;> try (exact (hns _ _ rfl rfl).elim)
    all_goals (cases D <;> simp [eqA] at h)
  all_goals
    simp only [VR] at hx
    try (obtain ⟨_, _, _, _, rfl, _⟩ := hx)
    try (obtain ⟨_, _, _, rfl, _⟩ := hx)
    try (obtain ⟨_, _, rfl, _⟩ := hx)
    try (obtain ⟨_, rfl, _⟩ := hx)
    try (obtain ⟨_, rfl⟩ := hx)
    try subst hx
    simp [binOp, e1]

theorem bin_sound {op : BinOp} {t : TypeId} {ax ay x : AV} {a b : Value} (ox oy : Operand) (h : binA P op t ax ay = some x) (hx : VR M n ax a) (hy : VR M n ay b) (w : World) :
    ∃ v, (do eqGuard op t ox oy a b; binOp op t a b : Sem Value).run P w = .ok v w ∧ VR M n x v := by
  unfold binA at h
  split at h
  · rename_i k i k' i'
    have hg : (eqGuard op t ox oy a b).run P w = .ok () w := eqGuard_vr op t ox oy hx (by simp) (by simp [isAggA])
    simp only [VR] at hx hy
    subst hx hy
    simp only [Sem.run_bind, hg, Result.andThen_ok]
    split at h
    · exact shift_sound h (.inl rfl) t w
    · exact shift_sound h (.inr rfl) t w
    · rename_i h1 h2
      split at h
      · rename_i hk; subst hk; exact intBin_sound h ⟨h1, h2⟩ t w
      · cases h
  · rename_i s s'
    have hg : (eqGuard op t ox oy a b).run P w = .ok () w := eqGuard_vr op t ox oy hx (by simp) (by simp [isAggA])
    simp only [VR] at hx hy
    subst hx hy
    simp only [Sem.run_bind, hg, Result.andThen_ok]
    exact strBin_sound h t w
  · rename_i hni hns
    split at h
    · split at h
      · cases h
      · rename_i hg
        obtain ⟨r, hr, rfl⟩ := Option.map_eq_some_iff.1 h
        have hg : (eqGuard .eql t ox oy a b).run P w = .ok () w := eqGuard_vr .eql t ox oy hx (fun e => by subst e; exact eqA_unk hr) (fun e => by simpa [e] using hg)
        simp only [Sem.run_bind, hg, Result.andThen_ok]
        exact ⟨_, (binOp_eq hx hy hr (fun _ _ _ _ e e' => hni _ _ _ _ e e') (fun _ _ e e' => hns _ _ e e') w (by decide)).1, VR_bool⟩
    · split at h
      · cases h
      · rename_i hg
        obtain ⟨r, hr, rfl⟩ := Option.map_eq_some_iff.1 h
        have hg : (eqGuard .neq t ox oy a b).run P w = .ok () w := eqGuard_vr .neq t ox oy hx (fun e => by subst e; exact eqA_unk hr) (fun e => by simpa [e] using hg)
        simp only [Sem.run_bind, hg, Result.andThen_ok]
        exact ⟨_, (binOp_eq hx hy hr (fun _ _ _ _ e e' => hni _ _ _ _ e e') (fun _ _ e e' => hns _ _ e e') w (by decide)).2, VR_bool⟩
    · cases h

theorem un_sound {op : UnOp} {ax x : AV} {a : Value} (h : unA op ax = some x) (hx : VR M n ax a) (w : World) : ∃ v, (Op.unary op a).run P w = .ok v w ∧ VR M n x v := by
  unfold unA at h
  split at h
  all_goals first
    | (cases h; done)
    | (obtain rfl := Option.some.inj h; simp only [VR] at hx; subst hx; refine ⟨_, ?_, VR_int⟩; simp [Op.unary, Op.intArith, Op.intBits]; done)
    | (obtain rfl := Option.some.inj h; simp only [VR] at hx; subst hx; refine ⟨_, ?_, VR_bool⟩; simp [Op.unary]; done)

/-! Builds. -/
theorem foldl_set (l : List Value) (off : Nat) (c : Array Value) (h : off + l.length ≤ c.size) :
    ((l.zipIdx.foldl (fun cs (p : Value × Nat) => cs.setIfInBounds (off + p.2) p.1) c)).toList = c.toList.take off ++ (l ++ c.toList.drop (off + l.length)) := by
  suffices H : ∀ (l : List Value) (k : Nat) (c : Array Value), off + k + l.length ≤ c.size →
      ((l.zipIdx k).foldl (fun cs (p : Value × Nat) => cs.setIfInBounds (off + p.2) p.1) c).toList = c.toList.take (off + k) ++ (l ++ c.toList.drop (off + k + l.length)) by
    simpa using H l 0 c (by simpa using h)
  intro l
  induction l with
  | nil => intro k c _; simp
  | cons v l ih =>
    intro k c hle
    simp only [List.length_cons] at hle
    simp only [List.zipIdx_cons, List.foldl_cons]
    rw [ih (k + 1) _ (by simp; omega)]
    rw [Array.toList_setIfInBounds]
    have hm : off + k < c.toList.length := by simp; omega
    have e1 : (c.toList.set (off + k) v).take (off + (k + 1)) = c.toList.take (off + k) ++ [v] := by
      rw [List.set_eq_take_append_cons_drop, if_pos hm, List.take_append]
      simp only [List.length_take, Nat.min_eq_left (Nat.le_of_lt hm), List.take_take]
      rw [Nat.min_eq_right (by omega), show off + (k + 1) - (off + k) = 1 by omega]
      simp
    rw [e1, List.drop_set_of_lt (by omega)]
    simp only [List.append_assoc, List.nil_append, List.length_cons, List.cons_append]
    rw [show off + (k + 1) + l.length = off + k + (l.length + 1) by omega]

theorem splice_VRs {cs new : List AV} {cs' new' : List Value} (h : VRs M n cs cs') (hn : VRs M n new new') (off : Nat) : VRs M n (splice cs off new) (cs'.take off ++ (new' ++ cs'.drop (off + new'.length))) := by
  unfold splice
  rw [← VRs.length hn]
  exact (h.take off).append (hn.append (h.drop _))

theorem fill_sound {place : Nat → Option (Nat × Nat)} {place' : Nat → Option (Nat × Nat)} (hp : ∀ i, place' i = place i) : ∀ (ps : List (Nat × AV)) (ps' : List (Nat × Value)) (z r : List AV) (z' : Array Value),
    fillA place z ps = some r → VRs M n z z'.toList → ps.length = ps'.length → (∀ (j : Nat) (p : Nat × AV) (p' : Nat × Value), ps[j]? = some p → ps'[j]? = some p' → p.1 = p'.1 ∧ VR M n p.2 p'.2) →
    ∃ r', Instr.fill place' z' ps' = some r' ∧ VRs M n r r'.toList
  | [], [], z, r, z', h, hz, _, _ => by simp [fillA] at h; subst h; exact ⟨z', rfl, hz⟩
  | [], _ :: _, _, _, _, _, _, hl, _ => by simp at hl
  | _ :: _, [], _, _, _, _, _, hl, _ => by simp at hl
  | (i, v) :: ps, (i', v') :: ps', z, r, z', h, hz, hl, hps => by
    obtain ⟨hi, hv⟩ := hps 0 _ _ rfl rfl
    simp only at hi hv
    subst hi
    unfold fillA at h
    split at h
    · cases h
    · rename_i off size hpl
      split at h
      · rename_i hc
        simp only [Bool.and_eq_true, beq_iff_eq, decide_eq_true_eq] at hc
        obtain ⟨⟨h1, h2⟩, h3⟩ := hc
        have hvc := hv.cells h3
        have hlen : v'.cells.size = v.cells.length := by rw [VRs.length hvc]; simp
        have hzl : z'.size = z.length := by rw [VRs.length hz]; simp
        unfold Instr.fill
        rw [hp, hpl]
        simp only
        rw [if_neg (by simp only [ne_eq, Bool.or_eq_true, decide_eq_true_eq, not_or, Decidable.not_not, Nat.not_lt]; omega)]
        refine fill_sound hp ps ps' _ r _ h ?_ (by simpa using hl) (fun j p p' hj hj' => hps (j + 1) p p' (by simpa using hj) (by simpa using hj'))
        have hfold := foldl_set v'.cells.toList off z' (by simp; omega)
        have e : (v'.cells.zipIdx.foldl (fun cs (p : Value × Nat) => cs.setIfInBounds (off + p.2) p.1) z').toList = z'.toList.take off ++ (v'.cells.toList ++ z'.toList.drop (off + v'.cells.toList.length)) := by
          rw [← hfold, ← Array.foldl_toList, Array.toList_zipIdx]
        have := splice_VRs (n := n) hz hvc off
        rw [← e] at this
        exact this
      · cases h
end Go.Ab
