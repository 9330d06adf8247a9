/- THE ABSTRACT EVALUATOR, 9: an operation that changes nothing, as the machine executes it. -/
import Derived.Test.YtlcapliakfomhaaAb8
namespace Go.Ab
open Go.RowKit (Below)
variable {P : Program} {M : Map} {n : Nat} {st : St} {w0 w : World}

/-- What an operation looks at is as the frame says. -/
def OpR (M : Map) (n : Nat) (env : Env) (a : Act) (op : Op) : Prop := ∀ x ∈ op.operands, VR M n (opd env x) (a.eval x)
theorem ERel.opR {env : Env} {a : Act} (h : ERel M n env a.tmps) (op : Op) : OpR M n env a op := fun x _ => h.opd x

theorem run_v {s : Sem Value} {v : Value} {w' : World} (h : s.run P w = .ok v w') : ((do pure (.value (← s)) : Sem Next)).run P w = .ok (.value v) w' := by
  simp only [Sem.run_bind, h, Result.andThen_ok, Sem.run_pure]

theorem prim01_sound {env : Env} {o : Oper} {a : Act} {x : AV} {st' : St} (hr : rank P o.op < 2) (h : primA P env o.op st = some (x, st')) (hs : SRel w0 M st w)
    (he : OpR M st.size env a o.op) : st' = st ∧ ∃ v, (execOp a.eval o).run P w = .ok (.value v) w ∧ VR M st.size x v := by
  obtain ⟨dst, op, type, pos, after, guard⟩ := o
  simp only at hr h he ⊢
  unfold OpR at he
  cases op
  case move y =>
    simp only [primA] at h
    obtain ⟨rfl, rfl⟩ := Prod.mk.inj (Option.some.inj h)
    exact ⟨rfl, _, by simp [execOp], he y (by simp [Op.operands])⟩
  case assign y =>
    simp only [primA] at h
    obtain ⟨rfl, rfl⟩ := Prod.mk.inj (Option.some.inj h)
    exact ⟨rfl, _, by simp [execOp], he y (by simp [Op.operands])⟩
  case pick c y z =>
    simp only [primA] at h
    have hc := he c (by simp [Op.operands])
    split at h
    · rename_i hb
      rw [hb] at hc
      simp only [VR] at hc
      obtain ⟨rfl, rfl⟩ := Prod.mk.inj (Option.some.inj h)
      exact ⟨rfl, _, by simp [execOp, hc, asBool], he y (by simp [Op.operands])⟩
    · rename_i hb
      rw [hb] at hc
      simp only [VR] at hc
      obtain ⟨rfl, rfl⟩ := Prod.mk.inj (Option.some.inj h)
      exact ⟨rfl, _, by simp [execOp, hc, asBool], he z (by simp [Op.operands])⟩
    · cases h
  case build t ps =>
    simp only [primA] at h
    obtain ⟨y, hy, hp⟩ := Option.map_eq_some_iff.1 h
    obtain ⟨rfl, rfl⟩ := Prod.mk.inj hp
    obtain ⟨v, hv, hvr⟩ := build_sound (parts' := ps.map fun p => (p.1, a.eval p.2)) hy (by simp) (fun j p p' hj hj' => by
      simp only [List.getElem?_map, Array.getElem?_map, Array.getElem?_toList] at hj hj'
      cases hq : ps[j]? with
      | none => rw [hq] at hj; simp at hj
      | some q =>
        rw [hq] at hj hj'
        simp only [Option.map_some, Option.some.injEq] at hj hj'
        subst hj hj'
        refine ⟨rfl, he q.2 ?_⟩
        simp only [Op.operands, List.mem_toArray, List.mem_map]
        exact ⟨q, by simpa using Array.mem_of_getElem? hq, rfl⟩) w
    exact ⟨rfl, v, by simp only [execOp]; exact run_v hv, hvr⟩
  case nilCheck y =>
    simp only [primA] at h
    have hc := he y (by simp [Op.operands])
    split at h
    · rename_i id off hb
      rw [hb] at hc
      simp only [VR] at hc
      obtain ⟨rfl, rfl⟩ := Prod.mk.inj (Option.some.inj h)
      exact ⟨rfl, _, by simp [execOp, hc.2]; rfl, by simp only [VR]; exact ⟨hc.1, trivial⟩⟩
    · rename_i f p q hb
      rw [hb] at hc
      simp only [VR] at hc
      obtain ⟨f', a', c', e, hf, h1, h2⟩ := hc
      subst hf
      obtain ⟨rfl, rfl⟩ := Prod.mk.inj (Option.some.inj h)
      exact ⟨rfl, _, by simp [execOp, e]; rfl, by simp only [VR]; exact ⟨_, _, _, rfl, rfl, h1, h2⟩⟩
    · cases h
  case binOp op t y z u =>
    simp only [primA] at h
    obtain ⟨r, hy, hp⟩ := Option.map_eq_some_iff.1 h
    obtain ⟨rfl, rfl⟩ := Prod.mk.inj hp
    obtain ⟨v, hv, hvr⟩ := bin_sound y z hy (he y (by simp [Op.operands])) (he z (by simp [Op.operands])) w
    exact ⟨rfl, v, by simp only [execOp]; exact run_v hv, hvr⟩
  case unOp op t y =>
    simp only [primA] at h
    obtain ⟨r, hy, hp⟩ := Option.map_eq_some_iff.1 h
    obtain ⟨rfl, rfl⟩ := Prod.mk.inj hp
    obtain ⟨v, hv, hvr⟩ := un_sound hy (he y (by simp [Op.operands])) w
    exact ⟨rfl, v, by simp only [execOp]; exact run_v hv, hvr⟩
  case makeFunc fn p q =>
    cases fn <;> simp only [primA] at h <;> try (cases h; done)
    rename_i f
    obtain ⟨rfl, rfl⟩ := Prod.mk.inj (Option.some.inj h)
    refine ⟨rfl, .func (.func f) (p.map a.eval) (q.map a.eval), by simp [execOp, Instr.makeFunc], ?_⟩
    simp only [VR]
    refine ⟨_, _, _, rfl, rfl, ?_, ?_⟩
    · rw [Array.toList_map]; exact VRs.map_of fun x hx => he x (by simp [Op.operands]; left; simpa using hx)
    · rw [Array.toList_map]; exact VRs.map_of fun x hx => he x (by simp [Op.operands]; right; simpa using hx)
  case slice t y lo hi mx =>
    simp only [primA] at h
    obtain ⟨r, hy, hp⟩ := Option.map_eq_some_iff.1 h
    obtain ⟨rfl, rfl⟩ := Prod.mk.inj hp
    have opt : ∀ z : Option Operand, (∀ x, z = some x → x ∈ (Op.slice t y lo hi mx).operands) → (∀ v, z.map a.eval = some v → ∃ b, z.map (opd env) = some b ∧ VR M st.size b v) := by
      intro z hz v hv
      obtain ⟨q, rfl, rfl⟩ := Option.map_eq_some_iff.1 hv
      exact ⟨_, rfl, he q (hz q rfl)⟩
    obtain ⟨v, hv, hvr⟩ := slice_sound hy (he y (by simp [Op.operands])) (opt lo (fun x hx => by simp [Op.operands, hx])) (by simp) (opt hi (fun x hx => by simp [Op.operands, hx])) (by simp)
      (opt mx (fun x hx => by simp [Op.operands, hx])) (by simp) w
    exact ⟨rfl, v, by simp only [execOp]; exact run_v hv, hvr⟩
  case fieldAddr t y f =>
    simp only [primA] at h
    obtain ⟨r, hy, hp⟩ := Option.map_eq_some_iff.1 h
    obtain ⟨rfl, rfl⟩ := Prod.mk.inj hp
    obtain ⟨v, hv, hvr⟩ := fieldAddr_sound hy (he y (by simp [Op.operands])) w
    exact ⟨rfl, v, by simp only [execOp]; exact run_v hv, hvr⟩
  case field t y f =>
    simp only [primA] at h
    obtain ⟨r, hy, hp⟩ := Option.map_eq_some_iff.1 h
    obtain ⟨rfl, rfl⟩ := Prod.mk.inj hp
    obtain ⟨v, hv, hvr⟩ := field_sound hy (he y (by simp [Op.operands])) w
    exact ⟨rfl, v, by simp only [execOp]; exact run_v hv, hvr⟩
  case indexAddr t y z =>
    simp only [primA] at h
    obtain ⟨r, hy, hp⟩ := Option.map_eq_some_iff.1 h
    obtain ⟨rfl, rfl⟩ := Prod.mk.inj hp
    obtain ⟨v, hv, hvr⟩ := indexAddr_sound hy (he y (by simp [Op.operands])) (he z (by simp [Op.operands])) w
    exact ⟨rfl, v, by simp only [execOp]; exact run_v hv, hvr⟩
  case index t y z =>
    simp only [primA] at h
    obtain ⟨r, hy, hp⟩ := Option.map_eq_some_iff.1 h
    obtain ⟨rfl, rfl⟩ := Prod.mk.inj hp
    obtain ⟨v, hv, hvr⟩ := index_sound hy (he y (by simp [Op.operands])) (he z (by simp [Op.operands])) w
    exact ⟨rfl, v, by simp only [execOp]; exact run_v hv, hvr⟩
  case extract y i =>
    simp only [primA] at h
    have hc := he y (by simp [Op.operands])
    split at h
    · rename_i vs hb
      rw [hb] at hc
      simp only [VR] at hc
      obtain ⟨vs', e, hvs⟩ := hc
      split at h
      · rename_i z hz
        obtain ⟨rfl, rfl⟩ := Prod.mk.inj (Option.some.inj h)
        obtain ⟨u, hu, hur⟩ := hvs.get hz
        rw [getElem?_toList] at hu
        exact ⟨rfl, u, by simp [execOp, Instr.extract, e, hu], hur⟩
      · cases h
    · cases h
  case load t y =>
    simp only [primA] at h
    obtain ⟨r, hy, hp⟩ := Option.map_eq_some_iff.1 h
    obtain ⟨rfl, rfl⟩ := Prod.mk.inj hp
    obtain ⟨v, hv, hvr⟩ := load_sound hy hs (he y (by simp [Op.operands]))
    exact ⟨rfl, v, by simp only [execOp]; exact run_v hv, hvr⟩
  case lookup t y z ok =>
    simp only [primA] at h
    obtain ⟨r, hy, hp⟩ := Option.map_eq_some_iff.1 h
    obtain ⟨rfl, rfl⟩ := Prod.mk.inj hp
    obtain ⟨v, hv, hvr⟩ := lookup_sound hy hs (he y (by simp [Op.operands])) (he z (by simp [Op.operands]))
    exact ⟨rfl, v, by simp only [execOp]; exact run_v hv, hvr⟩
  case entry y =>
    simp only [primA] at h
    obtain ⟨r, hy, hp⟩ := Option.map_eq_some_iff.1 h
    obtain ⟨rfl, rfl⟩ := Prod.mk.inj hp
    obtain ⟨v, hv, hvr⟩ := entry_sound hy hs (he y (by simp [Op.operands]))
    exact ⟨rfl, v, by simp only [execOp]; exact run_v hv, hvr⟩
  case convert s d y =>
    simp only [primA] at h
    simp only [rank] at hr
    obtain ⟨e, v, hv, hvr⟩ := conv01_sound h (fun e hd => by rw [hd] at hr; simp at hr) hs (he y (by simp [Op.operands]))
    exact ⟨e, v, by simp only [execOp]; exact run_v hv, hvr⟩
  case call c =>
    obtain ⟨callee, args, argTypes⟩ := c
    cases callee
    case value f => simp [primA] at h
    case invoke f m => simp [primA] at h
    case builtin b =>
      simp only [primA] at h
      have hargs : VRs M st.size (args.toList.map (opd env)) (args.map a.eval).toList := by
        rw [Array.toList_map]; exact VRs.map_of fun x hx => he x (by simp [Op.operands, Call.operands]; simpa using hx)
      generalize hA : args.toList.map (opd env) = A at h hargs
      generalize hB : args.map a.eval = B at hargs
      unfold builtinA at h
      split at h
      · rename_i y
        split at h
        · rename_i t ht
          obtain ⟨r, hy, hp⟩ := Option.map_eq_some_iff.1 h
          obtain ⟨rfl, rfl⟩ := Prod.mk.inj hp
          obtain ⟨v1, rfl, hv1⟩ : ∃ v1, B = #[v1] ∧ VR M st.size y v1 := by
            simp only [VRs] at hargs
            obtain ⟨v, vs', e, h1, rfl⟩ := hargs
            exact ⟨v, by cases B; simp_all, h1⟩
          obtain ⟨v, hv, hvr⟩ := len_sound argTypes ht type hy hs hv1
          refine ⟨rfl, v, ?_, hvr⟩
          simp only [execOp, resolve, hB, Sem.run_bind, Sem.run_pure, Result.andThen_ok, invoke, builtin, hv]
        · cases h
      · simp [rank] at hr
      · simp [rank] at hr
      · simp [rank] at hr
      · simp [rank] at hr
      · rename_i y l
        obtain ⟨r, hy, hp⟩ := Option.map_eq_some_iff.1 h
        obtain ⟨rfl, rfl⟩ := Prod.mk.inj hp
        simp only [VRs] at hargs
        obtain ⟨v1, vs', e, h1, h2⟩ := hargs
        obtain ⟨v, hv, hvr⟩ := (foldMM_sound (P := P) w l y r v1 vs' h1 h2).1 hy
        refine ⟨rfl, v, ?_, hvr⟩
        simp only [execOp, resolve, hB, Sem.run_bind, Sem.run_pure, Result.andThen_ok, invoke, builtin, Builtin.max_, e, hv]
      · rename_i y l
        obtain ⟨r, hy, hp⟩ := Option.map_eq_some_iff.1 h
        obtain ⟨rfl, rfl⟩ := Prod.mk.inj hp
        simp only [VRs] at hargs
        obtain ⟨v1, vs', e, h1, h2⟩ := hargs
        obtain ⟨v, hv, hvr⟩ := (foldMM_sound (P := P) w l y r v1 vs' h1 h2).2 hy
        refine ⟨rfl, v, ?_, hvr⟩
        simp only [execOp, resolve, hB, Sem.run_bind, Sem.run_pure, Result.andThen_ok, invoke, builtin, Builtin.min_, e, hv]
      · cases h
  all_goals simp [rank] at hr

/-- What hangs on its operands alone tells the same of any store. -/
theorem prim0_any {env : Env} {op : Op} {x : AV} {st' : St} (hr : rank P op = 0) (h : primA P env op st = some (x, st')) (st2 : St) : st' = st ∧ primA P env op st2 = some (x, st2) := by
  cases op
  case convert s d y =>
    simp only [primA, convA] at h ⊢
    simp only [rank] at hr
    split at hr
    · rename_i k hd
      rw [hd] at h ⊢
      generalize opd env y = z at h ⊢
      cases hu : P.underlying s with
      | none => rw [hu] at h; simp at h
      | some sd =>
        rw [hu] at h
        cases z <;> simp at h ⊢
        obtain ⟨rfl, rfl⟩ := h
        exact ⟨rfl, rfl⟩
    · cases hr
    · cases hr
  case call c =>
    obtain ⟨callee, args, argTypes⟩ := c
    cases callee
    case value f => simp [primA] at h
    case invoke f m => simp [primA] at h
    case builtin b => cases b <;> simp [rank] at hr
  case makeFunc fn p q =>
    cases fn <;> simp only [primA] at h ⊢ <;> try (cases h; done)
    obtain ⟨rfl, rfl⟩ := Prod.mk.inj (Option.some.inj h)
    exact ⟨rfl, rfl⟩
  all_goals (first | (simp [rank] at hr; done) | skip)
  all_goals simp only [primA] at h ⊢
  all_goals first
    | (obtain ⟨rfl, rfl⟩ := Prod.mk.inj (Option.some.inj h); exact ⟨rfl, rfl⟩)
    | (obtain ⟨r, hy, hp⟩ := Option.map_eq_some_iff.1 h; obtain ⟨rfl, rfl⟩ := Prod.mk.inj hp; exact ⟨rfl, by rw [hy]; rfl⟩)
    | (split at h <;> first
        | (cases h; done)
        | (obtain ⟨rfl, rfl⟩ := Prod.mk.inj (Option.some.inj h); exact ⟨rfl, rfl⟩)
        | (split at h <;> first | (cases h; done) | (obtain ⟨rfl, rfl⟩ := Prod.mk.inj (Option.some.inj h); exact ⟨rfl, rfl⟩)))
end Go.Ab
