/- THE ABSTRACT EVALUATOR, 2: regions, code, functions, calls; as a condition on what holds behind them ('wp'). -/
import Derived.Test.YtlcapliakfomhaaAb1
namespace Go.Ab

/-- How a piece of code is left. -/
inductive X where
  | normal
  | exit (id : Nat)
  | ret

/-- A condition on calls: function, arguments, store, and what holds of the answer and the store behind. -/
abbrev CallP := Fn → List AV → St → (AV → St → Prop) → Prop
abbrev LoopP := ((List AV → St → Prop) → List AV → St → Prop) → List AV → St → Prop

/-- Is an operation wanted? none: not known. -/
def wantedA (ops : Array Oper) (o : Oper) (env : Env) : Option Bool :=
  match o.guard with
  | none => some true
  | some (j, w) => match (ops[j]?).bind (·.dst) with
    | none => some false
    | some t => match env.get t with
      | .bool b => some (b == w)
      | .tuple [] => some false
      | _ => none

/-- All of some. -/
def allP {α : Type} (K : α → Prop) : List α → Prop
  | [] => True
  | [a] => K a
  | a :: r => K a ∧ allP K r

section
variable (P : Program) (call : CallP)

def evOp (env : Env) (o : Oper) (st : St) (K : AV → St → Prop) : Prop :=
  match o.op with
  | .call { callee := .value f, args, argTypes := _ } => match opd env f with
    | .func (.yield l) first [] => call (.yield l) (first ++ args.toList.map (opd env)) st fun v s => K v (s.as st.dfs)
    | .func (.func g) first caps => call (.func g) (first ++ args.toList.map (opd env) ++ caps) st fun v s => K v (s.as st.dfs)
    | _ => False
  | .next it false => match nextA (opd env it) st with
    | some l => allP (fun x => K x.1 (x.2.as st.dfs)) l
    | none => False
  | .defer { callee := .value f, args, argTypes := _ } => match st.dfs with
    | some l => match opd env f with
      | .func (.func g) first caps => K undefA (st.as (some (.func (.func g) (first ++ args.toList.map (opd env)) caps :: l)))
      | _ => False
    | none => False
  | op => match primA P env op st with
    | some (v, st') => K v (st'.as st.dfs)
    | none => False

def evOps (ops : Array Oper) : List Oper → (Env → St → Prop) → Env → St → Prop
  | [], K, env, st => K env st
  | o :: rest, K, env, st => match wantedA ops o env with
    | some true => evOp P call env o st fun v st' => evOps ops rest K (env.put o.dst v) st'
    | some false => evOps ops rest K (env.put o.dst undefA) st
    | none => False

/-! Regions that draw their order: one order is gone through in which each operation that changes nothing comes as early as it may;
what reads memory is asked again behind each change that might come ahead of it. -/

/-- 0: hangs on its operands alone; 1: reads the store; 2: changes it. -/
def rank : Op → Nat
  | .move _ | .assign _ | .pick .. | .build .. | .nilCheck _ | .binOp .. | .unOp .. | .makeFunc .. | .slice .. | .fieldAddr .. | .field .. | .indexAddr .. | .index .. | .extract .. => 0
  | .load .. | .lookup .. | .entry _ => 1
  | .call { callee := .builtin .len, .. } => 1
  | .call { callee := .builtin .max, .. } => 1
  | .call { callee := .builtin .min, .. } => 1
  | .convert _ d _ => match P.underlying d with
    | some (.int _) => 0
    | some .string => 1
    | _ => 2
  | _ => 2

def binding (e : Edge) : Bool := Region.binds .any e

/-- Of each operation, all that stand ahead of it. -/
def aheads (ops : List Oper) : List Nat :=
  go ops []
where
  go : List Oper → List Nat → List Nat
    | [], acc => acc.reverse
    | o :: r, acc => go r ((o.after.toList.foldl (fun s e => if binding e then s ||| (2 ^ e.on) ||| ((acc.reverse)[e.on]?).getD 0 else s) 0) :: acc)

/-- What may come early or late: a new variable. -/
def isFloat (o : Oper) : Bool := match o.op with
  | .alloc t => o.guard.isNone && (zeros P t 1).isSome
  | _ => false
/-- The order: with fuel, the first that may come: those that change nothing first, new variables last. -/
def eager (ops : Array Oper) (bef : List Nat) : Nat → Nat → List Nat
  | 0, _ => []
  | n + 1, done =>
    let can := (List.range ops.size).filter fun i => !done.testBit i && ((bef[i]?).getD 0 &&& done == (bef[i]?).getD 0)
    match can.find? (fun i => match ops[i]? with | some o => rank P o.op < 2 | none => false) with
    | some i => i :: eager ops bef n (done ||| 2 ^ i)
    | none => match can.find? (fun i => match ops[i]? with | some o => !isFloat P o | none => false) with
      | some i => i :: eager ops bef n (done ||| 2 ^ i)
      | none => match can with
        | i :: _ => i :: eager ops bef n (done ||| 2 ^ i)
        | [] => []

def looks (ops : Array Oper) (o : Oper) : List Nat := Oper.looksAt ops o

/-- May a region be gone through in this order for all? -/
def drawOk (ops : Array Oper) (bef : List Nat) (ord : List Nat) : Bool :=
  ord.all (fun i => decide (i < ops.size)) && (List.range ops.size).all (fun i => ord.contains i) && Region.noSelect ops &&
  (List.range ops.size).all (fun i => match ops[i]? with
    | some o =>
      -- what stands ahead is told by 'bef'
      o.after.all (fun e => !binding e || (e.on < i && (((bef[i]?).getD 0).testBit e.on))) &&
      (List.range ops.size).all (fun j => !((bef[i]?).getD 0).testBit j || (j < i && o.after.any (fun e => binding e && (e.on == j || ((bef[e.on]?).getD 0).testBit j)))) &&
      -- one writer a slot, and whoever looks at it stands in an order to it
      (List.range ops.size).all (fun j => i == j || match ops[j]? with
        | some p =>
          (match o.dst with
            | some d => p.dst != some d && (!(looks ops p).contains d || ((bef[i]?).getD 0).testBit j || ((bef[j]?).getD 0).testBit i)
            | none => true)
        | none => false) &&
      (match o.dst with | some d => !(looks ops o).contains d | none => true)
    | none => false) &&
  late ord
where
  -- behind what changes the store stands only what must
  late : List Nat → Bool
    | [] => true
    | c :: r => (match ops[c]? with
      | some o => rank P o.op < 2 || r.all (fun x => ((bef[x]?).getD 0).testBit c || (match ops[x]? with | some q => isFloat P q | none => false))
      | none => false) && r.all (fun x => !(((bef[c]?).getD 0).testBit x) && !Nat.beq x c) && late r

/-- What was read: the operation, the frame in which it was, and what came of it. -/
structure Seen where
  i : Nat
  o : Oper
  env : Env
  v : AV

/-- Does a reader tell the same of another store? -/
def still (st : St) (r : Seen) (K : Prop) : Prop :=
  match primA P r.env r.o.op st with
  | some (v, _) => match beqA v r.v with
    | true => K
    | false => False
  | none => False
def stillAll (st : St) : List Seen → Prop → Prop
  | [], K => K
  | r :: l, K => still P st r (stillAll st l K)

def evDraw (ops : Array Oper) (bef : List Nat) : List Nat → List Seen → (Env → St → Prop) → Env → St → Prop
  | [], _, K, env, st => K env st
  | i :: rest, seen, K, env, st => match ops[i]? with
    | none => False
    | some o => match wantedA ops o env with
      | none => False
      | some false => evDraw ops bef rest seen K (env.put o.dst undefA) st
      | some true =>
        if rank P o.op < 2 then match primA P env o.op st with
          | some (v, _) => evDraw ops bef rest (if rank P o.op = 1 then { i, o, env, v } :: seen else seen) K (env.put o.dst v) st
          | none => False
        else
          let seen' := seen.filter fun r => !(((bef[i]?).getD 0).testBit r.i)
          evOp P call env o st fun v st' => stillAll P st' seen' (evDraw ops bef rest seen' K (env.put o.dst v) st')

def evRegion (ops : Array Oper) (draw : Bool) (K : Env → St → Prop) (env : Env) (st : St) : Prop :=
  if draw then
    let bef := aheads ops.toList
    let ord := eager P ops bef ops.size 0
    if drawOk P ops bef ord then evDraw P call ops bef ord [] K env st else False
  else evOps P call ops ops.toList K env st

/-! What is looked at later: bits of slots. Only to forget the others at a loop's head; nothing hangs on it. -/
def bitOf (m i : Nat) : Nat := m ||| 2 ^ i
def without (m i : Nat) : Nat := if m.testBit i then m ^^^ 2 ^ i else m
def usesOf (o : Oper) : List Nat := o.op.operands.toList.filterMap fun | .tmp t => some t | _ => none
def liveOps (ops : Array Oper) : List Oper → Nat → Nat
  | [], m => m
  | o :: r, m =>
    let m := liveOps ops r m
    let m := match o.dst with | some d => without m d | none => m
    let m := (usesOf o).foldl bitOf m
    match o.guard with
    | some (j, _) => match (ops[j]?).bind (·.dst) with | some t => bitOf m t | none => m
    | none => m
def live (rv : Nat) : Code → Nat → List (Nat × Nat) → Nat
  | .skip, m, _ => m
  | .region _ ops _, m, _ => liveOps ops ops.toList m
  | .seq a b, m, ex => live rv a (live rv b m ex) ex
  | .cond c a b, m, ex => match c with
    | .tmp t => bitOf (live rv a m ex ||| live rv b m ex) t
    | _ => live rv a m ex ||| live rv b m ex
  | .block id b, m, ex => live rv b m ((id, m) :: ex)
  | .loop b, _, ex => live rv b 0 ex
  | .rangeFunc f _ a b, m, ex =>
    let m := ex.foldl (fun m e => m ||| e.2) (m ||| rv ||| live 0 a (live 0 b 0 []) [])
    match f with | .tmp t => bitOf m t | _ => m
  | .exit id, _, ex => ((ex.find? (·.1 == id)).map (·.2)).getD 0
  | .scope b, m, ex => live rv b m ex
  | .label _, m, _ => m
  | .goto _, m, _ => m
  | .ret, _, _ => rv
  | .refuse _, m, _ => m

def bits (m : Nat) : List Nat := (List.range (Nat.log2 m + 1)).filter fun i => m.testBit i
def framed (ls : List Nat) (vals : List AV) : Env := go ls 0
where
  go : List Nat → Nat → Env
    | [], _ => []
    | s :: r, i => (s, (vals[i]?).getD .unk) :: go r (i + 1)

/-- Is there the loop in whose round we are? -/
def inLoop (ro : Option Nat) (st : St) : Bool :=
  match ro with
  | none => st.dfs.isSome
  | some l => match st.get l with
    | .loop .. => true
    | _ => false
variable (L : LoopP)
def evCode (rv : Nat) (ro : Option Nat) : Code → (X → Env → St → Prop) → Nat → List (Nat × Nat) → Env → St → Prop
  | .skip, K, _, _, env, st => K .normal env st
  | .label _, K, _, _, env, st => K .normal env st
  | .region _ ops draw, K, _, _, env, st => evRegion P call ops draw (K .normal) env st
  | .seq a b, K, lv, ex, env, st =>
    evCode rv ro a (fun x e s => match x with
      | .normal => evCode rv ro b K lv ex e s
      | .exit i => K (.exit i) e s
      | .ret => K .ret e s) (live rv b lv ex) ex env st
  | .cond c a b, K, lv, ex, env, st => match opd env c with
    | .bool true => evCode rv ro a K lv ex env st
    | .bool false => evCode rv ro b K lv ex env st
    | _ => False
  | .block id b, K, lv, ex, env, st =>
    evCode rv ro b (fun x e s => match x with
      | .exit i => if i = id then K .normal e s else K (.exit i) e s
      | .normal => K .normal e s
      | .ret => K .ret e s) lv ((id, lv) :: ex) env st
  | .loop b, K, _, ex, env, st =>
    let ls := bits (live rv b 0 ex)
    L (fun X vals s => evCode rv ro b (fun x e s => match x with
      | .normal => X (ls.map e.get) s
      | .exit i => K (.exit i) e s
      | .ret => K .ret e s) (live rv b 0 ex) ex (framed ls vals) s) (ls.map env.get) st
  | .scope b, K, lv, ex, env, st => evCode rv ro b K lv ex env st
  | .exit id, K, _, _, env, st => K (.exit id) env st
  | .ret, K, _, _, env, st => K .ret env st
  | .goto _, _, _, _, _, _ => False
  | .rangeFunc f ps a b, K, _, _, env, st => match opd env f with
    | .func (.func g) first caps =>
      if inLoop ro st then
        call (.func g) (first ++ [.func (.yield st.size) [] []] ++ caps) (st.push (.loop .ready none ps.toList a b env)) fun _ st' =>
          match st'.get st.size with
          | .loop .busy _ _ _ _ _ => False
          | .loop _ pend _ _ _ _ => match pend with
            | none => K .normal env ((st'.set st.size .dead).as st.dfs)
            | some .ret => K .ret env ((st'.set st.size .dead).as st.dfs)
            | some (.exit i) => K (.exit i) env ((st'.set st.size .dead).as st.dfs)
            | _ => False
          | _ => False
      else False
    | _ => False
  | .refuse _, _, _, _, _, _ => False

/-- A function's answer. -/
def resA (rs : List ResultVar) (env : Env) (st : St) : Option (List AV) :=
  match rs with
  | [] => some []
  | .tmp t :: r => (resA r env st).map (env.get t :: ·)
  | .cell a t :: r => match ldT P t (env.get a) st with
    | some v => (resA r env st).map (v :: ·)
    | none => none
def answer : List AV → AV
  | [v] => v
  | vs => .tuple vs
def resMask : List ResultVar → Nat
  | [] => 0
  | .tmp t :: r => bitOf (resMask r) t
  | .cell a _ :: r => bitOf (resMask r) a
def enterA : List AV → Nat → Env
  | [], _ => []
  | v :: r, i => (i, v) :: enterA r (i + 1)

/-- What a caller may take of an answer: as it is; or, where the answer holds no place and nothing that stood has turned, with the store as it stood. -/
def Ret (st : St) (Q : AV → St → Prop) (v : AV) (st' : St) : Prop :=
  Q v st' ∨ (v.flat = true ∧ (∀ i, i < st.size → st'.get i = st.get i) ∧ Q v st)

/-- What was deferred, called when the function is left. -/
def evDefers : List AV → St → (St → Prop) → Prop
  | [], st, K => K st
  | d :: r, st, K => match d with
    | .func (.func g) first caps => call (.func g) (first ++ caps) st fun _ s => evDefers r s K
    | _ => False
def evBody (fn : Func) (c : Code) (args : List AV) (st : St) (Q : AV → St → Prop) : Prop :=
  evCode P call L (resMask fn.results.toList) none c (fun x env st' => match x with
    | .exit _ => False
    | _ => evDefers call (st'.dfs.getD []) st' fun st' => match resA P fn.results.toList env st' with
      | some vs => Q (answer vs) (st'.as (some []))
      | none => False) (resMask fn.results.toList) [] (enterA args 0) (st.as (some []))

/-- A round's end: what yield hands back, and the loop's state. -/
def endRoundA (l : Nat) (Q : AV → St → Prop) (x : X) (st : St) : Prop :=
  match st.get l with
  | .loop _ _ ps a b env => match x with
    | .normal => Q (.bool true) (st.set l (.loop .ready none ps a b env))
    | .exit i => Q (.bool false) (st.set l (.loop .done (some (.exit i)) ps a b env))
    | .ret => Q (.bool false) (st.set l (.loop .done (some .ret) ps a b env))
  | _ => False
def putAll (env : Env) : List Tmp → List AV → Env
  | t :: ts, v :: vs => putAll (env.put (some t) v) ts vs
  | _, _ => env
/-- A round of a range over a function: a call of its yield. -/
def evRound (l : Nat) (args : List AV) (st : St) (Q : AV → St → Prop) : Prop :=
  match st.get l with
  | .loop _ _ ps a b env => match Nat.beq ps.length args.length with
    | true => evCode P call L 0 (some l) a (fun x e s => match x with
        | .normal => match s.get l with
          | .loop .ready p ps' a' b' env' => evCode P call L 0 (some l) b (fun x _ s => endRoundA l Q x s) 0 [] e (s.set l (.loop .busy p ps' a' b' env'))
          | _ => False
        | _ => False) (live 0 b 0 []) [] (putAll env ps args) (st.as none)
    | false => False
  | _ => False

/-- One step of a call. -/
def evCall (f : Fn) (args : List AV) (st : St) (Q : AV → St → Prop) : Prop :=
  match f with
  | .func f => match P.funcs[f]? with
    | some fn => match fn.body with
      | some c => evBody P call L fn c args st (Ret st Q)
      | none => False
    | none => False
  | .yield l => evRound P call L l args st Q
  | _ => False
end

/-- The least loop. -/
def Lfp : LoopP := fun F vals st => ∀ Y : List AV → St → Prop, (∀ v s, F Y v s → Y v s) → Y vals st

/-- THE MEANING OF A CALL: the least condition that holds where a step leads to it. -/
def Run (P : Program) (f : Fn) (args : List AV) (st : St) (Q : AV → St → Prop) : Prop :=
  ∀ Y : CallP, (∀ f args st Q, evCall P Y Lfp f args st Q → Y f args st Q) → Y f args st Q

end Go.Ab
