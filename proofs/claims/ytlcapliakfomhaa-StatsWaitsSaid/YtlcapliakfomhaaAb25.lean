/- THE ABSTRACT EVALUATOR, 25: a typed form of it, made to be printed: what an operation asks stands as a plain condition, values of known types are split into their parts, and where ways meet they meet at one place. -/
import Derived.Test.YtlcapliakfomhaaAb24
namespace Go.Ab
abbrev OS := List AO
abbrev CallO := Fn → List AV → OS → (AV → OS → Prop) → Prop
@[reducible] def mk (o : OS) : St := ⟨o, some []⟩

inductive CK where
  | int (k : IntKind)
  | bool
  | str
  | any
  | fn (f first caps : Nat)
inductive VK where
  | one (c : CK)
  | agg (cs : List CK)
def exN : Nat → (List AV → Prop) → Prop
  | 0, F => F []
  | n + 1, F => ∃ v : AV, exN n fun vs => F (v :: vs)
def exC : CK → (AV → Prop) → Prop
  | .int k, F => ∃ x : Int, F (.int k x)
  | .bool, F => ∃ b : Bool, F (.bool b)
  | .str, F => ∃ s : ByteArray, F (.str s)
  | .any, F => ∃ v : AV, F v
  | .fn f a b, F => exN a fun x => exN b fun y => F (.func (.func f) x y)
def exCs : List CK → (List AV → Prop) → Prop
  | [], F => F []
  | c :: cs, F => exC c fun v => exCs cs fun vs => F (v :: vs)
def exV : VK → (AV → Prop) → Prop
  | .one c, F => exC c F
  | .agg cs, F => exCs cs fun vs => F (.agg vs)
def exVs : List VK → (List AV → Prop) → Prop
  | [], F => F []
  | c :: cs, F => exV c fun v => exVs cs fun vs => F (v :: vs)

def bnd {α : Type} (x : α) (K : α → Prop) : Prop := K x
def cnd (b : Bool) (A B : Prop) : Prop := if b = true then A else B
def ty (k : VK) (r : Option AV) (K : AV → Prop) : Prop := exV k fun v => r = some v ∧ K v
def jp (F : List AV → OS → Prop) (G : (List AV → OS → Prop) → Prop) : Prop := G F
def lp : Nat → ((List AV → OS → Prop) → List AV → OS → Prop) → List AV → OS → Prop
  | 0, _ => fun _ _ => False
  | n + 1, F => F (lp n F)
def sel (w x y : Bool) : Bool := match w with
  | true => x
  | false => y

def Env.has : Env → Nat → Bool
  | [], _ => false
  | (i, _) :: e, t => match Nat.beq i t with
    | true => true
    | false => Env.has e t
def okO (env : Env) : Operand → Bool
  | .tmp t => env.has t
  | _ => true

def AV.isP : AV → Bool
  | .ptr _ _ => true
  | _ => false
def AV.isS : AV → Bool
  | .slice .. | .nilslice | .eslice .. | .zslice => true
  | _ => false
def AV.nnil : AV → Bool
  | .ptr _ _ => true
  | .func (.func _) _ _ => true
  | _ => false
/-- A place further on. -/
def padd (off : Nat) : AV → AV
  | .ptr id o => .ptr id (o + off)
  | _ => .unk
/-- How many elements a slice has. -/
def alen : AV → Int
  | .slice _ _ n _ _ => n
  | _ => 0
/-- Where an element lies. -/
def ixp (s : Nat) (x : AV) (i : Int) : AV := match x with
  | .slice id off _ _ _ => .ptr id (off + i.toNat * s)
  | _ => .unk
def byteAt (s : ByteArray) (i : Int) : Int := (((s[i.toNat]?).getD 0).toNat : Int)
def nilS : AV → Option Bool
  | .nilslice => some true
  | .slice .. | .eslice .. | .zslice => some false
  | _ => none
def nilP : AV → Option Bool
  | .nilptr => some true
  | .ptr .. => some false
  | _ => none
def nilM : AV → Option Bool
  | .nilmap => some true
  | .map _ => some false
  | _ => none
def nilF : AV → Option Bool
  | .nilfunc => some true
  | .func .. => some false
  | _ => none

def nilS2 (x y : AV) : Option Bool := match y with
  | .nilslice => nilS x
  | y => match x with
    | .nilslice => nilS y
    | _ => none
def nilP2 (x y : AV) : Option Bool := match y with
  | .nilptr => nilP x
  | y => match x with
    | .nilptr => nilP y
    | _ => none
def nilM2 (x y : AV) : Option Bool := match y with
  | .nilmap => nilM x
  | y => match x with
    | .nilmap => nilM y
    | _ => none
def nilF2 (x y : AV) : Option Bool := match y with
  | .nilfunc => nilF x
  | y => match x with
    | .nilfunc => nilF y
    | _ => none

def ldO (ag : Bool) (n : Nat) (a : AV) (o : OS) : Option AV := match a with
  | .ptr id off => match o[id]? with
    | some (.cells _ vs) => match ag with
      | true => if off + n ≤ vs.length then some (.agg ((vs.drop off).take n)) else none
      | false => vs[off]?
    | _ => none
  | _ => none
def stO (a : AV) (cs : List AV) (o : OS) : Option OS := match a with
  | .ptr id off => match o[id]? with
    | some (.cells true vs) => if off + cs.length ≤ vs.length then some (o.set id (.cells true (splice vs off cs))) else none
    | _ => none
  | _ => none
def appO (s b : Nat) (x y : AV) (o : OS) : Option (AV × OS) := match newOf s y (mk o) with
  | some (m, new) => if new.all AV.one = true ∧ m ≤ 4294967296 ∧ b ≤ 4096 ∧ 0 < s ∧ new.length = m * s then (appendTo s b m new x (mk o)).map fun r => (r.1, r.2.objs) else none
  | none => none
def bytesO (x : AV) (o : OS) : Option (List UInt8) := (slCells 1 x (mk o)).bind bytesOf
/-- x[lo:hi:max] of a slice whose elements have s cells. -/
def slO (s : Nat) (x : AV) (lo hi mx : Option AV) : Option AV := match x with
  | .slice id off len cap k => match bound mx cap with
    | some m => match bound hi len, bound lo 0 with
      | some h, some l => if m ≤ cap ∧ h ≤ m ∧ l ≤ h ∧ (mx.isSome = true → hi.isSome = true) ∧ (k = 0 ∨ k = s) then some (sliceCut id off s (if mx.isSome then 0 else k) l h m) else none
      | _, _ => none
    | none => none
  | .nilslice => match bound lo 0, bound hi 0, bound mx 0 with
    | some 0, some 0, some 0 => if mx.isSome && hi.isNone then none else some .nilslice
    | _, _, _ => none
  | .eslice id k => match bound lo 0, bound hi 0 with
    | some 0, some 0 => if mx.isSome then none else some (.eslice id k)
    | _, _ => none
  | .zslice => match bound lo 0, bound hi 0 with
    | some 0, some 0 => if mx.isSome then none else some .zslice
    | _, _ => none
  | _ => none
def cpO (s : Nat) (x y : AV) (o : OS) : Option (Int × OS) := match newOf s y (mk o), x with
  | some _, .nilslice => some (0, o)
  | some _, .eslice _ _ => some (0, o)
  | some _, .zslice => some (0, o)
  | some (m, new), .slice id off len _ _ =>
    if Nat.min m len = 0 then some (0, o) else
    match o[id]? with
    | some (.cells true vs) =>
      if off + Nat.min m len * s ≤ vs.length ∧ (new.take (Nat.min m len * s)).all AV.one ∧ new.length = m * s then
        some ((Nat.min m len : Nat), o.set id (.cells true (splice vs off (new.take (Nat.min m len * s)))))
      else none
    | _ => none
  | _, _ => none

def gCell : CK → AV → Prop → Prop
  | .int _, .int _ _, A => A
  | .bool, .bool _, A => A
  | .str, .str _, A => A
  | .any, v, A => v.one = true ∧ A
  | .fn _ _ _, v, A => v.one = true ∧ A
  | _, _, _ => False
def gCells : List CK → List AV → Prop → Prop
  | [], [], A => A
  | c :: cs, v :: vs, A => gCell c v (gCells cs vs A)
  | _, _, _ => False
def gVal (k : VK) (v : AV) (K : List AV → Prop) : Prop := match k with
  | .one c => gCell c v (K [v])
  | .agg ks => match v with
    | .agg cs => gCells ks cs (K cs)
    | _ => False

section
variable (P : Program)
def ckT (t : TypeId) : CK := match P.underlying t with
  | some (.int k) => .int k
  | some .bool => .bool
  | some .string => .str
  | _ => .any
def times' (l : List CK) : Nat → List CK
  | 0 => []
  | n + 1 => l ++ times' l n
def cksF (f : TypeId → Option (List CK)) : List Field → Option (List CK)
  | [] => some []
  | x :: r => match f x.type, cksF f r with
    | some a, some b => some (a ++ b)
    | _, _ => none
def cksT : Nat → TypeId → Option (List CK)
  | 0, _ => none
  | d + 1, t => match P.underlying t with
    | some (.struct fs) => cksF (cksT d) fs.toList
    | some (.array n e) => if 24 < n then none else (cksT d e).map fun l => times' l n
    | _ => some [ckT P t]
def vkT (t : TypeId) : VK := match tyAgg P t with
  | some true => match cksT P 8 t with
    | some l => if 40 < l.length then .one .any else .agg l
    | none => .one .any
  | _ => .one (ckT P t)

def gFill (place : Nat → Option (Nat × Nat)) (kind : Nat → VK) (cells : List AV) : List (Nat × AV) → (List AV → Prop) → Prop
  | [], K => K cells
  | (i, v) :: rest, K => match place i with
    | none => False
    | some (off, size) => gVal (kind i) v fun vc =>
      match vc.length == size && decide (off + vc.length ≤ cells.length) with
      | true => gFill place kind (splice cells off vc) rest K
      | false => False
def fieldKind (fs : Array Field) (i : Nat) : VK := match fs[i]? with
  | some f => vkT P f.type
  | none => .one .any
def gBuild (t : TypeId) (parts : List (Nat × AV)) (K : AV → Prop) : Prop :=
  match tyZero P t, P.underlying t with
  | some z, some (.struct fs) => match fs.all fun f => (tySize P f.type).isSome with
    | true => gFill (fieldPlaces P fs) (fieldKind P fs) z parts fun cs => K (.agg cs)
    | false => False
  | some z, some (.array _ e) => match tySize P e with
    | some s => gFill (fun i => some (i * s, s)) (fun _ => vkT P e) z parts fun cs => K (.agg cs)
    | none => False
  | _, _ => False

def gInt (op : BinOp) (k k' : IntKind) (a b : Int) (K : AV → Prop) : Prop := match op with
  | .shl => 0 ≤ b ∧ bnd (k.wrap (a * 2 ^ (min b.toNat k.bits))) fun x => K (.int k x)
  | .shr => 0 ≤ b ∧ bnd (a.fdiv (2 ^ (min b.toNat k.bits))) fun x => K (.int k x)
  | .quo => if k = k' then b ≠ 0 ∧ bnd (k.wrap (a.tdiv b)) fun x => K (.int k x) else False
  | .rem => if k = k' then b ≠ 0 ∧ bnd (a.tmod b) fun x => K (.int k x) else False
  | op => if k = k' then match intBin op k a b with
    | some (.int k x) => bnd x fun x => K (.int k x)
    | some v => K v
    | none => False
    else False
def gNil (op : BinOp) (r : Option Bool) (K : AV → Prop) : Prop := ∃ b, r = some b ∧ (match op with
  | .eql => K (.bool b)
  | .neq => K (.bool !b)
  | _ => False)
def gBin (op : BinOp) (t : TypeId) (x y : AV) (K : AV → Prop) : Prop :=
  match P.underlying t with
  | some (.int _) => match x with
    | .int k a => match y with
      | .int k' b => gInt op k k' a b K
      | _ => False
    | _ => False
  | some .string => match x with
    | .str a => match y with
      | .str b => match op with
        | .add => a.size + b.size ≤ 9223372036854775807 ∧ bnd (a ++ b) fun s => K (.str s)
        | op => match strBin op a b with
          | some v => K v
          | none => False
      | _ => False
    | _ => False
  | some .bool => match x with
    | .bool a => match y with
      | .bool b => match op with
        | .eql => K (.bool (a == b))
        | .neq => K (.bool !(a == b))
        | _ => False
      | _ => False
    | _ => False
  | some (.slice _) => gNil op (nilS2 x y) K
  | some (.pointer _) => gNil op (nilP2 x y) K
  | some (.map _ _) => gNil op (nilM2 x y) K
  | some (.func _ _ _) => gNil op (nilF2 x y) K
  | _ => ty (.one .bool) (binA P op t x y) K

def gConv (s d : TypeId) (x : AV) (st : OS) (K : AV → OS → Prop) : Prop :=
  match P.underlying d with
  | some (.int k) => match x with
    | .int _ n => match P.underlying s with
      | some _ => bnd (k.wrap n) fun n => K (.int k n) st
      | none => False
    | _ => False
  | some .string => match P.underlying s with
    | some (.slice e) => match P.underlying e with
      | some (.int .u8) => ∃ l, bytesO x st = some l ∧ K (.str ⟨l.toArray⟩) st
      | _ => False
    | some _ => match x with
      | .str s => K (.str s) st
      | _ => False
    | none => False
  | some (.slice e) => match P.underlying s with
    | some .string => match x with
      | .str s => match P.underlying e with
        | some (.int .u8) => s.size ≤ 4294967296 ∧ bnd (st ++ [.cells true (byteCells s.data.toList)]) fun o' => K (.slice st.length 0 s.size s.size 1) o'
        | _ => False
      | _ => False
    | _ => ∃ v st', convA P s d x (mk st) = some (v, st') ∧ K v st'.objs
  | _ => False

def gMM (r : Option AV) (K : AV → Prop) : Prop := match r with
  | some (.int k x) => bnd x fun x => K (.int k x)
  | _ => False

def gBuiltin (b : Builtin) (ts : Array TypeId) (args : List AV) (st : OS) (K : AV → OS → Prop) : Prop :=
  match b with
  | .len => match args with
    | [x] => match ts[0]? with
      | some t => match P.underlying t with
        | some .string => match x with
          | .str s => K (.int .i64 s.size) st
          | _ => False
        | some (.array n _) => K (.int .i64 n) st
        | some (.slice _) => x.isS = true ∧ K (.int .i64 (alen x)) st
        | some (.map _ _) => ∃ es, mapEs x (mk st) = some es ∧ K (.int .i64 es.length) st
        | _ => False
      | none => False
    | _ => False
  | .append => match args with
    | [x, y] => match ts[0]?, ts[1]? with
      | some t, some u => match P.underlying t with
        | some (.slice e) => match P.underlying u with
          | some (.int _) => False
          | some _ => match tySize P e, tyBytes P e, zeros P e 0 with
            | some s, some b, some _ => ∃ v o', appO s b x y st = some (v, o') ∧ K v o'
            | _, _, _ => False
          | none => False
        | _ => False
      | _, _ => False
    | _ => False
  | .copy => match args with
    | [x, y] => match ts[0]? with
      | some t => match P.underlying t with
        | some (.slice e) => match tySize P e with
          | some s => ∃ n o', cpO s x y st = some (n, o') ∧ K (.int .i64 n) o'
          | none => False
        | _ => False
      | none => False
    | _ => False
  | .delete => match args with
    | [m, k] => match ts[0]? with
      | some t => ∃ s, deleteA P t m k (mk st) = some s ∧ K (.tuple []) s.objs
      | none => False
    | _ => False
  | .clear => match args with
    | [x] => match ts[0]? with
      | some t => ∃ s, clearA P t x (mk st) = some s ∧ K (.tuple []) s.objs
      | none => False
    | _ => False
  | .max => match args with
    | x :: r => gMM (foldMM true x r) fun v => K v st
    | _ => False
  | .min => match args with
    | x :: r => gMM (foldMM false x r) fun v => K v st
    | _ => False
  | _ => False

def intOf (d : Int) : Option AV → Option Int
  | none => some d
  | some (.int _ i) => some i
  | some _ => none

def gPrim (env : Env) (op : Op) (st : OS) (K : AV → OS → Prop) : Prop :=
  match op with
  | .move x | .assign x => K (opd env x) st
  | .pick c a b => match opd env c with
    | .bool w => match opd env a, opd env b with
      | .bool x, .bool y => K (.bool (sel w x y)) st
      | x, y => cnd w (K x st) (K y st)
    | _ => False
  | .alloc t => match zeros P t 1 with
    | some z => bnd (st ++ [.cells true z]) fun o' => K (.ptr st.length 0) o'
    | none => False
  | .box t x => gVal (vkT P t) (opd env x) fun cs => bnd (st ++ [.cells true cs]) fun o' => K (.ptr st.length 0) o'
  | .build t ps => gBuild P t (ps.toList.map fun p => (p.1, opd env p.2)) fun v => K v st
  | .buildSlice t n ps => match P.underlying t with
    | some (.slice e) => match tySize P e, zeros P e n with
      | some s, some z => if n * s ≤ 16777216 then
          gFill (fun i => some (i * s, s)) (fun _ => vkT P e) z (ps.toList.map fun p => (p.1, opd env p.2)) fun cs =>
            bnd (st ++ [.cells true cs]) fun o' => K (.slice st.length 0 n n 0) o'
        else False
      | _, _ => False
    | _ => False
  | .load t a => match tyAgg P t, tySize P t with
    | some ag, some n => ty (vkT P t) (ldO ag n (opd env a) st) fun v => K v st
    | _, _ => False
  | .store t a x => match tySize P t with
    | some n => gVal (vkT P t) (opd env x) fun cs => if cs.length = n then ∃ o', stO (opd env a) cs st = some o' ∧ K undefA o' else False
    | none => False
  | .nilCheck x => (opd env x).nnil = true ∧ K (opd env x) st
  | .binOp op t x y _ => gBin P op t (opd env x) (opd env y) fun v => K v st
  | .unOp op _ x => match unA op (opd env x) with
    | some (.int k n) => bnd n fun n => K (.int k n) st
    | some v => K v st
    | none => False
  | .convert s d x => gConv P s d (opd env x) st K
  | .makeFunc (.func f) a b => K (.func (.func f) (a.toList.map (opd env)) (b.toList.map (opd env))) st
  | .makeMap t r => match r with
    | none => bnd (st ++ [.map [] 0]) fun o' => K (.map st.length) o'
    | some x => match P.underlying t with
      | some (.map _ _) => match opd env x with
        | .int _ _ => bnd (st ++ [.map [] 0]) fun o' => K (.map st.length) o'
        | _ => False
      | _ => False
  | .makeSlice t l c => match P.underlying t with
    | some (.slice e) => match opd env l with
      | .int _ l => match opd env c with
        | .int _ c => match tyBytes P e, tySize P e, tyZero P e with
          | some b, some s, some z => match z.length == s && z.all AV.one && decide (b ≤ 65536) with
            | true => (0 ≤ l ∧ l ≤ c ∧ c ≤ 4294967296) ∧ bnd (st ++ [.cells true (times z c.toNat)]) fun o' => K (.slice st.length 0 l.toNat c.toNat 0) o'
            | false => False
          | _, _, _ => False
        | _ => False
      | _ => False
    | _ => False
  | .slice t x l h m => match P.underlying t with
    | some .string => match opd env x with
      | .str s => match m, intOf 0 (l.map (opd env)), intOf s.size (h.map (opd env)) with
        | none, some l, some h => (0 ≤ l ∧ l ≤ h ∧ h ≤ s.size) ∧ bnd (s.extract l.toNat h.toNat) fun s => K (.str s) st
        | _, _, _ => False
      | _ => False
    | some (.slice e) => match tySize P e with
      | some s => ∃ v, slO s (opd env x) (l.map (opd env)) (h.map (opd env)) (m.map (opd env)) = some v ∧ K v st
      | none => False
    | _ => ∃ v, sliceA P t (opd env x) (l.map (opd env)) (h.map (opd env)) (m.map (opd env)) = some v ∧ K v st
  | .fieldAddr t x f => match P.underlying t with
    | some (.struct fs) => match fs[f]? with
      | some fd => match tySize P fd.type with
        | some (_ + 1) => (opd env x).isP = true ∧ K (padd fd.offset (opd env x)) st
        | _ => False
      | none => False
    | _ => False
  | .field t x f => match fieldA P t (opd env x) f with
    | some v => K v st
    | none => False
  | .indexAddr t x i => match opd env i with
    | .int _ i => match P.underlying t with
      | some (.array n e) => match tySize P e with
        | some s => (opd env x).isP = true ∧ (0 ≤ i ∧ i < n) ∧ K (padd (i.toNat * s) (opd env x)) st
        | none => False
      | some (.slice e) => match tySize P e with
        | some s => (0 ≤ i ∧ i < alen (opd env x)) ∧ K (ixp s (opd env x) i) st
        | none => False
      | _ => False
    | _ => False
  | .index t x i => match opd env i with
    | .int _ i => match P.underlying t with
      | some (.array n e) => match opd env x with
        | .agg cs => match tySize P e with
          | some s => (0 ≤ i ∧ i < n) ∧ ty (vkT P e) (partA P e cs (i.toNat * s)) fun v => K v st
          | none => False
        | _ => False
      | some .string => match opd env x with
        | .str s => (0 ≤ i ∧ i < s.size) ∧ bnd (byteAt s i) fun b => K (.int .u8 b) st
        | _ => False
      | _ => False
    | _ => False
  | .lookup t m k ok => match P.underlying t with
    | some (.map _ e) => match ok with
      | true => exV (vkT P e) fun v => exC .bool fun b => lookupA P t (opd env m) (opd env k) true (mk st) = some (.tuple [v, b]) ∧ K (.tuple [v, b]) st
      | false => ty (vkT P e) (lookupA P t (opd env m) (opd env k) false (mk st)) fun v => K v st
    | _ => False
  | .mapUpdate t m k x | .insert t m k x => ∃ s, mapUpdateA P t (opd env m) (opd env k) (opd env x) (mk st) = some s ∧ K undefA s.objs
  | .range t x => ∃ r s, rangeA P t (opd env x) (mk st) = some (r, s) ∧ K r s.objs
  | .extract t i => match opd env t with
    | .tuple vs => match vs[i]? with
      | some v => K v st
      | none => False
    | _ => False
  | .call c => match c.callee with
    | .builtin b => gBuiltin P b c.argTypes (c.args.toList.map (opd env)) st K
    | _ => False
  | _ => False

variable (call : CallO)
def kindsR (rs : List TypeId) (K : AV → Prop) : AV → Prop := match rs with
  | [] => K
  | [t] => match vkT P t with
    | .one .any => K
    | k => fun v => exV k fun w => v = w ∧ K w
  | ts => fun v => exVs (ts.map (vkT P)) fun ws => v = .tuple ws ∧ K (.tuple ws)
def resT (f : Nat) : List TypeId := match P.funcs[f]? with
  | some fn => fn.resultTypes.toList
  | none => []

def gOp (env : Env) (op : Op) (st : OS) (K : AV → OS → Prop) : Prop :=
  match op.operands.toList.all (okO env) with
  | false => False
  | true => match op with
    | .call { callee := .value f, args, argTypes := _ } => match opd env f with
      | .func (.func g) first caps => call (.func g) (first ++ args.toList.map (opd env) ++ caps) st fun v o' => kindsR P (resT P g) (fun v => K v o') v
      | _ => False
    | .next it false => ∃ l, nextA (opd env it) (mk st) = some l ∧ ∀ r, r ∈ l → (r.1 = .tuple [.bool false] ∧ K (.tuple [.bool false]) r.2.objs) ∨ (∃ k v, r.1 = .tuple [.bool true, k, v] ∧ K (.tuple [.bool true, k, v]) r.2.objs)
    | op => gPrim P env op st K

/-- How an operation that hangs on a condition goes on: with what is now known of the condition. -/
def gWant (env : Env) (ops : Array Oper) (o : Oper) (run skip : Env → Prop) : Prop :=
  match o.guard with
  | none => run env
  | some (j, w) => match (ops[j]?).bind (·.dst) with
    | none => skip env
    | some t => match env.get t with
      | .bool b => match w with
        | true => cnd b (run (env.put (some t) (.bool true))) (skip (env.put (some t) (.bool false)))
        | false => cnd b (skip (env.put (some t) (.bool true))) (run (env.put (some t) (.bool false)))
      | .tuple [] => skip env
      | _ => False

def gOps (ops : Array Oper) : List Oper → (Env → OS → Prop) → Env → OS → Prop
  | [], K, env, st => K env st
  | o :: rest, K, env, st => gWant env ops o (fun env => gOp P call env o.op st fun v st' => gOps ops rest K (env.put o.dst v) st') (fun env => gOps ops rest K (env.put o.dst undefA) st)

/-- Does a reader tell the same of another store? -/
def gStill (st : OS) : List Seen → Prop → Prop
  | [], A => A
  | r :: l, A => gPrim P r.env r.o.op st fun v _ => v = r.v ∧ beqA v v = true ∧ gStill st l A

def gDraw (ops : Array Oper) (bef : List Nat) : List Nat → List Seen → (Env → OS → Prop) → Env → OS → Prop
  | [], _, K, env, st => K env st
  | i :: rest, seen, K, env, st => match ops[i]? with
    | none => False
    | some o => gWant env ops o
        (fun env => match decide (rank P o.op < 2) with
          | true => match o.op.operands.toList.all (okO env) with
            | true => gPrim P env o.op st fun v _ => gDraw ops bef rest (if rank P o.op = 1 then { i, o, env, v } :: seen else seen) K (env.put o.dst v) st
            | false => False
          | false => gOp P call env o.op st fun v st' => gStill P st' (seen.filter fun r => !(((bef[i]?).getD 0).testBit r.i)) (gDraw ops bef rest (seen.filter fun r => !(((bef[i]?).getD 0).testBit r.i)) K (env.put o.dst v) st'))
        (fun env => gDraw ops bef rest seen K (env.put o.dst undefA) st)

/-! Kinds of slots: by what first writes them. -/
def flatOps : Code → List Oper
  | .region _ ops _ => ops.toList
  | .seq a b => flatOps a ++ flatOps b
  | .cond _ a b => flatOps a ++ flatOps b
  | .block _ b => flatOps b
  | .loop b => flatOps b
  | .scope b => flatOps b
  | _ => []
def opKind (o : Oper) : VK := match o.op with
  | .binOp .eql .. | .binOp .neq .. | .binOp .lss .. | .binOp .leq .. | .binOp .gtr .. | .binOp .geq .. => .one .bool
  | .unOp .not .. => .one .bool
  | .load t _ => vkT P t
  | _ => vkT P o.type
def firstW : List Oper → Nat → Option Oper
  | [], _ => none
  | o :: r, t => match o.dst with
    | some d => match Nat.beq d t with
      | true => some o
      | false => firstW r t
    | none => firstW r t
def isFn (t : TypeId) : Bool := match P.underlying t with
  | some (.func _ _ _) => true
  | _ => false
/-- What a function value is, by what first made it. -/
def fnKind (l : List Oper) : Nat → Nat → VK
  | 0, _ => .one .any
  | d + 1, t => match firstW l t with
    | some o => match o.op with
      | .makeFunc (.func f) a b => .one (.fn f a.size b.size)
      | .move (.tmp u) | .assign (.tmp u) => fnKind l d u
      | _ => .one .any
    | none => .one .any
def kindOf (ps : List TypeId) (nf : Nat) (l : List Oper) (t : Nat) : VK := match ps[t]? with
  | some p => vkT P p
  | none => if t < ps.length + nf then .one .any else match firstW l t with
    | some o => match isFn P o.type with
      | true => fnKind l 6 t
      | false => opKind P o
    | none => .one .any

/-- How often code is left at its end. -/
def exits (id : Nat) : Code → Nat
  | .exit i => match Nat.beq i id with | true => 1 | false => 0
  | .seq a b => exits id a + exits id b
  | .cond _ a b => exits id a + exits id b
  | .block _ b => exits id b
  | .loop b => exits id b
  | .scope b => exits id b
  | _ => 0
def norms : Code → Nat
  | .seq a b => match norms a with | 0 => 0 | _ + 1 => norms b
  | .cond _ a b => norms a + norms b
  | .block id b => norms b + exits id b
  | .scope b => norms b
  | .loop _ | .exit _ | .ret | .goto _ | .refuse _ => 0
  | _ => 1
def hasLoop : Code → Bool
  | .loop _ => true
  | .seq a b => hasLoop a || hasLoop b
  | .cond _ a b => hasLoop a || hasLoop b
  | .block _ b => hasLoop b
  | .scope b => hasLoop b
  | _ => false
def needJ (a : Code) : Bool := decide (2 ≤ norms a) || hasLoop a
def guarded (ops : Array Oper) : Bool := ops.toList.any fun o => o.guard.isSome

variable (n : Nat) (kd : Nat → VK)
/-- Ways meet. -/
def meet (ls : List Nat) (F : Env → OS → Prop) (G : (Env → OS → Prop) → Prop) : Prop :=
  jp (fun vals o => exVs (ls.map kd) fun vs => vals = vs ∧ F (framed ls vs) o) fun j => G fun e o => match ls.all e.has with
    | true => j (ls.map e.get) o
    | false => False

def gCode (rv : Nat) : Code → (X → Env → OS → Prop) → Nat → List (Nat × Nat) → Env → OS → Prop
  | .skip, K, _, _, env, st => K .normal env st
  | .label _, K, _, _, env, st => K .normal env st
  | .region _ ops draw, K, lv, _, env, st =>
    match guarded ops with
    | true => meet kd (bits lv) (K .normal) fun J => match draw with
      | true => match drawOk P ops (aheads ops.toList) (eager P ops (aheads ops.toList) ops.size 0) with
        | true => gDraw P call ops (aheads ops.toList) (eager P ops (aheads ops.toList) ops.size 0) [] J env st
        | false => False
      | false => gOps P call ops ops.toList J env st
    | false => match draw with
      | true => match drawOk P ops (aheads ops.toList) (eager P ops (aheads ops.toList) ops.size 0) with
        | true => gDraw P call ops (aheads ops.toList) (eager P ops (aheads ops.toList) ops.size 0) [] (K .normal) env st
        | false => False
      | false => gOps P call ops ops.toList (K .normal) env st
  | .seq a b, K, lv, ex, env, st =>
    match needJ a with
    | true => meet kd (bits (live rv b lv ex)) (fun e s => gCode rv b K lv ex e s) fun J =>
      gCode rv a (fun x e s => match x with
        | .normal => J e s
        | .exit i => K (.exit i) e s
        | .ret => K .ret e s) (live rv b lv ex) ex env st
    | false => gCode rv a (fun x e s => match x with
      | .normal => gCode rv b K lv ex e s
      | .exit i => K (.exit i) e s
      | .ret => K .ret e s) (live rv b lv ex) ex env st
  | .cond c a b, K, lv, ex, env, st => match okO env c with
    | true => match opd env c with
      | .bool w => cnd w (gCode rv a K lv ex env st) (gCode rv b K lv ex env st)
      | _ => False
    | false => False
  | .block id b, K, lv, ex, env, st =>
    gCode rv b (fun x e s => match x with
      | .exit i => match Nat.beq i id with
        | true => K .normal e s
        | false => K (.exit i) e s
      | .normal => K .normal e s
      | .ret => K .ret e s) lv ((id, lv) :: ex) env st
  | .loop b, K, _, ex, env, st =>
    match (bits (live rv b 0 ex)).all env.has with
    | true => lp n (fun X vals o => exVs ((bits (live rv b 0 ex)).map kd) fun vs => vals = vs ∧ gCode rv b (fun x e s => match x with
      | .normal => match (bits (live rv b 0 ex)).all e.has with
        | true => X ((bits (live rv b 0 ex)).map e.get) s
        | false => False
      | .exit i => K (.exit i) e s
      | .ret => K .ret e s) (live rv b 0 ex) ex (framed (bits (live rv b 0 ex)) vs) o) ((bits (live rv b 0 ex)).map env.get) st
    | false => False
  | .scope b, K, lv, ex, env, st => gCode rv b K lv ex env st
  | .exit id, K, _, _, env, st => K (.exit id) env st
  | .ret, K, _, _, env, st => K .ret env st
  | _, _, _, _, _, _ => False

def gRes (rs : List ResultVar) (env : Env) (st : OS) (K : List AV → Prop) : Prop :=
  match rs with
  | [] => K []
  | .tmp t :: r => match env.has t with
    | true => gRes r env st fun vs => K (env.get t :: vs)
    | false => False
  | .cell a t :: r => match env.has a, tyAgg P t, tySize P t with
    | true, some ag, some m => ty (vkT P t) (ldO ag m (env.get a) st) fun v => gRes r env st fun vs => K (v :: vs)
    | _, _, _ => False

/-- What a function does; R: what is wanted of its answer. -/
def gFun (g : Nat) (args : List AV) (st : OS) (R : AV → OS → Prop) : Prop :=
  match P.funcs[g]? with
  | some fn => match fn.body with
    | some c => gCode P call n (kindOf P fn.params.toList fn.nfree (flatOps c)) (resMask fn.results.toList) c (fun x env st' => match x with
      | .exit _ => False
      | _ => gRes P fn.results.toList env st' fun vs => R (answer vs) st') (resMask fn.results.toList) [] (enterA args 0) st
    | none => False
  | none => False
end
/-- A caller may take the answer with the store as it stood, where the answer holds no place and nothing that stood has turned. -/
def rt (o : OS) (K : AV → OS → Prop) (v : AV) (o' : OS) : Prop :=
  K v o' ∨ (v.flat = true ∧ (∀ i, i < o.length → (o'[i]?).getD .dead = (o[i]?).getD .dead) ∧ K v o)
def GoF (P : Program) : CallO := fun f args o K => CallOk P f args (mk o) fun v s => K v s.objs
abbrev Go (P : Program) (f : Nat) (args : List AV) (o : OS) (K : AV → OS → Prop) : Prop := GoF P (.func f) args o K
end Go.Ab
