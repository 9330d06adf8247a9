/- THE ABSTRACT EVALUATOR, 1: values, store, and the operations of a Go function as plain Lean functions. No program, no memory of the model's. -/
import Derived.Calls
import Derived.Orders
namespace Go.Ab

inductive AV where
  | bool (b : Bool)
  | int (k : IntKind) (n : Int)
  | str (s : ByteArray)
  | nilptr
  | ptr (id off : Nat)
  | nilslice
  | slice (id off len cap k : Nat)
  | eslice (id k : Nat)
  | zslice
  | nilmap
  | map (id : Nat)
  | nilfunc
  | func (f : Fn) (first caps : List AV)
  | agg (cs : List AV)
  | tuple (vs : List AV)
  | iter (id : Nat)
  | unk
  deriving Inhabited

/-- An object: none is known (dead); cells (rw: the call's own; else what came in, only read); a map; a map's iterator. -/
inductive AO where
  | dead
  | cells (rw : Bool) (vs : List AV)
  | map (es : List (AV × AV × Nat)) (clock : Nat)
  | iter (m : Option Nat) (since : Nat) (seen : List Nat) (last : Nat)
  | loop (s : LoopState) (pend : Option Code) (ps : List Tmp) (assign body : Code) (env : List (Nat × AV))
  deriving Inhabited

/-- 'dfs': what the activation has deferred, the last ahead; none: in a round of a range over a function. -/
structure St where
  objs : List AO
  dfs : Option (List AV) := some []
  deriving Inhabited

namespace St
def size (st : St) : Nat := st.objs.length
def get (st : St) (id : Nat) : AO := (st.objs[id]?).getD .dead
def set (st : St) (id : Nat) (o : AO) : St := ⟨st.objs.set id o, st.dfs⟩
def push (st : St) (o : AO) : St := ⟨st.objs ++ [o], st.dfs⟩
def as (st : St) (d : Option (List AV)) : St := ⟨st.objs, d⟩
end St

def AV.cells : AV → List AV
  | .agg cs => cs
  | v => [v]
/-- Is it known to be one cell? -/
def AV.one : AV → Bool
  | .agg _ | .tuple _ | .unk => false
  | _ => true
/-- A value without any place in memory. -/
def AV.flat : AV → Bool
  | .bool _ | .int .. | .str _ | .nilptr | .nilslice | .zslice | .nilmap | .nilfunc => true
  | .agg cs => cs.all fun
    | .bool _ | .int .. | .str _ | .nilptr | .nilslice | .zslice | .nilmap | .nilfunc => true
    | _ => false
  | .tuple cs => cs.all fun
    | .bool _ | .int .. | .str _ | .nilptr | .nilslice | .zslice | .nilmap | .nilfunc => true
    | .agg cs => cs.all fun
      | .bool _ | .int .. | .str _ | .nilptr | .nilslice | .zslice | .nilmap | .nilfunc => true
      | _ => false
    | _ => false
  | _ => false

mutual
def beqA : AV → AV → Bool
  | .bool a, .bool b => a == b
  | .int j a, .int k b => decide (j = k) && decide (a = b)
  | .str a, .str b => decide (a = b)
  | .nilptr, .nilptr | .nilslice, .nilslice | .zslice, .zslice | .nilmap, .nilmap | .nilfunc, .nilfunc => true
  | .ptr i o, .ptr j p => Nat.beq i j && Nat.beq o p
  | .slice i o l c e, .slice j p m d f => Nat.beq i j && Nat.beq o p && Nat.beq l m && Nat.beq c d && Nat.beq e f
  | .eslice i o, .eslice j p => Nat.beq i j && Nat.beq o p
  | .map i, .map j | .iter i, .iter j => Nat.beq i j
  | .func f a b, .func g c d => decide (f = g) && beqL a c && beqL b d
  | .agg a, .agg b | .tuple a, .tuple b => beqL a b
  | _, _ => false
def beqL : List AV → List AV → Bool
  | [], [] => true
  | a :: r, b :: s => beqA a b && beqL r s
  | _, _ => false
end

abbrev Env := List (Nat × AV)
def Env.get : Env → Nat → AV
  | [], _ => .unk
  | (i, v) :: e, t => match Nat.beq i t with
    | true => v
    | false => Env.get e t
def Env.put (e : Env) : Option Nat → AV → Env
  | some d, v => (d, v) :: e
  | none, _ => e

def ofVal1 : Value → AV
  | .bool b => .bool b
  | .int k n => .int k n
  | .string s => .str s
  | .pointer none => .nilptr
  | .slice none 0 0 => .nilslice
  | .map none => .nilmap
  | .nilFunc => .nilfunc
  | _ => .unk
def ofVal : Value → AV
  | .agg cs => .agg (cs.toList.map ofVal1)
  | v => ofVal1 v

def opd (env : Env) : Operand → AV
  | .tmp t => env.get t
  | .const v => ofVal v
  | .global _ => .unk
  | .func f => .func (.func f) [] []

section
variable (P : Program)
def tySize (t : TypeId) : Option Nat := (P.info? t).map (·.size)
def tyBytes (t : TypeId) : Option Nat := (P.info? t).map (·.bytes)
def tyZero (t : TypeId) : Option (List AV) := ((P.info? t).bind (·.zero)).map fun v => (ofVal v).cells
def tyAgg (t : TypeId) : Option Bool := (P.underlying t).map fun
  | .struct _ | .array _ _ => true
  | _ => false

def splice (vs : List AV) (off : Nat) (new : List AV) : List AV := vs.take off ++ (new ++ vs.drop (off + new.length))

def partA (t : TypeId) (cs : List AV) (off : Nat) : Option AV :=
  match tyAgg P t, tySize P t with
  | some true, some n => if off + n ≤ cs.length then some (.agg ((cs.drop off).take n)) else none
  | some false, _ => cs[off]?
  | _, _ => none

def ldT (t : TypeId) (a : AV) (st : St) : Option AV :=
  match a with
  | .ptr id off => match st.get id with
    | .cells _ vs => partA P t vs off
    | _ => none
  | _ => none

def stT (t : TypeId) (a v : AV) (st : St) : Option St :=
  match a with
  | .ptr id off => match st.get id with
    | .cells true vs =>
      if v.cells.all AV.one && some v.cells.length == tySize P t && decide (off + v.cells.length ≤ vs.length) then
        some (st.set id (.cells true (splice vs off v.cells)))
      else none
    | _ => none
  | _ => none

def newCells (st : St) (vs : List AV) : AV × St := (.ptr st.size 0, st.push (.cells true vs))

def fillA (place : Nat → Option (Nat × Nat)) (cells : List AV) : List (Nat × AV) → Option (List AV)
  | [] => some cells
  | (i, v) :: rest =>
    match place i with
    | none => none
    | some (off, size) =>
      if v.cells.length == size && decide (off + v.cells.length ≤ cells.length) && v.cells.all AV.one then fillA place (splice cells off v.cells) rest
      else none

def fieldPlaces (fs : Array Field) : Nat → Option (Nat × Nat) := fun i => match fs[i]? with
  | some f => (tySize P f.type).map fun s => (f.offset, s)
  | none => none

def buildA (t : TypeId) (parts : List (Nat × AV)) : Option AV :=
  match tyZero P t, P.underlying t with
  | some z, some (.struct fs) => if fs.all fun f => (tySize P f.type).isSome then (fillA (fieldPlaces P fs) z parts).map .agg else none
  | some z, some (.array _ e) => match tySize P e with
    | some s => (fillA (fun i => some (i * s, s)) z parts).map .agg
    | none => none
  | _, _ => none

/-- n times some cells. -/
def times (z : List AV) : Nat → List AV
  | 0 => []
  | n + 1 => z ++ times z n

def zeros (t : TypeId) (n : Nat) : Option (List AV) :=
  match tySize P t, tyZero P t with
  | some s, some z => if z.length == s && z.all AV.one then some (times z n) else none
  | _, _ => none

def buildSliceA (t : TypeId) (n : Nat) (parts : List (Nat × AV)) (st : St) : Option (AV × St) :=
  match P.underlying t with
  | some (.slice e) => match tySize P e, zeros P e n with
    | some s, some z => if n * s ≤ 16777216 then
        (fillA (fun i => some (i * s, s)) z parts).map fun cs => (.slice st.size 0 n n 0, st.push (.cells true cs))
      else none
    | _, _ => none
  | _ => none

def fieldAddrA (t : TypeId) (a : AV) (f : Nat) : Option AV :=
  match P.underlying t, a with
  | some (.struct fs), .ptr id off => match fs[f]? with
    | some fd => match tySize P fd.type with
      | some (_ + 1) => some (.ptr id (off + fd.offset))
      | _ => none
    | none => none
  | _, _ => none

def indexAddrA (t : TypeId) (x i : AV) : Option AV :=
  match P.underlying t, x, i with
  | some (.array n e), .ptr id off, .int _ i => match tySize P e with
    | some s => if 0 ≤ i ∧ i < n then some (.ptr id (off + i.toNat * s)) else none
    | none => none
  | some (.slice e), .slice id off len _ _, .int _ i => match tySize P e with
    | some s => if 0 ≤ i ∧ i < len then some (.ptr id (off + i.toNat * s)) else none
    | none => none
  | _, _, _ => none

def fieldA (t : TypeId) (x : AV) (f : Nat) : Option AV :=
  match P.underlying t, x with
  | some (.struct fs), .agg cs => match fs[f]? with
    | some fd => partA P fd.type cs fd.offset
    | none => none
  | _, _ => none

def indexA (t : TypeId) (x i : AV) : Option AV :=
  match P.underlying t, x, i with
  | some (.array n e), .agg cs, .int _ i => match tySize P e with
    | some s => if 0 ≤ i ∧ i < n then partA P e cs (i.toNat * s) else none
    | none => none
  | some .string, .str s, .int _ i => if 0 ≤ i then match s[i.toNat]? with
    | some b => some (.int .u8 b.toNat)
    | none => none
    else none
  | _, _, _ => none

def eqFields (eq : TypeId → AV → AV → Option Bool) (xs ys : List AV) : List Field → Option Bool
  | [] => some true
  | f :: fs =>
    if f.name = "_" then eqFields eq xs ys fs else
    match partA P f.type xs f.offset, partA P f.type ys f.offset with
    | some a, some b => match eq f.type a b with
      | some true => eqFields eq xs ys fs
      | r => r
    | _, _ => none
def eqElems (eq : TypeId → AV → AV → Option Bool) (e : TypeId) (s : Nat) (xs ys : List AV) : List Nat → Option Bool
  | [] => some true
  | i :: is =>
    match partA P e xs (i * s), partA P e ys (i * s) with
    | some a, some b => match eq e a b with
      | some true => eqElems eq e s xs ys is
      | r => r
    | _, _ => none
/-- Go's ==, at a depth. -/
def eqA : Nat → TypeId → AV → AV → Option Bool
  | 0, _, _, _ => none
  | d + 1, t, x, y =>
    match P.underlying t, x, y with
    | some .bool, .bool a, .bool b => some (a == b)
    | some (.int _), .int k a, .int k' b => if k = k' then some (a == b) else none
    | some .string, .str a, .str b => some (a == b)
    | some (.pointer _), .nilptr, .nilptr => some true
    | some (.pointer _), .nilptr, .ptr _ _ => some false
    | some (.pointer _), .ptr _ _, .nilptr => some false
    | some (.slice _), .nilslice, .nilslice => some true
    | some (.slice _), .nilslice, .slice .. => some false
    | some (.slice _), .slice .., .nilslice => some false
    | some (.slice _), .nilslice, .eslice _ _ => some false
    | some (.slice _), .eslice _ _, .nilslice => some false
    | some (.map _ _), .nilmap, .nilmap => some true
    | some (.map _ _), .nilmap, .map _ => some false
    | some (.map _ _), .map _, .nilmap => some false
    | some (.func _ _ _), .nilfunc, .nilfunc => some true
    | some (.func _ _ _), .nilfunc, .func .. => some false
    | some (.func _ _ _), .func .., .nilfunc => some false
    | some (.struct fs), .agg xs, .agg ys =>
      if P.stoodInHeld t then none else eqFields P (eqA d) xs ys fs.toList
    | some (.array n e), .agg xs, .agg ys => match tySize P e with
      | some s => eqElems P (eqA d) e s xs ys (List.range n)
      | none => none
    | some (.slice _), .nilslice, .zslice => some false
    | some (.slice _), .zslice, .nilslice => some false
    | _, _, _ => none

/-- How deep == may go. -/
def eqDeep : Nat := 12

def intBin (op : BinOp) (k : IntKind) (a b : Int) : Option AV :=
  match op with
  | .add => some (.int k (k.wrap (a + b)))
  | .sub => some (.int k (k.wrap (a - b)))
  | .mul => some (.int k (k.wrap (a * b)))
  | .quo => if b = 0 then none else some (.int k (k.wrap (a.tdiv b)))
  | .rem => if b = 0 then none else some (.int k (a.tmod b))
  | .and => some (.int k (k.wrap ((BitVec.ofInt k.bits a &&& BitVec.ofInt k.bits b).toNat)))
  | .or => some (.int k (k.wrap ((BitVec.ofInt k.bits a ||| BitVec.ofInt k.bits b).toNat)))
  | .xor => some (.int k (k.wrap ((BitVec.ofInt k.bits a ^^^ BitVec.ofInt k.bits b).toNat)))
  | .andNot => some (.int k (k.wrap ((BitVec.ofInt k.bits a &&& ~~~BitVec.ofInt k.bits b).toNat)))
  | .eql => some (.bool (a == b))
  | .neq => some (.bool (a != b))
  | .lss => some (.bool (decide (a < b)))
  | .leq => some (.bool (decide (a ≤ b)))
  | .gtr => some (.bool (decide (a > b)))
  | .geq => some (.bool (decide (a ≥ b)))
  | _ => none

def shiftA (op : BinOp) (k : IntKind) (a b : Int) : Option AV :=
  if b < 0 then none else
  match op with
  | .shl => some (.int k (k.wrap (a * 2 ^ (min b.toNat k.bits))))
  | .shr => some (.int k (a.fdiv (2 ^ (min b.toNat k.bits))))
  | _ => none

def strBin (op : BinOp) (x y : ByteArray) : Option AV :=
  match op with
  | .add => if x.size + y.size ≤ 9223372036854775807 then some (.str (x ++ y)) else none
  | .eql => some (.bool (x.toList == y.toList))
  | .neq => some (.bool !(x.toList == y.toList))
  | .lss => some (.bool (Op.bytesLess x.toList y.toList))
  | .leq => some (.bool (Op.bytesLess x.toList y.toList || x.toList == y.toList))
  | .gtr => some (.bool !(Op.bytesLess x.toList y.toList || x.toList == y.toList))
  | .geq => some (.bool !Op.bytesLess x.toList y.toList)
  | _ => none

def isAggA : AV → Bool
  | .agg _ => true
  | _ => false

def binA (op : BinOp) (t : TypeId) (x y : AV) : Option AV :=
  match x, y with
  | .int k a, .int k' b => match op with
    | .shl => shiftA .shl k a b
    | .shr => shiftA .shr k a b
    | op => if k = k' then intBin op k a b else none
  | .str a, .str b => strBin op a b
  | x, y => match op with
    | .eql => if isAggA x && P.eqGuardType P.depth t then none else (eqA P eqDeep t x y).map .bool
    | .neq => if isAggA x && P.eqGuardType P.depth t then none else (eqA P eqDeep t x y).map fun b => .bool !b
    | _ => none

def unA (op : UnOp) (x : AV) : Option AV :=
  match op, x with
  | .neg, .int k n => some (.int k (k.wrap (0 - n)))
  | .xor, .int k n => some (.int k (k.wrap ((BitVec.ofInt k.bits (if k.signed then -1 else k.max) ^^^ BitVec.ofInt k.bits n).toNat)))
  | .not, .bool b => some (.bool !b)
  | _, _ => none

/-- Bytes of cells. -/
def bytesOf : List AV → Option (List UInt8)
  | [] => some []
  | .int .u8 n :: r => (bytesOf r).map (UInt8.ofNat n.toNat :: ·)
  | _ :: _ => none

def byteCells (l : List UInt8) : List AV := l.map fun b => .int .u8 b.toNat

def slCells (s : Nat) (x : AV) (st : St) : Option (List AV) :=
  match x with
  | .nilslice => some []
  | .eslice _ _ => some []
  | .zslice => some []
  | .slice id off len _ _ => match st.get id with
    | .cells _ vs => if off + len * s ≤ vs.length then some ((vs.drop off).take (len * s)) else none
    | _ => none
  | _ => none

def convA (src dst : TypeId) (x : AV) (st : St) : Option (AV × St) :=
  match P.underlying src, P.underlying dst, x with
  | some _, some (.int k), .int _ n => some (.int k (k.wrap n), st)
  | some _, some .string, .str s => some (.str s, st)
  | some (.slice e), some .string, x => match P.underlying e, slCells 1 x st with
    | some (.int .u8), some cs => (bytesOf cs).map fun l => (.str ⟨l.toArray⟩, st)
    | _, _ => none
  | some (.slice _), some (.slice e), .slice id off len cp k => match P.underlying e, st.get id, src == dst with
    | some (.int .u8), .cells true _, true => some (.slice id off len cp k, st)
    | _, _, _ => none
  | some _, some (.slice e), .str s => match P.underlying e with
    | some (.int .u8) => if s.size ≤ 4294967296 then
        some (.slice st.size 0 s.size s.size 1, st.push (.cells true (byteCells s.data.toList)))
      else none
    | _ => none
  | _, _, _ => none

/-- x[lo:hi:max] of a string or a slice. -/
def bound (x : Option AV) (d : Nat) : Option Nat :=
  match x with
  | none => some d
  | some (.int _ i) => if 0 ≤ i then some i.toNat else none
  | some _ => none

def sliceStr (s : ByteArray) (lo hi : Option AV) : Option AV :=
  match bound lo 0, bound hi s.size with
  | some l, some h => if l ≤ h ∧ h ≤ s.size then some (.str (s.extract l h)) else none
  | _, _ => none

/-- l, h, m of a slice whose elements have s cells; k as in the slice. -/
def sliceCut (id off s k l h m : Nat) : AV :=
  if m = l then (if k = 0 then .slice id off (h - l) 0 0 else if l = 0 then .slice id off 0 0 k else .eslice id k)
  else .slice id (off + l * s) (h - l) (m - l) k

def sliceA (t : TypeId) (x : AV) (lo hi mx : Option AV) : Option AV :=
  match P.underlying t, x with
  | some .string, .str s => if mx.isSome then none else sliceStr s lo hi
  | some (.slice e), .slice id off len cap k => match tySize P e, bound mx cap with
    | some s, some m => match bound hi len, bound lo 0 with
      | some h, some l => if m ≤ cap ∧ h ≤ m ∧ l ≤ h ∧ (mx.isSome = true → hi.isSome = true) ∧ (k = 0 ∨ k = s) then
          some (sliceCut id off s (if mx.isSome then 0 else k) l h m) else none
      | _, _ => none
    | _, _ => none
  | some (.slice e), .nilslice => match bound lo 0, bound hi 0, bound mx 0 with
    | some 0, some 0, some 0 => if (mx.isSome && hi.isNone) || (tySize P e).isNone then none else some .nilslice
    | _, _, _ => none
  | some (.slice e), .eslice id k => match bound lo 0, bound hi 0 with
    | some 0, some 0 => if mx.isSome || (tySize P e).isNone then none else some (.eslice id k)
    | _, _ => none
  | some (.slice e), .zslice => match bound lo 0, bound hi 0 with
    | some 0, some 0 => if mx.isSome || (tySize P e).isNone then none else some .zslice
    | _, _ => none
  | some (.array n e), .ptr id off => match tySize P e, bound mx n with
    | some s, some m => match bound hi n, bound lo 0 with
      | some h, some l => if m ≤ n ∧ h ≤ m ∧ l ≤ h ∧ (mx.isSome = true → hi.isSome = true) then some (sliceCut id off s 0 l h m) else none
      | _, _ => none
    | _, _ => none
  | _, _ => none

def makeSliceA (t : TypeId) (len cap : AV) (st : St) : Option (AV × St) :=
  match P.underlying t, len, cap with
  | some (.slice e), .int _ l, .int _ c => match tyBytes P e, zeros P e c.toNat with
    | some b, some z => if 0 ≤ l ∧ l ≤ c ∧ c ≤ 4294967296 ∧ b ≤ 65536 then
        some (.slice st.size 0 l.toNat c.toNat 0, st.push (.cells true z))
      else none
    | _, _ => none
  | _, _, _ => none

/-- Maps. -/
def findA (k : TypeId) (key : AV) : List (AV × AV × Nat) → Nat → Option (Option (Nat × AV))
  | [], _ => some none
  | e :: es, i => match eqA P eqDeep k key e.1 with
    | some true => some (some (i, e.2.1))
    | some false => findA k key es (i + 1)
    | none => none

/-- A key that may be one: whole numbers, bools, texts, and structs and arrays of these. -/
def keyOk : Nat → TypeId → AV → Bool
  | 0, _, _ => false
  | d + 1, t, v => match P.underlying t, v with
    | some (.int _), .int _ _ => true
    | some .bool, .bool _ => true
    | some .string, .str _ => true
    | some (.array n e), .agg cs => match tySize P e with
      | some s => (List.range n).all fun i => (partA P e cs (i * s)).any (keyOk d e)
      | none => false
    | some (.struct fs), .agg cs => fs.toList.all fun f => f.name == "_" || (partA P f.type cs f.offset).any (keyOk d f.type)
    | _, _ => false

def flatSame : AV → AV → Bool
  | .bool a, .bool b => a == b
  | .int j a, .int k b => j == k && a == b
  | .str a, .str b => a == b
  | _, _ => false
def sameA : AV → AV → Bool
  | .agg a, .agg b => a.length == b.length && (a.zip b).all fun (x, y) => flatSame x y
  | a, b => flatSame a b

def mapEs (m : AV) (st : St) : Option (List (AV × AV × Nat)) :=
  match m with
  | .nilmap => some []
  | .map id => match st.get id with
    | .map es _ => some es
    | _ => none
  | _ => none

def lookupA (t : TypeId) (m key : AV) (ok : Bool) (st : St) : Option AV :=
  match P.underlying t with
  | some (.map k e) => match mapEs m st with
    | some es => if keyOk P eqDeep k key then match findA P k key es 0 with
      | some (some (_, v)) => some (if ok then .tuple [v, .bool true] else v)
      | some none => ((P.info? e).bind (·.zero)).map fun z => if ok then .tuple [ofVal z, .bool false] else ofVal z
      | none => none
      else none
    | none => none
  | _ => none

def mapUpdateA (t : TypeId) (m key v : AV) (st : St) : Option St :=
  match P.underlying t, m with
  | some (.map k _), .map id => match st.get id with
    | .map es clock => if keyOk P eqDeep k key then match findA P k key es 0 with
      | some (some (i, _)) => match es[i]? with
        | some (old, _, b) => if sameA old key then some (st.set id (.map (es.set i (key, v, b)) clock)) else none
        | none => none
      | some none => some (st.set id (.map (es ++ [(key, v, clock)]) (clock + 1)))
      | none => none
      else none
    | _ => none
  | _, _ => none

def deleteA (t : TypeId) (m key : AV) (st : St) : Option St :=
  match P.underlying t, m with
  | some (.map k _), .nilmap => if keyOk P eqDeep k key then some st else none
  | some (.map k _), .map id => match st.get id with
    | .map es clock => if keyOk P eqDeep k key then match findA P k key es 0 with
      | some (some (i, _)) => some (st.set id (.map (es.eraseIdx i) clock))
      | some none => some st
      | none => none
      else none
    | _ => none
  | _, _ => none

def rangeA (t : TypeId) (x : AV) (st : St) : Option (AV × St) :=
  match P.underlying t, x with
  | some (.map _ _), .nilmap => some (.iter st.size, st.push (.iter none 0 [] 0))
  | some (.map _ _), .map id => match st.get id with
    | .map _ clock => some (.iter st.size, st.push (.iter (some id) clock [] clock))
    | _ => none
  | _, _ => none

def entryA (it : AV) (st : St) : Option AV :=
  match it with
  | .iter id => match st.get id with
    | .iter (some m) _ seen last => match seen.getLast?, st.get m with
      | some stamp, .map es clock => if clock = last then match es.find? (fun e => e.2.2 == stamp) with
        | some e => some (.tuple [e.1, e.2.1])
        | none => none
        else none
      | _, _ => none
    | _ => none
  | _ => none

/-- What 'next' may choose of: each way's answer and the store behind it. -/
def nextA (it : AV) (st : St) : Option (List (AV × St)) :=
  match it with
  | .iter id => match st.get id with
    | .iter none _ _ _ => some [(.tuple [.bool false], st)]
    | .iter (some m) since seen last => match st.get m with
      | .map es clock =>
        if !seen.isEmpty && !es.isEmpty && es.all (fun e => decide (e.2.2 ≥ last)) then none else
        let left := es.filter fun e => !seen.contains e.2.2
        let old := left.filter fun e => decide (e.2.2 < since)
        let new := left.filter fun e => decide (e.2.2 ≥ since)
        some ((if old.isEmpty then [(.tuple [.bool false], st)] else []) ++
          (old ++ new).map fun e => (.tuple [.bool true, e.1, e.2.1], st.set id (.iter (some m) since (seen ++ [e.2.2]) clock)))
      | _ => none
    | _ => none
  | _ => none

def lenA (t : TypeId) (x : AV) (st : St) : Option AV :=
  match P.underlying t, x with
  | some .string, .str s => some (.int .i64 s.size)
  | some (.array n _), _ => some (.int .i64 n)
  | some (.slice _), .slice _ _ n _ _ => some (.int .i64 n)
  | some (.slice _), .nilslice => some (.int .i64 0)
  | some (.slice _), .eslice _ _ => some (.int .i64 0)
  | some (.slice _), .zslice => some (.int .i64 0)
  | some (.map _ _), m => (mapEs m st).map fun es => .int .i64 es.length
  | _, _ => none

/-- What is appended. -/
def newOf (s : Nat) (x : AV) (st : St) : Option (Nat × List AV) :=
  match x with
  | .str b => if s = 1 then some (b.size, byteCells b.data.toList) else none
  | .slice _ _ n _ _ => (slCells s x st).map fun l => (n, l)
  | .nilslice => some (0, [])
  | .eslice _ _ => some (0, [])
  | .zslice => some (0, [])
  | _ => none

/-- append to a slice whose elements have s cells, of b bytes: m elements. -/
def appendTo (s b m : Nat) (new : List AV) (x : AV) (st : St) : Option (AV × St) :=
  match x with
  | .nilslice => if m = 0 then some (.nilslice, st) else some (.slice st.size 0 m m s, st.push (.cells true new))
  | .zslice => if m = 0 then some (.zslice, st) else some (.slice st.size 0 m m s, st.push (.cells true new))
  | .eslice id k => if m = 0 then some (.eslice id k, st) else
      match st.get id with
      | .cells true _ => if k = s then some (.slice st.size 0 m m s, (st.set id .dead).push (.cells true new)) else none
      | _ => none
  | .slice id off len cap k =>
    if m = 0 then some (.slice id off len cap k, st) else
    match st.get id with
    | .cells rw vs =>
      if off + len * s ≤ vs.length then
        if k = 0 then
          if len + m ≤ cap then
            if rw = true ∧ off + len * s + new.length ≤ vs.length then
              some (.slice id off (len + m) cap 0, st.set id (.cells true (splice vs (off + len * s) new)))
            else none
          else if len + m ≤ 4294967296 then
            some (.slice st.size 0 (len + m) (len + m) s, st.push (.cells true ((vs.drop off).take (len * s) ++ new)))
          else none
        else if rw = true ∧ len + m ≤ 4294967296 ∧ k = s then
          some (.slice st.size 0 (len + m) (len + m) s, (st.set id .dead).push (.cells true ((vs.drop off).take (len * s) ++ new)))
        else none
      else none
    | _ => none
  | _ => none

def appendA (t : TypeId) (u : TypeId) (x y : AV) (st : St) : Option (AV × St) :=
  match P.underlying t, P.underlying u with
  | some (.slice _), some (.int _) => none
  | some (.slice e), some _ => match tySize P e, tyBytes P e, zeros P e 0 with
    | some s, some b, some _ => match newOf s y st with
      | some (m, new) =>
        if new.all AV.one = true ∧ m ≤ 4294967296 ∧ b ≤ 4096 ∧ 0 < s ∧ new.length = m * s then appendTo s b m new x st else none
      | none => none
    | _, _, _ => none
  | _, _ => none

def copyA (t : TypeId) (x y : AV) (st : St) : Option (AV × St) :=
  match P.underlying t with
  | some (.slice e) => match tySize P e with
    | some s => match newOf s y st, x with
      | some _, .nilslice => some (.int .i64 0, st)
      | some _, .eslice _ _ => some (.int .i64 0, st)
      | some _, .zslice => some (.int .i64 0, st)
      | some (m, new), .slice id off len _ _ =>
        if Nat.min m len = 0 then some (.int .i64 0, st) else
        match st.get id with
        | .cells true vs =>
          if off + Nat.min m len * s ≤ vs.length ∧ (new.take (Nat.min m len * s)).all AV.one ∧ new.length = m * s then
            some (.int .i64 (Nat.min m len), st.set id (.cells true (splice vs off (new.take (Nat.min m len * s)))))
          else none
        | _ => none
      | _, _ => none
    | none => none
  | _ => none

def clearA (t : TypeId) (x : AV) (st : St) : Option St :=
  match P.underlying t, x with
  | some _, .nilmap => some st
  | some (.map _ _), .map id => match st.get id with
    | .map _ clock => some (st.set id (.map [] clock))
    | _ => none
  | _, _ => none

def foldMM (big : Bool) : AV → List AV → Option AV
  | x, [] => some x
  | .int k a, .int k' b :: r => if k = k' then foldMM big (.int k (if big then (if b > a then b else a) else (if b < a then b else a))) r else none
  | _, _ :: _ => none

def builtinA (b : Builtin) (ts : Array TypeId) (args : List AV) (st : St) : Option (AV × St) :=
  match b, args with
  | .len, [x] => match ts[0]? with | some t => (lenA P t x st).map (·, st) | none => none
  | .append, [x, y] => match ts[0]?, ts[1]? with | some t, some u => appendA P t u x y st | _, _ => none
  | .copy, [x, y] => match ts[0]? with | some t => copyA P t x y st | none => none
  | .delete, [m, k] => match ts[0]? with | some t => (deleteA P t m k st).map (.tuple [], ·) | none => none
  | .clear, [x] => match ts[0]? with | some t => (clearA P t x st).map (.tuple [], ·) | none => none
  | .max, x :: r => (foldMM true x r).map (·, st)
  | .min, x :: r => (foldMM false x r).map (·, st)
  | _, _ => none

def undefA : AV := .tuple []

/-- One operation that calls nothing: its answer, and the store behind it. -/
def primA (env : Env) (op : Op) (st : St) : Option (AV × St) :=
  match op with
  | .move x | .assign x => some (opd env x, st)
  | .pick c a b => match opd env c with
    | .bool true => some (opd env a, st)
    | .bool false => some (opd env b, st)
    | _ => none
  | .alloc t => match zeros P t 1 with
    | some z => some (newCells st z)
    | none => none
  | .box _ x => let v := opd env x; if v.cells.all AV.one then some (newCells st v.cells) else none
  | .build t ps => (buildA P t (ps.toList.map fun p => (p.1, opd env p.2))).map (·, st)
  | .buildSlice t n ps => buildSliceA P t n (ps.toList.map fun p => (p.1, opd env p.2)) st
  | .load t a => (ldT P t (opd env a) st).map (·, st)
  | .store t a x => (stT P t (opd env a) (opd env x) st).map (undefA, ·)
  | .nilCheck x => match opd env x with
    | .ptr id off => some (.ptr id off, st)
    | .func (.func f) a b => some (.func (.func f) a b, st)
    | _ => none
  | .binOp op t x y _ => (binA P op t (opd env x) (opd env y)).map (·, st)
  | .unOp op _ x => (unA op (opd env x)).map (·, st)
  | .convert s d x => convA P s d (opd env x) st
  | .makeFunc (.func f) a b => some (.func (.func f) (a.toList.map (opd env)) (b.toList.map (opd env)), st)
  | .makeMap t r => match r with
    | none => some (.map st.size, st.push (.map [] 0))
    | some x => match P.underlying t, opd env x with
      | some (.map _ _), .int _ _ => some (.map st.size, st.push (.map [] 0))
      | _, _ => none
  | .makeSlice t l c => makeSliceA P t (opd env l) (opd env c) st
  | .slice t x l h m => (sliceA P t (opd env x) (l.map (opd env)) (h.map (opd env)) (m.map (opd env))).map (·, st)
  | .fieldAddr t x f => (fieldAddrA P t (opd env x) f).map (·, st)
  | .field t x f => (fieldA P t (opd env x) f).map (·, st)
  | .indexAddr t x i => (indexAddrA P t (opd env x) (opd env i)).map (·, st)
  | .index t x i => (indexA P t (opd env x) (opd env i)).map (·, st)
  | .lookup t m k ok => (lookupA P t (opd env m) (opd env k) ok st).map (·, st)
  | .mapUpdate t m k x | .insert t m k x => (mapUpdateA P t (opd env m) (opd env k) (opd env x) st).map (undefA, ·)
  | .range t x => rangeA P t (opd env x) st
  | .entry it => (entryA (opd env it) st).map (·, st)
  | .extract t i => match opd env t with
    | .tuple vs => match vs[i]? with | some v => some (v, st) | none => none
    | _ => none
  | .call { callee := .builtin b, args, argTypes } => builtinA P b argTypes (args.toList.map (opd env)) st
  | _ => none
end
end Go.Ab
