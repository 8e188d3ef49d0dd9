/- The ghost machine: a deterministic interpreter over a loaded program's own code, on pure values. Definitions alone; nothing is claimed here. -/
import Derived.WalkKit
namespace Go.Gm

/-- A pure value. `sl`: an immutable slice (full: its capacity is its length), elements of sz cells; `acc`: the first n elements of an append-only block; `accp`: where these begin; `ref`: elements o .. o+n of a mutable block; `iptr`: an address within immutable cells. -/
inductive PV where
  | bool (b : Bool)
  | int (k : IntKind) (n : Int)
  | str (s : ByteArray)
  | nilp
  | ptr (b o : Nat)
  | iptr (cs : List PV) (o : Nat)
  | nils
  | sl (full : Bool) (sz : Nat) (es : List (List PV))
  | acc (b n : Nat)
  | accp (b n : Nat)
  | ref (b sz o n : Nat)
  | nilm
  | map (b : Nat)
  | fn (f : Fn) (first cap : List PV)
  | nilfn
  | iface (t : TypeId) (v : PV)
  | nili
  | agg (cs : List PV)
  | tup (vs : List PV)
  | dead
  deriving Inhabited

/-- The type of a block, and whether the block holds no more than what is known. -/
structure VT where
  ty : TypeId
  ex : Bool
  deriving Inhabited, DecidableEq

inductive Blk where
  | var (t : VT) (cs : List PV)
  | map (es : List (PV × PV))
  | acc (t : Option TypeId) (sz : Nat) (es : List (List PV))
  | gone
  deriving Inhabited

abbrev Mem := List Blk

namespace PV
def cells : PV → List PV
  | .agg cs => cs
  | v => [v]
/-- The value of one cell, and known to be one. -/
def one : PV → Bool
  | .agg _ | .tup _ | .dead => false
  | _ => true
end PV

/-- Registers. -/
def get : List PV → Nat → PV
  | [], _ => .dead
  | v :: _, 0 => v
  | _ :: r, n + 1 => get r n
def put : List PV → Nat → PV → List PV
  | [], _, _ => []
  | _ :: r, 0, v => v :: r
  | x :: r, n + 1, v => x :: put r n v
def putD (r : List PV) : Option Nat → PV → List PV
  | some d, v => put r d v
  | none, _ => r

/-- A constant of the program. -/
def ofV1 : Value → PV
  | .bool b => .bool b
  | .int k n => .int k n
  | .string s => .str s
  | .pointer none => .nilp
  | .slice none 0 0 => .nils
  | .map none => .nilm
  | .nilFunc => .nilfn
  | .nilIface => .nili
  | _ => .dead
def ofV : Value → PV
  | .agg cs => .agg (cs.toList.map ofV1)
  | v => ofV1 v

/-- What is known of a type. -/
inductive TK where
  | int (k : IntKind) | bool | string | pointer (e : TypeId) | slice (e : TypeId) | array (n : Nat) (e : TypeId) | map (k e : TypeId)
  | struct (fs : List (Nat × Nat × TypeId)) | iface | other
  deriving Inhabited
structure TI where
  kind : TK
  size : Nat
  bytes : Nat
  agg : Bool
  zero : List PV
  deriving Inhabited
def fieldsP (P : Program) : List Field → Option (List (Nat × Nat × TypeId))
  | [] => some []
  | f :: r => match P.info? f.type, fieldsP P r with
    | some j, some l => some ((f.offset, j.size, f.type) :: l)
    | _, _ => none
def tk (P : Program) : TypeDesc → TK
  | .int k => .int k
  | .bool => .bool
  | .string => .string
  | .pointer e => .pointer e
  | .slice e => .slice e
  | .array n e => .array n e
  | .map k e => .map k e
  | .struct fs => match fieldsP P fs.toList with
    | some l => .struct l
    | none => .other
  | .interface _ => .iface
  | _ => .other
def aggB : TypeDesc → Bool
  | .struct _ | .array _ _ => true
  | _ => false
def ti (P : Program) (t : TypeId) : Option TI :=
  match P.info? t, P.underlying t with
  | some i, some d => match i.zero with
    | some z => some ⟨tk P d, i.size, i.bytes, aggB d, z.cells.toList.map ofV1⟩
    | none => none
  | _, _ => none

def kd (P : Program) (t : TypeId) : Option TK := (ti P t).map (·.kind)

/-- What the prover chooses: functions whose results stay what they are (not frozen); operations that make mutable memory; nil constants that begin an append-only block; in a drawn region: operations that must give the same at other moments, and those moments; functions whose drawn regions are not to be run; conversions that look at memory; literals that never turn; types whose equality looks at memory. -/
structure Ann where
  keep : FuncId → Bool
  mutb : FuncId → Nat → Bool
  acc0 : FuncId → Nat → Option (TypeId × Nat)
  flo : FuncId → Nat → List (Nat × List Nat)
  skip : FuncId → Bool
  mem : TypeId → TypeId → Bool
  lit : FuncId → Nat → Bool
  peq : TypeId → Bool
  deriving Inhabited

def litD (A : Ann) (f : FuncId) (dst : Option Nat) : Bool :=
  match dst with
  | some d => A.lit f d && !A.mutb f d
  | none => false
def mutD (A : Ann) (f : FuncId) (dst : Option Nat) : Bool :=
  match dst with
  | some d => A.mutb f d
  | none => false

inductive Out where
  | val (v : PV) (m : Mem)
  | enter (f : FuncId) (args : List PV)
  | panic (v : PV)
  deriving Inhabited

/-! ### References to ghost blocks -/
def refs1 : PV → List Nat
  | .ptr b _ | .acc b _ | .accp b _ | .ref b _ _ _ | .map b => [b]
  | _ => []
mutual
def refs : PV → List Nat
  | .ptr b _ | .acc b _ | .accp b _ | .ref b _ _ _ | .map b => [b]
  | .fn _ a c => refsL a ++ refsL c
  | .iface _ v => refs v
  | .agg cs | .tup cs => refsL cs
  | _ => []
def refsL : List PV → List Nat
  | [] => []
  | v :: r => refs v ++ refsL r
end
/-- The value's cells are each of one cell, and what it refers to is there. -/
def okc (m : Mem) (v : PV) : Bool := v.cells.all PV.one && (refs v).all fun b => match m[b]? with
  | some (.var _ _) | some (.acc _ _ _) | some (.map _) => true
  | _ => false

def splice (cs : List PV) (off : Nat) (vs : List PV) : List PV := cs.take off ++ (vs ++ cs.drop (off + vs.length))

def fillP (m : Mem) (place : Nat → Option (Nat × Nat)) : List PV → List (Nat × PV) → Option (List PV)
  | cs, [] => some cs
  | cs, (i, v) :: rest =>
    match place i with
    | none => none
    | some (off, size) =>
      if v.cells.length = size ∧ off + size ≤ cs.length ∧ okc m v then fillP m place (splice cs off v.cells) rest else none

def chunks (sz : Nat) (cs : List PV) : Nat → List (List PV)
  | 0 => []
  | n + 1 => cs.take sz :: chunks sz (cs.drop sz) n

/-- A cell's value without references to ghost blocks. -/
def pur1 (m : Mem) : PV → Option PV
  | .acc b n => match m[b]? with
    | some (.acc _ sz es) => some (.sl false sz (es.take n))
    | _ => none
  | .ptr _ _ | .accp _ _ | .ref _ _ _ _ | .map _ | .fn _ (_ :: _) _ | .fn _ _ (_ :: _) | .agg _ | .tup _ | .dead => none
  | .iface t v => match v with
    | .bool _ | .int _ _ | .str _ | .sl _ _ _ => some (.iface t v)
    | _ => none
  | v => some v
def pur (m : Mem) (cs : List PV) : Option (List PV) := cs.mapM (pur1 m)

/-- The elements that a slice value holds. -/
def elems (m : Mem) : PV → Option (List (List PV))
  | .nils => some []
  | .sl _ _ es => some es
  | .acc b n => match m[b]? with
    | some (.acc _ _ es) => some (es.take n)
    | _ => none
  | .ref b sz o n => match m[b]? with
    | some (.var _ cs) => if (o + n) * sz ≤ cs.length then some (chunks sz (cs.drop (o * sz)) n) else none
    | _ => none
  | .str s => some (s.data.toList.map fun b => [.int .u8 b.toNat])
  | _ => none
def szOk (m : Mem) (sz : Nat) : PV → Bool
  | .nils => true
  | .sl _ s _ => s == sz
  | .ref _ s _ _ => s == sz
  | .acc b _ => match m[b]? with
    | some (.acc _ s _) => s == sz
    | _ => false
  | .str _ => sz == 1
  | _ => false
def lenP : PV → Option Nat
  | .nils => some 0
  | .sl _ _ es => some es.length
  | .acc _ n => some n
  | .ref _ _ _ n => some n
  | .str s => some s.size
  | _ => none

/-- Cells of a type, read from an offset on. -/
def rd (i : TI) (cs : List PV) (o : Nat) : Option PV :=
  if i.agg then (if o + i.size ≤ cs.length then some (.agg ((cs.drop o).take i.size)) else none) else cs[o]?

def intBin (op : BinOp) (k : IntKind) (x y : Int) : Option PV :=
  match op with
  | .add => some (.int k (k.wrap (x + y)))
  | .sub => some (.int k (k.wrap (x - y)))
  | .mul => some (.int k (k.wrap (x * y)))
  | .quo => if y = 0 then none else some (.int k (k.wrap (x.tdiv y)))
  | .rem => if y = 0 then none else some (.int k (x.tmod y))
  | .and => some (.int k (k.wrap (BitVec.ofInt k.bits x &&& BitVec.ofInt k.bits y).toNat))
  | .or => some (.int k (k.wrap (BitVec.ofInt k.bits x ||| BitVec.ofInt k.bits y).toNat))
  | .xor => some (.int k (k.wrap (BitVec.ofInt k.bits x ^^^ BitVec.ofInt k.bits y).toNat))
  | .andNot => some (.int k (k.wrap (BitVec.ofInt k.bits x &&& ~~~ BitVec.ofInt k.bits y).toNat))
  | .eql => some (.bool (x == y))
  | .neq => some (.bool (x != y))
  | .lss => some (.bool (x < y))
  | .leq => some (.bool (x ≤ y))
  | .gtr => some (.bool (x > y))
  | .geq => some (.bool (x ≥ y))
  | _ => none
/-- Equality of plain values of a type. -/
def eqFs (eq : TypeId → PV → PV → Option Bool) (P : Program) (xs ys : List PV) : List Field → Option Bool
  | [] => some true
  | f :: r =>
    if f.name == "_" then none else match ti P f.type with
    | none => none
    | some i => match rd i xs f.offset, rd i ys f.offset with
      | some x, some y => match eq f.type x y, eqFs eq P xs ys r with
        | some a, some b => some (a && b)
        | _, _ => none
      | _, _ => none
def eqT (P : Program) : Nat → TypeId → PV → PV → Option Bool
  | 0, _, _, _ => none
  | d + 1, t, x, y => match P.underlying t with
    | some .bool => match x, y with
      | .bool a, .bool b => some (a == b)
      | _, _ => none
    | some (.int _) => match x, y with
      | .int k a, .int k' b => if k = k' then some (a == b) else none
      | _, _ => none
    | some .string => match x, y with
      | .str a, .str b => some (a == b)
      | _, _ => none
    | some (.slice _) => match x, y with
      | .nils, .nils => some true
      | .nils, .sl _ _ (_ :: _) | .nils, .acc _ (_ + 1) => some false
      | .sl _ _ (_ :: _), .nils | .acc _ (_ + 1), .nils => some false
      | _, _ => none
    | some (.interface _) => match x, y with
      | .nili, .iface _ _ | .iface _ _, .nili => some false
      | _, _ => none
    | some (.struct fs) => match x, y with
      | .agg xs, .agg ys => if P.stoodInHeld t then none else eqFs (eqT P d) P xs ys fs.toList
      | _, _ => none
    | _ => none
def eqShape : PV → PV → Bool
  | .agg _, .agg _ | .bool _, .bool _ | .nils, .nils | .nils, .sl _ _ _ | .nils, .acc _ _ | .sl _ _ _, .nils | .acc _ _, .nils | .nili, .iface _ _ | .iface _ _, .nili => true
  | _, _ => false
def isAggP : PV → Bool
  | .agg _ => true
  | _ => false
def eqV (P : Program) (t : TypeId) (x y : PV) : Option Bool :=
  if eqShape x y && !(isAggP x && P.eqGuardType P.depth t) then eqT P 30 t x y else none
def bin (P : Program) (op : BinOp) (t : TypeId) (x y : PV) : Option PV :=
  match x, y with
  | .int k a, .int k' b =>
    match op with
    | .shl => if b < 0 then none else some (.int k (k.wrap (a * 2 ^ (min b.toNat k.bits))))
    | .shr => if b < 0 then none else some (.int k (a.fdiv (2 ^ (min b.toNat k.bits))))
    | _ => if k = k' then intBin op k a b else none
  | .str a, .str b =>
    match op with
    | .add => if a.size + b.size ≤ 9223372036854775807 then some (.str (a ++ b)) else none
    | .eql => some (.bool (a.toList == b.toList))
    | .neq => some (.bool !(a.toList == b.toList))
    | _ => none
  | x, y =>
    match op with
    | .eql => (eqV P t x y).map .bool
    | .neq => (eqV P t x y).map fun b => .bool !b
    | _ => none
/-- Equality of pointers and of functions. -/
def eqPtr0 (P : Program) (t : TypeId) (m : Mem) (x y : PV) : Option Bool :=
  match P.underlying t with
  | some (.pointer e) => match x, y with
    | .nilp, .nilp => some true
    | .nilp, .ptr b _ | .ptr b _, .nilp => match m[b]? with
      | some (.var _ _) => some false
      | _ => none
    | .ptr b o, .ptr c q => match m[b]?, ti P e with
      | some (.var _ _), some i => if b = c ∧ 0 < i.size then some (o == q) else none
      | _, _ => none
    | _, _ => none
  | some (.func _ _ _) => match x, y with
    | .nilfn, .nilfn => some true
    | .nilfn, .fn _ _ _ | .fn _ _ _, .nilfn => some false
    | _, _ => none
  | _ => none
def eqPtr (P : Program) (op : BinOp) (t : TypeId) (m : Mem) (x y : PV) : Option PV :=
  match op with
  | .eql => (eqPtr0 P t m x y).map .bool
  | .neq => (eqPtr0 P t m x y).map fun b => .bool !b
  | _ => none
def un (op : UnOp) (x : PV) : Option PV :=
  match op, x with
  | .neg, .int k n => some (.int k (k.wrap (0 - n)))
  | .xor, .int k n => intBin .xor k (if k.signed then -1 else k.max) n
  | .not, .bool b => some (.bool !b)
  | _, _ => none

/-- The operands' values. -/
def geval (G : Nat → Option (List PV)) (r : List PV) : Operand → PV
  | .tmp t => get r t
  | .const v => ofV v
  | .func f => .fn (.func f) [] []
  | .global g => match G g with
    | some cs => .iptr cs 0
    | none => .dead

def asNat (v : PV) (most : Nat) : Option Nat :=
  match v with
  | .int _ i => if 0 ≤ i ∧ i ≤ (most : Int) then some i.toNat else none
  | _ => none

/-- A slice expression without a third index. -/
def sliceP (P : Program) (t : TypeId) (m : Mem) (x : PV) (lo hi : Option PV) : Option PV :=
  match lenP x with
  | none => none
  | some n =>
    match (match hi with | none => some n | some v => asNat v n) with
    | none => none
    | some h =>
      match (match lo with | none => some 0 | some v => asNat v h) with
      | none => none
      | some l =>
        match x with
        | .str s => match kd P t with
          | some .string => some (.str (s.extract l h))
          | _ => none
        | _ => match kd P t with
          | some (.slice e) => match ti P e with
            | none => none
            | some i =>
              if szOk m i.size x then
                match x with
                | .nils => some .nils
                | .sl _ _ es => some (.sl false i.size ((es.drop l).take (h - l)))
                | .acc b _ => match m[b]? with
                  | some (.acc _ sz es) => if sz = i.size then some (.sl false sz ((es.drop l).take (h - l))) else none
                  | _ => none
                | .ref b sz o _ => match m[b]? with
                  | some (.var _ _) => if l = 0 ∨ l < h then some (.ref b sz (o + l) (h - l)) else none
                  | _ => none
                | _ => none
              else none
          | _ => none

def maxB : Nat := 140737488355328

/-- append: whatever is appended to has no spare room that another slice could see. -/
def appendP (mu : Bool) (e : TypeId) (i : TI) (m : Mem) (s x : PV) : Option Out :=
  match elems m x with
  | none => none
  | some xs =>
    if szOk m i.size x && decide (0 < i.bytes) && decide (0 < i.size) && decide (i.zero.length = i.size) then
      match s with
      | .nils => match xs.mapM (pur m) with
        | some ys => if ys.isEmpty then some (.val .nils m) else if mu then none else if ys.length * i.bytes ≤ maxB then some (.val (.acc m.length ys.length) (m ++ [.acc (some e) i.size ys])) else none
        | none => none
      | .sl true sz es => match xs.mapM (pur m) with
        | some ys => if sz = i.size ∧ (es.length + ys.length) * i.bytes ≤ maxB then some (.val (.acc m.length (es.length + ys.length)) (m ++ [.acc none sz (es ++ ys)])) else none
        | none => none
      | .acc b n => match m[b]?, xs.mapM (pur m) with
        | some (.acc t sz es), some ys =>
          if (t = none ∨ t = some e) ∧ sz = i.size ∧ n = es.length ∧ (n + ys.length) * i.bytes ≤ maxB then some (.val (.acc b (n + ys.length)) (m.set b (.acc t sz (es ++ ys)))) else none
        | _, _ => none
      | _ => none
    else none

/-- The elements as bytes. -/
def bytesP : List (List PV) → Option (List UInt8)
  | [] => some []
  | [.int .u8 n] :: r => (bytesP r).map (UInt8.ofNat n.toNat :: ·)
  | _ => none
/-! ### Maps -/
def keyOK : TK → PV → Bool
  | .string, .str _ | .int _, .int _ _ | .bool, .bool _ => true
  | _, _ => false
def keyEq : PV → PV → Option Bool
  | .str a, .str b => some (a == b)
  | .int k a, .int k' b => if k = k' then some (a == b) else none
  | .bool a, .bool b => some (a == b)
  | _, _ => none
def findP (k : PV) : List (PV × PV) → Nat → Option (Option (Nat × PV))
  | [], _ => some none
  | e :: es, i => match keyEq k e.1 with
    | some true => some (some (i, e.2))
    | some false => findP k es (i + 1)
    | none => none
/-- The entries of a map. -/
def entP (m : Mem) : PV → Option (List (PV × PV))
  | .nilm => some []
  | .map b => match m[b]? with
    | some (.map es) => some es
    | _ => none
  | _ => none
def lookP (P : Program) (t : TypeId) (m : Mem) (x k : PV) (ok : Bool) : Option PV :=
  match kd P t with
  | some (.map kt e) => match kd P kt, (P.info? e).bind (·.zero), entP m x with
    | some kk, some z, some es => if keyOK kk k then match findP k es 0 with
        | some (some (_, v)) => some (if ok then .tup [v, .bool true] else v)
        | some none => some (if ok then .tup [ofV z, .bool false] else ofV z)
        | none => none
      else none
    | _, _, _ => none
  | _ => none
def setP (P : Program) (t : TypeId) (m : Mem) (x k v : PV) : Option Mem :=
  match kd P t, x with
  | some (.map kt _), .map b => match kd P kt, m[b]? with
    | some kk, some (.map es) => if keyOK kk k then match findP k es 0 with
        | some (some (i, _)) => some (m.set b (.map (es.set i (k, v))))
        | some none => some (m.set b (.map (es ++ [(k, v)])))
        | none => none
      else none
    | _, _ => none
  | _, _ => none
def delP (P : Program) (t : TypeId) (m : Mem) (x k : PV) : Option Mem :=
  match kd P t, x with
  | some (.map kt _), .map b => match kd P kt, m[b]? with
    | some kk, some (.map es) => if keyOK kk k then match findP k es 0 with
        | some (some (i, _)) => some (m.set b (.map (es.eraseIdx i)))
        | some none => some m
        | none => none
      else none
    | _, _ => none
  | _, _ => none

def builtinP (P : Program) (A : Ann) (f : FuncId) (dst : Option Tmp) (b : Builtin) (ts : Array TypeId) (args : List PV) (m : Mem) : Option Out :=
  match b, args with
  | .len, [x] => match ts[0]? with
    | none => none
    | some t => match kd P t with
      | some .string => match x with
        | .str s => some (.val (.int .i64 s.size) m)
        | _ => none
      | some (.slice _) => if okc m x then match x with
        | .str _ => none
        | _ => match lenP x with
          | some n => some (.val (.int .i64 (n : Int)) m)
          | none => none
        else none
      | some (.array n _) => some (.val (.int .i64 n) m)
      | some (.map _ _) => match entP m x with
        | some es => some (.val (.int .i64 es.length) m)
        | none => none
      | _ => none
  | .delete, [x, k] => match ts[0]? with
    | some t => (delP P t m x k).map fun m' => .val (.tup []) m'
    | none => none
  | .unsafeSliceData, [x] => match x with
    | .nils => some (.val .nilp m)
    | .acc b n => if n = 0 then none else some (.val (.accp b n) m)
    | _ => none
  | .unsafeString, [x, .int _ k] => match ts[0]?.bind P.underlying with
    | some (.pointer u) => match x with
      | .nilp => if k = 0 then some (.val (.str ⟨#[]⟩) m) else none
      | .accp b n => if k ≠ (n : Int) ∨ maxB < n then none else match m[b]? with
        | some (.acc t 1 es) => if n ≠ es.length ∨ n = 0 then none else match bytesP es with
          | some l => match t with
            | some e => if liesAt P P.depth e (es.length / P.cellsOf e) 0 u n = true then some (.val (.str ⟨l.toArray⟩) m) else none
            | none => none
          | none => none
        | _ => none
      | _ => none
    | _ => none
  | .append, [s, x] => match ts[0]?, ts[1]? with
    | some t, some u => match kd P t, kd P u with
      | some (.slice e), some (.slice _) | some (.slice e), some .string => match ti P e with
        | some i => appendP (mutD A f dst) e i m s x
        | none => none
      | _, _ => none
    | _, _ => none
  | .min, [.int k x, .int k' y] => if k = k' then some (.val (.int k (if y < x then y else x)) m) else none
  | .max, [.int k x, .int k' y] => if k = k' then some (.val (.int k (if y > x then y else x)) m) else none
  | _, _ => none

/-- A method of a value behind an interface: its function, and what that is handed. -/
def methP (P : Program) (t : TypeId) (v : PV) (name : String) : Option (FuncId × PV) :=
  match P.info? t with
  | none => none
  | some i => match i.methods.find? (·.name == name) with
    | none => none
    | some mt => if mt.path.isEmpty then
        match mt.func, P.underlying t with
        | some (f, true), some (.pointer _) => some (f, v)
        | some (_, false), some (.pointer _) => none
        | some (f, false), some _ => some (f, v)
        | _, _ => none
      else none

def isStrP : PV → Bool
  | .str _ => true
  | _ => false
/-- Conversions that look at memory. -/
def convP (P : Program) (s d : TypeId) (x : PV) (m : Mem) : Option PV :=
  match P.underlying s, P.underlying d with
  | some (.pointer e), some .unsafePointer => match x, ti P e with
    | .ptr b o, some i => match m[b]? with
      | some (.var _ cs) => if 0 < i.size ∧ o < cs.length then some (.ptr b o) else none
      | _ => none
    | _, _ => none
  | some .unsafePointer, some (.pointer u) => match x, ti P u with
    | .ptr b o, some i => match m[b]? with
      | some (.var t cs) => if 0 < i.size ∧ liesAt P P.depth t.ty (cs.length / P.cellsOf t.ty) o u 1 = true then some (.ptr b o) else none
      | _ => none
    | _, _ => none
  | some (.slice e), some .string => match P.underlying e with
    | some (.int .u8) => if szOk m 1 x = true ∧ isStrP x = false then match (elems m x).bind bytesP with
      | some l => some (.str ⟨l.toArray⟩)
      | none => none
      else none
    | _ => none
  | _, _ => none
/-- A slice of an array that is a variable of its own. -/
def sliceArr (P : Program) (t : TypeId) (m : Mem) (b : Nat) (lo hi : Option PV) : Option PV :=
  match kd P t with
  | some (.array n e) => match ti P e, m[b]? with
    | some i, some (.var ⟨_, true⟩ cs) =>
      match (match hi with | none => some n | some v => asNat v n) with
      | none => none
      | some h => match (match lo with | none => some 0 | some v => asNat v h) with
        | none => none
        | some l => if n * i.size = cs.length ∧ (l = 0 ∨ l < h) then some (.ref b i.size l (h - l)) else none
    | _, _ => none
  | _ => none
def sliceQ (P : Program) (t : TypeId) (m : Mem) (x : PV) (lo hi : Option PV) : Option PV :=
  match x with
  | .ptr b 0 => sliceArr P t m b lo hi
  | x => sliceP P t m x lo hi

/-- Functions without a body that are told here. -/
inductive ExtK where
  | same | indexByte
def extP (P : Program) (h : FuncId) : Option ExtK :=
  match P.funcs[h]? with
  | some fn => if fn.body.isNone ∧ fn.origin = "" then
      if fn.name = "internal/abi.NoEscape" then some .same
      else if fn.name = "internal/bytealg.IndexByteString" then some .indexByte
      else none
    else none
  | none => none
def extV (k : ExtK) (args : List PV) : Option PV :=
  match k, args with
  | .same, [x] => some x
  | .indexByte, [.str s, .int .u8 n] => match (List.range s.size).find? fun i => s[i]! == n.toNat.toUInt8 with
    | some i => some (.int .i64 i)
    | none => some (.int .i64 (-1))
  | _, _ => none

/-- One operation. -/
def gop (P : Program) (A : Ann) (f : FuncId) (ρ : Operand → PV) (o : Oper) (m : Mem) : Option Out :=
  match o.op with
  | .move x => some (.val (ρ x) m)
  | .assign x =>
    match ρ x, (match o.dst with | some d => A.acc0 f d | none => none) with
    | .nils, some (e, sz) => some (.val (.acc m.length 0) (m ++ [.acc (some e) sz []]))
    | v, _ => some (.val v m)
  | .pick c a b => match ρ c with
    | .bool t => some (.val (if t then ρ a else ρ b) m)
    | _ => none
  | .alloc e => match ti P e with
    | some i => if i.zero.length = i.size then some (.val (.ptr m.length 0) (m ++ [.var ⟨e, true⟩ i.zero])) else none
    | none => none
  | .box e x => if okc m (ρ x) then some (.val (.ptr m.length 0) (m ++ [.var ⟨e, true⟩ (ρ x).cells])) else none
  | .build t parts => match ti P t with
    | some ⟨.struct fs, _, _, _, z⟩ =>
      (fillP m (fun i => (fs[i]?).map fun x => (x.1, x.2.1)) z (parts.toList.map fun p => (p.1, ρ p.2))).map fun cs => .val (.agg cs) m
    | some ⟨.array _ e, _, _, _, z⟩ => match ti P e with
      | some j => (fillP m (fun i => some (i * j.size, j.size)) z (parts.toList.map fun p => (p.1, ρ p.2))).map fun cs => .val (.agg cs) m
      | none => none
    | _ => none
  | .buildSlice t len parts => match kd P t with
    | some (.slice e) => match ti P e with
      | some j =>
        if len * j.size ≤ 16777216 ∧ j.zero.length = j.size then
          match fillP m (fun i => some (i * j.size, j.size)) (List.replicate len j.zero).flatten (parts.toList.map fun p => (p.1, ρ p.2)) with
          | some cs =>
            if mutD A f o.dst then some (.val (.ref m.length j.size 0 len) (m ++ [.var ⟨e, true⟩ cs]))
            else match pur m cs with
              | some ds => some (.val (.sl true j.size (chunks j.size ds len)) m)
              | none => if litD A f o.dst then none else some (.val (.ref m.length j.size 0 len) (m ++ [.var ⟨e, true⟩ cs]))
          | none => none
        else none
      | none => none
    | _ => none
  | .load t a => match ti P t with
    | none => none
    | some i => match ρ a with
      | .ptr b o => match m[b]? with
        | some (.var _ cs) => (rd i cs o).map fun v => .val v m
        | _ => none
      | .iptr cs o => (rd i cs o).map fun v => .val v m
      | _ => none
  | .store t a x => match ti P t, ρ a with
    | some i, .ptr b o => match m[b]? with
      | some (.var u cs) =>
        if (ρ x).cells.length = i.size ∧ o + i.size ≤ cs.length ∧ okc m (ρ x) then some (.val .dead (m.set b (.var u (splice cs o (ρ x).cells)))) else none
      | _ => none
    | _, _ => none
  | .nilCheck x => match ρ x with
    | .ptr b o => match m[b]? with
      | some (.var _ _) => some (.val (.ptr b o) m)
      | _ => none
    | .iptr cs o => some (.val (.iptr cs o) m)
    | .iface t v => some (.val (.iface t v) m)
    | .fn (.func g) a c => some (.val (.fn (.func g) a c) m)
    | _ => none
  | .binOp op t x y _ => (if A.peq t then eqPtr P op t m (ρ x) (ρ y) else bin P op t (ρ x) (ρ y)).map fun v => .val v m
  | .unOp op _ x => (un op (ρ x)).map fun v => .val v m
  | .convert s d x => if A.mem s d then (convP P s d (ρ x) m).map fun v => .val v m else match kd P d, ρ x with
    | some (.int k), .int _ n => match kd P s with
      | some _ => some (.val (.int k (k.wrap n)) m)
      | none => none
    | _, _ => none
  | .makeInterface t x => match kd P t with
    | some .iface => none
    | some _ => some (.val (.iface t (ρ x)) m)
    | none => none
  | .makeFunc fn first cap => some (.val (.fn fn (first.toList.map ρ) (cap.toList.map ρ)) m)
  | .makeSlice t l c => match kd P t with
    | some (.slice e) => match ti P e, ρ l, ρ c with
      | some j, .int _ a, .int _ b =>
        if a = b ∧ 0 ≤ a ∧ a * j.bytes ≤ 140737488355328 ∧ a ≤ 9223372036854775807 ∧ j.zero.length = j.size then
          some (.val (.ref m.length j.size 0 a.toNat) (m ++ [.var ⟨e, true⟩ (List.replicate a.toNat j.zero).flatten]))
        else none
      | _, _, _ => none
    | _ => none
  | .slice t x lo hi none => (sliceQ P t m (ρ x) (lo.map ρ) (hi.map ρ)).map fun v => .val v m
  | .fieldAddr s x k => match ti P s with
    | some ⟨.struct fs, _, _, _, _⟩ => match fs[k]? with
      | some (off, sz, _) => if sz = 0 then none else match ρ x with
          | .ptr b o => match m[b]? with
            | some (.var _ _) => some (.val (.ptr b (o + off)) m)
            | _ => none
          | .iptr cs o => some (.val (.iptr cs (o + off)) m)
          | _ => none
      | none => none
    | _ => none
  | .field s x k => match ti P s with
    | some ⟨.struct fs, _, _, _, _⟩ => match fs[k]? with
      | some (off, _, u) => match ti P u, ρ x with
        | some j, .agg cs => (rd j cs off).map fun v => .val v m
        | _, _ => none
      | none => none
    | _ => none
  | .indexAddr t x ix => match ρ ix with
    | .int _ i => if i < 0 then none else match kd P t with
      | some (.slice e) => match ti P e with
        | none => none
        | some j => match ρ x with
          | .sl _ sz es => if sz = j.size ∧ i < (es.length : Int) then some (.val (.iptr (es.getD i.toNat []) 0) m) else none
          | .acc b n => match m[b]? with
            | some (.acc _ sz es) => if sz = j.size ∧ i < (n : Int) then some (.val (.iptr (es.getD i.toNat []) 0) m) else none
            | _ => none
          | .ref b sz o n => match m[b]? with
            | some (.var _ _) => if sz = j.size ∧ i < (n : Int) then some (.val (.ptr b ((o + i.toNat) * sz)) m) else none
            | _ => none
          | _ => none
      | some (.array n e) => match ti P e with
        | none => none
        | some j => if i < (n : Int) then match ρ x with
          | .ptr b o => match m[b]? with
            | some (.var _ _) => some (.val (.ptr b (o + i.toNat * j.size)) m)
            | _ => none
          | .iptr cs o => some (.val (.iptr cs (o + i.toNat * j.size)) m)
          | _ => none
          else none
      | _ => none
    | _ => none
  | .index t x ix => match ρ ix with
    | .int _ i => if i < 0 then none else match kd P t, ρ x with
      | some .string, .str s => match s[i.toNat]? with
        | some b => some (.val (.int .u8 b.toNat) m)
        | none => none
      | some (.array n e), .agg cs => match ti P e with
        | some j => if i < (n : Int) then (rd j cs (i.toNat * j.size)).map fun v => .val v m else none
        | none => none
      | _, _ => none
    | _ => none
  | .extract x k => match ρ x with
    | .tup vs => match vs[k]? with
      | some v => some (.val v m)
      | none => none
    | _ => none
  | .call c => match c.callee with
    | .value g => match ρ g with
      | .fn (.func h) first cap => match extP P h with
        | some k => (extV k (first ++ c.args.toList.map ρ ++ cap)).map fun v => .val v m
        | none => some (.enter h (first ++ c.args.toList.map ρ ++ cap))
      | _ => none
    | .invoke recv name => match ρ recv with
      | .iface t v => (methP P t v name).map fun x => .enter x.1 (x.2 :: c.args.toList.map ρ)
      | _ => none
    | .builtin b => builtinP P A f o.dst b c.argTypes (c.args.toList.map ρ) m
  | .makeMap t none => match kd P t with
    | some (.map _ _) => some (.val (.map m.length) (m ++ [.map []]))
    | _ => none
  | .lookup t x k ok => (lookP P t m (ρ x) (ρ k) ok).map fun v => .val v m
  | .mapUpdate t x k v | .insert t x k v => (setP P t m (ρ x) (ρ k) (ρ v)).map fun m' => .val .dead m'
  | .panic x => match ρ x with
    | .iface t v => some (.panic (.iface t v))
    | _ => none
  | .typeAssert x _ t ok => match kd P t, (P.info? t).bind (·.zero) with
    | some .iface, _ => none
    | some _, some z => match ρ x with
      | .iface u v => if u = t then some (.val (if ok then .tup [v, .bool true] else v) m) else if ok then some (.val (.tup [ofV z, .bool false]) m) else none
      | .nili => if ok then some (.val (.tup [ofV z, .bool false]) m) else none
      | _ => none
    | _, _ => none
  | _ => none

/-! ### References, and a call's own part of memory -/
def brefs : Blk → List Nat
  | .var _ cs => refsL cs
  | .map es => es.flatMap fun e => refs e.1 ++ refs e.2
  | _ => []
mutual
def ren (g : Nat → Nat) : PV → PV
  | .ptr b o => .ptr (g b) o
  | .acc b n => .acc (g b) n
  | .accp b n => .accp (g b) n
  | .ref b s o n => .ref (g b) s o n
  | .map b => .map (g b)
  | .fn f a c => .fn f (renL g a) (renL g c)
  | .iface t v => .iface t (ren g v)
  | .agg cs => .agg (renL g cs)
  | .tup cs => .tup (renL g cs)
  | v => v
def renL (g : Nat → Nat) : List PV → List PV
  | [] => []
  | v :: r => ren g v :: renL g r
end
def bren (g : Nat → Nat) : Blk → Blk
  | .var t cs => .var t (renL g cs)
  | .map es => .map (es.map fun e => (ren g e.1, ren g e.2))
  | b => b
/-- All blocks that are reached, in the order in which they are met. -/
def reach (m : Mem) : Nat → List Nat → List Nat → List Nat
  | 0, _, seen => seen
  | _, [], seen => seen
  | n + 1, b :: todo, seen =>
    if seen.contains b || m.length ≤ b then reach m n todo seen
    else reach m n (todo ++ brefs (m.getD b .gone)) (seen ++ [b])
def closedB (m : Mem) (L : List Nat) (roots : List Nat) : Bool :=
  L.all (· < m.length) && roots.all L.contains && L.all fun b => (brefs (m.getD b .gone)).all L.contains

inductive CRes where
  | ret (v : PV)
  | panic (v : PV)
  deriving Inhabited
def CRes.pv : CRes → PV
  | .ret v | .panic v => v
def CRes.map (g : PV → PV) : CRes → CRes
  | .ret v => .ret (g v)
  | .panic v => .panic (g v)

/-- A call on the part of memory that its arguments reach. -/
def iso (callee : List PV → Mem → Option (CRes × Mem)) (args : List PV) (m : Mem) : Option (CRes × Mem) :=
  let roots := refsL args
  let L := reach m 1000 roots []
  if closedB m L roots then
    let pos := fun b => L.idxOf b
    match callee (renL pos args) (L.map fun b => bren pos (m.getD b .gone)) with
    | none => none
    | some (r, m') =>
      let k := L.length
      let roots' := List.range k ++ refs r.pv
      let K := (reach m' 1000 roots' []).filter fun b => decide (k ≤ b)
      if closedB m' (List.range k ++ K) roots' && decide (k ≤ m'.length) then
        let back := fun b => if b < k then L.getD b 0 else m.length + K.idxOf b
        let m1 := (List.range m.length).map fun b => if L.contains b then bren back (m'.getD (L.idxOf b) .gone) else m.getD b .gone
        some (r.map (ren back), m1 ++ K.map fun b => bren back (m'.getD b .gone))
      else none
  else none

/-! ### Code -/
inductive Ex where
  | norm | exit (id : Nat) | ret | panic (v : PV)
  deriving Inhabited
structure St where
  r : List PV
  m : Mem
  d : List (FuncId × List PV)
  deriving Inhabited

/-- Everything that a run looks at and never turns. -/
structure Env where
  P : Program
  A : Ann
  G : Nat → Option (List PV)
  prim : FuncId → Option (List PV → Mem → Option (CRes × Mem))
  deriving Inhabited

def wantedP (ops : Array Oper) (r : List PV) (o : Oper) : Option Bool :=
  match o.guard with
  | none => some true
  | some (j, want) => match (ops[j]?).bind (·.dst) with
    | some d => match get r d with
      | .bool y => some (y == want)
      | .tup [] => some false
      | _ => none
    | none => none

/-- What a defer statement lays by: a function, and all that it is handed. -/
def deferP (ρ : Operand → PV) (o : Oper) : Option (Option (FuncId × List PV)) :=
  match o.op with
  | .defer c => match c.callee with
    | .value g => match ρ g with
      | .fn (.func h) first cap => some (some (h, first ++ c.args.toList.map ρ ++ cap))
      | _ => some none
    | _ => some none
  | _ => none

def opStep (E : Env) (call : FuncId → List PV → Mem → Option (CRes × Mem)) (f : FuncId) (ops : Array Oper) (o : Oper) (s : St) : Option (Ex × St) :=
  match wantedP ops s.r o with
  | none => none
  | some false => some (.norm, ⟨putD s.r o.dst (.tup []), s.m, s.d⟩)
  | some true =>
    match gop E.P E.A f (geval E.G s.r) o s.m with
    | none => match deferP (geval E.G s.r) o with
      | some (some x) => some (.norm, ⟨putD s.r o.dst .dead, s.m, x :: s.d⟩)
      | _ => none
    | some (.val v m) => some (.norm, ⟨putD s.r o.dst v, m, s.d⟩)
    | some (.panic v) => some (.panic v, s)
    | some (.enter g args) => match call g args s.m with
      | none => none
      | some (.ret v, m) => some (.norm, ⟨putD s.r o.dst v, m, s.d⟩)
      | some (.panic v, m) => some (.panic v, ⟨s.r, m, s.d⟩)
def opSteps (E : Env) (call : FuncId → List PV → Mem → Option (CRes × Mem)) (f : FuncId) (ops : Array Oper) : List Oper → St → Option (Ex × St)
  | [], s => some (.norm, s)
  | o :: rest, s => match opStep E call f ops o s with
    | some (.norm, s') => opSteps E call f ops rest s'
    | r => r

def iter (body : St → Option (Ex × St)) : Nat → St → Option (Ex × St)
  | 0, _ => none
  | n + 1, s => match body s with
    | some (.norm, s') => iter body n s'
    | r => r

def exec (E : Env) (call : FuncId → List PV → Mem → Option (CRes × Mem)) (draw : FuncId → Nat → Array Oper → St → Option (Ex × St)) (n : Nat) (f : FuncId) : Code → St → Option (Ex × St)
  | .skip, s => some (.norm, s)
  | .region _ ops false, s => opSteps E call f ops ops.toList s
  | .region id ops true, s => draw f id ops s
  | .seq a b, s => match exec E call draw n f a s with
    | some (.norm, s') => exec E call draw n f b s'
    | r => r
  | .cond c a b, s => match geval E.G s.r c with
    | .bool true => exec E call draw n f a s
    | .bool false => exec E call draw n f b s
    | _ => none
  | .block id c, s => match exec E call draw n f c s with
    | some (.exit k, s') => if k = id then some (.norm, s') else some (.exit k, s')
    | r => r
  | .loop c, s => iter (exec E call draw n f c) n s
  | .exit id, s => some (.exit id, s)
  | .ret, s => some (.ret, s)
  | _, _ => none

/-- What a function hands back. -/
def resP (P : Program) (s : St) : List ResultVar → Option (List PV)
  | [] => some []
  | .tmp t :: rest => (resP P s rest).map (get s.r t :: ·)
  | .cell a t :: rest => match ti P t, get s.r a with
    | some i, .ptr b o => match s.m[b]? with
      | some (.var _ cs) => match rd i cs o, resP P s rest with
        | some v, some l => some (v :: l)
        | _, _ => none
      | _ => none
    | _, _ => none
def packP : List PV → PV
  | [v] => v
  | l => .tup l

/-- Own slices among what is handed back are frozen: nobody writes them any more. -/
def frz1 (m : Mem) (k : Nat) : PV → Option PV
  | .acc b n => if b < k then some (.acc b n) else pur1 m (.acc b n)
  | .ref b sz o n => if b < k then some (.ref b sz o n) else match elems m (.ref b sz o n) with
    | some es => (es.mapM (pur m)).map (.sl false sz)
    | none => none
  | v => some v
def frz (m : Mem) (k : Nat) : PV → Option PV
  | .agg cs => (cs.mapM (frz1 m k)).map .agg
  | .tup vs => (vs.mapM fun (v : PV) => match v with | PV.agg cs => (cs.mapM (frz1 m k)).map PV.agg | v => frz1 m k v).map PV.tup
  | v => frz1 m k v
/-- The blocks that were frozen are gone. -/
def killed (k : Nat) (m : Mem) (old : PV) : Mem :=
  (List.range m.length).map fun b => if k ≤ b && (refs old).contains b then (match m.getD b .gone with | .var _ _ => .gone | x => x) else m.getD b .gone

/-! ### Deferred functions -/
/-- How the frame that runs its deferred calls stands: returning, panicking, or panicking with what was recovered. -/
inductive RC where
  | ret | pan (v : PV) | done (v : PV)
  deriving Inhabited
def RC.settle : RC → RC
  | .done _ => .ret
  | u => u
def rcP : RC → PV
  | .ret => .nili
  | .pan v => .tup [v, .bool false]
  | .done v => .tup [v, .bool true]
def rcU : PV → Option RC
  | .nili => some .ret
  | .tup [v, .bool b] => some (if b then .done v else .pan v)
  | _ => none
def isRec (o : Oper) : Bool :=
  match o.op with
  | .call c => match c.callee with
    | .builtin .recover => true
    | _ => false
  | _ => false
def opStepsS (E : Env) (call : FuncId → List PV → Mem → Option (CRes × Mem)) (f : FuncId) (ops : Array Oper) : List Oper → St → RC → Option (Ex × St × RC)
  | [], s, u => some (.norm, s, u)
  | o :: rest, s, u =>
    if isRec o then
      match wantedP ops s.r o with
      | some true => match u with
        | .pan v => opStepsS E call f ops rest ⟨putD s.r o.dst v, s.m, s.d⟩ (.done v)
        | _ => opStepsS E call f ops rest ⟨putD s.r o.dst .nili, s.m, s.d⟩ u
      | _ => none
    else match opStep E call f ops o s with
      | some (.norm, s') => opStepsS E call f ops rest s' u
      | some (e, s') => some (e, s', u)
      | none => none
def execS (E : Env) (call : FuncId → List PV → Mem → Option (CRes × Mem)) (draw : FuncId → Nat → Array Oper → St → Option (Ex × St)) (n : Nat) (f : FuncId) : Code → St → RC → Option (Ex × St × RC)
  | .region _ ops false, s, u => opStepsS E call f ops ops.toList s u
  | .seq a b, s, u => match execS E call draw n f a s u with
    | some (.norm, s', u') => execS E call draw n f b s' u'
    | r => r
  | .cond c a b, s, u => match geval E.G s.r c with
    | .bool true => execS E call draw n f a s u
    | .bool false => execS E call draw n f b s u
    | _ => none
  | c, s, u => match exec E call draw n f c s with
    | some (e, s') => some (e, s', u)
    | none => none
/-- A deferred function: what it hands back is how the frame stands behind it. -/
def evD (E : Env) (draw : FuncId → Nat → Array Oper → St → Option (Ex × St)) (call : FuncId → List PV → Mem → Option (CRes × Mem)) (n : Nat) (f : FuncId) (u : RC) (args : List PV) (m : Mem) : Option (CRes × Mem) :=
  match E.P.funcs[f]? with
  | none => none
  | some fn => match fn.body with
    | none => none
    | some c => match execS E call draw n f c ⟨args ++ List.replicate (fn.ntmps - args.length) .dead, m, []⟩ u with
      | some (.norm, s, u') | some (.ret, s, u') => if s.d.isEmpty then (resP E.P s fn.results.toList).map fun _ => (.ret (rcP u'), s.m) else none
      | _ => none
def leaveP (callD : FuncId → RC → List PV → Mem → Option (CRes × Mem)) : List (FuncId × List PV) → RC → Mem → Option (RC × Mem)
  | [], u, m => some (u, m)
  | x :: ds, u, m => match callD x.1 u x.2 m with
    | some (.ret p, m') => match rcU p with
      | some u' => leaveP callD ds u'.settle m'
      | none => none
    | _ => none

def ev (E : Env) (draw : (FuncId → List PV → Mem → Option (CRes × Mem)) → FuncId → Nat → Array Oper → St → Option (Ex × St)) : Nat → FuncId → List PV → Mem → Option (CRes × Mem)
  | 0, _, _, _ => none
  | n + 1, f, args, m =>
    match E.prim f with
    | some p => p args m
    | none =>
    match E.P.funcs[f]? with
    | none => none
    | some fn => match fn.body with
      | none => none
      | some c =>
        let call := fun g as m => iso (ev E draw n g) as m
        let callD := fun h u as m => if refs (rcP u) = [] then iso (evD E (draw call) call n h u) as m else none
        let out := fun (u : RC) (s : St) => match leaveP callD s.d u s.m with
          | some (.ret, m1) => match resP E.P ⟨s.r, m1, []⟩ fn.results.toList with
            | none => none
            | some l =>
              if E.A.keep f then some (.ret (packP l), m1)
              else match frz m1 m.length (packP l) with
                | some v => some (.ret v, killed m.length m1 (packP l))
                | none => none
          | some (.pan v, m1) => some (.panic v, m1)
          | _ => none
        match exec E call (draw call) n f c ⟨args ++ List.replicate (fn.ntmps - args.length) .dead, m, []⟩ with
        | some (.norm, s) | some (.ret, s) => out .ret s
        | some (.panic v, s) => out (.pan v) s
        | _ => none

end Go.Gm
