/- The abstract machine's operations, and what an operation of the model is compiled to. -/
import Derived.Test.YtbmcgfdopaaiiaaZAmHeap
set_option linter.all false
namespace Go.Am

mutual
def AV.norm : AV → AV
  | .sl _ es => .sl .any (normL es)
  | .rptr v => .rptr v.norm
  | .agg cs => .agg (normL cs)
  | .tup vs => .tup (normL vs)
  | .fn f a b => .fn f (normL a) (normL b)
  | .any => .any
  | .bool b => .bool b
  | .int k n => .int k n
  | .str l => .str l
  | .nilp => .nilp
  | .ptr l o => .ptr l o
  | .msl l o n s => .msl l o n s
  | .map l => .map l
  | .nilfn => .nilfn
def normL : List AV → List AV
  | [] => []
  | v :: vs => v.norm :: normL vs
end

/-- Elements out of cells: 'none': an element is a cell; 'some k': a struct or an array of k cells. -/
def mkElem (sz : Option Nat) (cs : List AV) : AV :=
  match sz with
  | none => cs.headD .any
  | some _ => .agg cs

def chunk (sz : Option Nat) : Nat → List AV → List AV
  | 0, _ => []
  | n + 1, cs => mkElem sz (cs.take (sz.getD 1)) :: chunk sz n (cs.drop (sz.getD 1))

def allSz (k : Nat) (es : List AV) : Bool := es.all fun e => e.cells.length == k

def isAny : AV → Bool
  | .any => true
  | _ => false

def isAggV : AV → Bool
  | .agg _ => true
  | _ => false

/-- Has the value so many cells, as a struct or an array ('some k') or as what is neither? -/
def shaped (sz : Option Nat) (v : AV) : Bool :=
  match sz, v with
  | some k, .agg cs => cs.length == k
  | some _, _ => false
  | none, .agg _ => false
  | none, .any => false
  | none, .tup _ => false
  | none, _ => true

def toBytes : List AV → Option (List UInt8)
  | [] => some []
  | .int .u8 n :: es => (toBytes es).map (UInt8.ofNat n.toNat :: ·)
  | _ => none

def ofBytes (l : List UInt8) : List AV := l.map fun b => .int .u8 b.toNat

def limit : Nat := 2147483648

/-- How '==' compares: as bools, as addresses (against nil), field by field (0: integers, 1: bools, 2: strings). -/
inductive EqK where
  | none
  | bool
  | ptr
  | flat (ks : List Nat)
  deriving DecidableEq, Inhabited

inductive AOp where
  | id
  | idStr
  | nilc
  | pick
  | bin (op : BinOp) (kind : EqK)
  | un (op : UnOp)
  | build (zero : List AV) (places : List (Nat × Nat))
  | buildSl (sz : Option Nat)
  | extract (i : Nat)
  | field (off : Nat) (sz : Option Nat)
  | fieldAddr (off : Nat) (sz : Option Nat)
  | idxSl (sz : Option Nat)
  | idxArr (len : Nat) (sz : Option Nat)
  | idxArrV (len : Nat) (sz : Option Nat)
  | idxStr
  | len
  | lenStr
  | slcStr (lo hi : Bool)
  | slcSl (sz : Option Nat) (lo hi mx : Bool)
  | slcArr (n : Nat) (sz : Option Nat) (lo hi : Bool)
  | conv (k : IntKind)
  | strOf
  | bytesOf
  | mkfn (f : Fn) (first : Nat)
  | load (sz : Option Nat)
  | store (sz : Option Nat)
  | alloc (zero : List AV)
  | box (sz : Option Nat)
  | append (sz : Option Nat)
  | appendM (sz : Option Nat)
  | boxR (sz : Option Nat)
  | copy (sz : Option Nat)
  | mkslice (sz : Option Nat) (zero : List AV)
  | minmax (mx : Bool)
  deriving Inhabited

inductive Cls where
  | pure | read | write | tok
  deriving DecidableEq, Inhabited

def AOp.cls : AOp → Cls
  | .load _ | .strOf | .slcArr .. => .read
  | .store _ | .alloc _ | .box _ | .copy _ | .mkslice .. | .appendM _ => .write
  | .append _ => .tok
  | _ => .pure

def intBin (op : BinOp) (k : IntKind) (x y : Int) : Option AV :=
  match op with
  | .add => some (.int k (k.wrap (x + y)))
  | .sub => some (.int k (k.wrap (x - y)))
  | .mul => some (.int k (k.wrap (x * y)))
  | .quo => if y = 0 then none else some (.int k (k.wrap (x.tdiv y)))
  | .rem => if y = 0 then none else some (.int k (x.tmod y))
  | .and => some (.int k (k.wrap (BitVec.ofInt k.bits x &&& BitVec.ofInt k.bits y).toNat))
  | .or => some (.int k (k.wrap (BitVec.ofInt k.bits x ||| BitVec.ofInt k.bits y).toNat))
  | .xor => some (.int k (k.wrap (BitVec.ofInt k.bits x ^^^ BitVec.ofInt k.bits y).toNat))
  | .andNot => some (.int k (k.wrap (BitVec.ofInt k.bits x &&& ~~~ BitVec.ofInt k.bits y).toNat))
  | .eql => some (.bool (x == y))
  | .neq => some (.bool (x != y))
  | .lss => some (.bool (decide (x < y)))
  | .leq => some (.bool (decide (x ≤ y)))
  | .gtr => some (.bool (decide (x > y)))
  | .geq => some (.bool (decide (x ≥ y)))
  | _ => none

def shiftBin (op : BinOp) (k : IntKind) (x y : Int) : Option AV :=
  if y < 0 then none else
  match op with
  | .shl => some (.int k (k.wrap (x * 2 ^ (min y.toNat k.bits))))
  | .shr => some (.int k (x.fdiv (2 ^ (min y.toNat k.bits))))
  | _ => none

def strBin (op : BinOp) (x y : List UInt8) : Option AV :=
  match op with
  | .add => if ((x.length + y.length : Nat) : Int) > IntKind.i64.max then none else some (.str (x ++ y))
  | .eql => some (.bool (x == y))
  | .neq => some (.bool (!(x == y)))
  | .lss => some (.bool (Op.bytesLess x y))
  | .leq => some (.bool (Op.bytesLess x y || x == y))
  | .gtr => some (.bool (!(Op.bytesLess x y || x == y)))
  | .geq => some (.bool (!(Op.bytesLess x y)))
  | _ => none

def isNilAddr : AV → Option Bool
  | .nilp => some true
  | .ptr _ _ => some false
  | .rptr _ => some false
  | _ => none

/-- Cell by cell: integers of one kind, bools, strings. -/
def eqCell : Nat → AV → AV → Option Bool
  | 0, .int k a, .int k' b => if k = k' then some (a == b) else none
  | 1, .bool a, .bool b => some (a == b)
  | 2, .str a, .str b => some (a == b)
  | _, _, _ => none

def eqCells : List Nat → List AV → List AV → Option Bool
  | [], [], [] => some true
  | k :: ks, a :: as, b :: bs => (eqCell k a b).bind fun r => if r then eqCells ks as bs else some false
  | _, _, _ => none

def eqKind (kind : EqK) (x y : AV) : Option Bool :=
  match kind, x, y with
  | .bool, .bool a, .bool b => some (a == b)
  | .ptr, x, y => (isNilAddr x).bind fun a => (isNilAddr y).bind fun b => if a || b then some (a && b) else none
  | .flat ks, .agg a, .agg b => if a.length = ks.length ∧ b.length = ks.length then eqCells ks a b else none
  | _, _, _ => none

def binA (op : BinOp) (kind : EqK) (x y : AV) : Option AV :=
  match op, x, y with
  | .shl, .int k a, .int _ b | .shr, .int k a, .int _ b => shiftBin op k a b
  | op, .int k a, .int k' b => if k = k' then intBin op k a b else none
  | op, .str a, .str b => strBin op a b
  | .eql, x, y => (eqKind kind x y).map .bool
  | .neq, x, y => (eqKind kind x y).map fun b => .bool (!b)
  | _, _, _ => none

def unA (op : UnOp) (x : AV) : Option AV :=
  match op, x with
  | .neg, .int k n => some (.int k (k.wrap (0 - n)))
  | .xor, .int k n => some (.int k (k.wrap (BitVec.ofInt k.bits (if k.signed then -1 else k.max) ^^^ BitVec.ofInt k.bits n).toNat))
  | .not, .bool b => some (.bool !b)
  | _, _ => none

def fillA : List AV → List (Nat × Nat) → List AV → Option (List AV)
  | cs, [], [] => some cs
  | cs, (off, size) :: ps, v :: vs => if isAny v || isTup v || v.cells.length != size || off + v.cells.length > cs.length then none else fillA (setRange cs off v.cells) ps vs
  | _, _, _ => none

def partA (cs : List AV) (off : Nat) (sz : Option Nat) : Option AV :=
  match sz with
  | none => cs[off]?
  | some k => if off + k ≤ cs.length then some (.agg ((cs.drop off).take k)) else none

/-- A bound of a slice expression, at most 'top'. -/
def bnd1 (x : Option AV) (dflt top : Nat) : Option Nat :=
  match x with
  | none => some dflt
  | some (.int _ i) => if 0 ≤ i ∧ i ≤ top then some i.toNat else none
  | _ => none

/-- Low, high, max: which of them stand there; the length. -/
def bounds (lo hi mx : Option AV) (len : Nat) : Option (Nat × Nat × Option Nat) :=
  match mx, hi with
  | none, hi => (bnd1 hi len len).bind fun h => (bnd1 lo 0 h).map fun l => (l, h, none)
  | some m, some h => (bnd1 (some m) 0 len).bind fun m => (bnd1 (some h) 0 m).bind fun h => (bnd1 lo 0 h).map fun l => (l, h, some m)
  | some _, none => none

def args3 (lo hi mx : Bool) (bs : List AV) : Option (Option AV × Option AV × Option AV) :=
  match lo, hi, mx, bs with
  | false, false, false, [] => some (none, none, none)
  | true, false, false, [a] => some (some a, none, none)
  | false, true, false, [b] => some (none, some b, none)
  | false, false, true, [c] => some (none, none, some c)
  | true, true, false, [a, b] => some (some a, some b, none)
  | true, false, true, [a, c] => some (some a, none, some c)
  | false, true, true, [b, c] => some (none, some b, some c)
  | true, true, true, [a, b, c] => some (some a, some b, some c)
  | _, _, _, _ => none

def boundsOf (lo hi mx : Bool) (len : Nat) (bs : List AV) : Option (Nat × Nat × Option Nat) :=
  (args3 lo hi mx bs).bind fun (a, b, c) => bounds a b c len

def nilcA : AV → Option AV
  | .ptr l o => some (.ptr l o)
  | .rptr v => some (.rptr v)
  | .fn (.func f) a b => some (.fn (.func f) a b)
  | _ => none

def slTok (t : Tok) (b len : Nat) (m : Option Nat) : Tok :=
  match m with
  | some m => if m = b then .clip else .any
  | none => if t = .clip ∧ b = len then .clip else .any

def evP (op : AOp) (args : List AV) : Option AV :=
  match op, args with
  | .id, [x] => some x
  | .nilc, [x] => nilcA x
  | .idStr, [.str l] => some (.str l)
  | .pick, [.bool c, a, b] => some (if c then a else b)
  | .bin op kind, [x, y] => binA op kind x y
  | .un op, [x] => unA op x
  | .build zero places, vs => (fillA zero places vs).map .agg
  | .buildSl sz, vs => if vs.all (shaped sz) then some (.sl .clip vs) else none
  | .extract i, [.tup vs] => vs[i]?
  | .field off sz, [.agg cs] => partA cs off sz
  | .fieldAddr off _, [.ptr l o] => some (.ptr l (o + off))
  | .fieldAddr off sz, [.rptr (.agg cs)] => (partA cs off sz).map .rptr
  | .idxSl sz, [.sl _ es, .int _ i] => if 0 ≤ i then (es[i.toNat]?).bind fun e => if e.cells.length == sz.getD 1 then some (.rptr e) else none else none
  | .idxSl sz, [.msl l off len sz', .int _ i] => if sz = sz' ∧ 0 ≤ i ∧ i < len then some (.ptr l (off + i.toNat * sz.getD 1)) else none
  | .idxArr len sz, [.ptr l off, .int _ i] => if 0 ≤ i ∧ i < len then some (.ptr l (off + i.toNat * sz.getD 1)) else none
  | .idxArr len sz, [.rptr (.agg cs), .int _ i] => if 0 ≤ i ∧ i < len then (partA cs (i.toNat * sz.getD 1) sz).map .rptr else none
  | .idxArrV len sz, [.agg cs, .int _ i] => if 0 ≤ i ∧ i < len then partA cs (i.toNat * sz.getD 1) sz else none
  | .idxStr, [.str l, .int _ i] => if 0 ≤ i then (l[i.toNat]?).map fun b => .int .u8 b.toNat else none
  | .len, [.sl _ es] => some (.int .i64 es.length)
  | .len, [.msl _ _ n _] => some (.int .i64 n)
  | .lenStr, [.str l] => some (.int .i64 l.length)
  | .slcStr lo hi, .str l :: bs => (boundsOf lo hi false l.length bs).map fun (a, b, _) => .str ((l.drop a).take (b - a))
  | .slcSl sz lo hi mx, .sl t es :: bs => (boundsOf lo hi mx es.length bs).bind fun (a, b, m) =>
      if allSz (sz.getD 1) es then some (.sl (slTok t b es.length m) ((es.drop a).take (b - a))) else none
  | .slcSl sz lo hi mx, .msl l off len sz' :: bs => (boundsOf lo hi mx len bs).bind fun (a, b, m) => if sz = sz' ∧ m = none ∧ (a = 0 ∨ a < len) then some (.msl l (off + a * sz.getD 1) (b - a) sz) else none
  | .conv k, [.int _ n] => some (.int k (k.wrap n))
  | .bytesOf, [.str l] => if l.length ≤ limit then some (.sl .any (ofBytes l)) else none
  | .mkfn f n, vs => some (.fn f (vs.take n) (vs.drop n))
  | .boxR sz, [v] => if shaped sz v then some (.rptr v) else none
  | .minmax mx, [.int k a, .int k' b] => if k = k' then some (.int k (if mx then (if a < b then b else a) else (if b < a then b else a))) else none
  | _, _ => none

def evR (op : AOp) (args : List AV) (st : St) : Option AV :=
  match op, args with
  | .load sz, [.ptr l off] => match st.heap[l]? with
    | some (.cells _ vs) => partA vs off sz
    | _ => none
  | .load sz, [.rptr v] => match sz, v with
    | some k, .agg cs => if cs.length = k then some (.agg cs) else none
    | some _, _ => none
    | none, .agg _ => none
    | none, v => some v
  | .strOf, [.sl _ es] => (toBytes es).map .str
  | .strOf, [.msl l off len none] => match st.heap[l]? with
    | some (.cells _ vs) => if off + len ≤ vs.length then (toBytes ((vs.drop off).take len)).map .str else none
    | _ => none
  | .slcArr n sz lo hi, .ptr l off :: bs => (boundsOf lo hi false n bs).bind fun (a, b, _) => match st.heap[l]? with
    | some (.cells _ vs) => if off + n * sz.getD 1 ≤ vs.length ∧ (a = 0 ∨ a < n) then some (.msl l (off + a * sz.getD 1) (b - a) sz) else none
    | _ => none
  | .slcArr n sz lo hi, .rptr (.agg cs) :: bs => (boundsOf lo hi false n bs).bind fun (a, b, _) =>
      if cs.length = n * sz.getD 1 then some (.sl .any (((chunk sz n cs).drop a).take (b - a))) else none
  | _, _ => none

/-- The elements that a builtin reads of its source. -/
def srcEs (sz : Option Nat) (st : St) : AV → Option (List AV)
  | .sl _ es => if allSz (sz.getD 1) es then some es else none
  | .str l => if sz = none then some (ofBytes l) else none
  | .msl l off len sz' => if sz = sz' then match st.heap[l]? with
    | some (.cells _ vs) => if off + len * sz.getD 1 ≤ vs.length then some (chunk sz len (vs.drop off)) else none
    | _ => none else none
  | _ => none

def evW (op : AOp) (args : List AV) (st : St) : Option (AV × St) :=
  match op, args with
  | .store sz, [.ptr l off, v] => match st.heap[l]? with
    | some (.cells false vs) => if shaped sz v && off + v.cells.length ≤ vs.length then some (.tup [], { st with heap := st.heap.set l (.cells false (setRange vs off v.cells)) }) else none
    | _ => none
  | .alloc zero, [] => some (.ptr st.heap.length 0, { st with heap := st.heap ++ [.cells false zero] })
  | .box sz, [v] => if shaped sz v then some (.ptr st.heap.length 0, { st with heap := st.heap ++ [.cells false v.cells] }) else none
  | .mkslice sz zero, [.int _ n, .int _ c] => if 0 ≤ n ∧ n ≤ c ∧ c ≤ limit then
      some (.msl st.heap.length 0 n.toNat sz, { st with heap := st.heap ++ [.cells false (List.replicate n.toNat zero).flatten] }) else none
  | .appendM sz, [.sl .clip [], src] => match srcEs sz st src with
    | some new => if allSz (sz.getD 1) new = true ∧ 0 < new.length ∧ new.length ≤ limit then
        some (.msl st.heap.length 0 new.length sz, { st with heap := st.heap ++ [.cells false (flat (normL new))] }) else none
    | none => none
  | .copy sz, [.msl l off len sz', src] => match srcEs sz st src, st.heap[l]? with
    | some es, some (.cells false vs) => if sz = sz' ∧ off + len * sz.getD 1 ≤ vs.length then
        some (.int .i64 (min es.length len : Nat), { st with heap := st.heap.set l (.cells false (setRange vs off (flat (es.take (min es.length len))))) }) else none
    | _, _ => none
  | _, _ => none

def evT (op : AOp) (args : List AV) (st : St) : Option (AV × St) :=
  match op, args with
  | .append sz, [.sl t es, src] => match srcEs sz st src with
    | some new => if allSz (sz.getD 1) es && decide (es.length + new.length ≤ limit) then
        match t with
        | .any => none
        | .clip => some (.sl (.own st.toks.length) (es ++ normL new), { st with toks := st.toks ++ [(es.length + new.length, sz.getD 1)] })
        | .own k => match st.toks[k]? with
          | some (n, s) => if n = es.length ∧ s = sz.getD 1 then some (.sl (.own k) (es ++ normL new), { st with toks := st.toks.set k (es.length + new.length, s) }) else none
          | none => none
      else none
    | none => none
  | _, _ => none

def evA (op : AOp) (args : List AV) (st : St) : Option (AV × St) :=
  match op.cls with
  | .pure => (evP op args).map fun v => (v, st)
  | .read => (evR op args st).map fun v => (v, st)
  | .write => evW op args st
  | .tok => evT op args st

/-! What an operation of the model is compiled to. -/

def constA1 : Value → Option AV
  | .bool b => some (.bool b)
  | .int k n => some (.int k n)
  | .string s => some (.str s.data.toList)
  | .pointer none => some .nilp
  | .slice none 0 0 => some (.sl .clip [])
  | .map none => some (.map none)
  | .nilFunc => some .nilfn
  | _ => none

def constA : Value → Option AV
  | .agg cs => (cs.toList.mapM constA1).map .agg
  | v => constA1 v

/-- A type of one cell, or of so many (a struct, an array). -/
def szOf (P : Program) (t : TypeId) : Option (Option Nat) :=
  match P.info? t, P.underlying t with
  | some i, some (.struct _) | some i, some (.array _ _) => if i.size = 0 then none else some (some i.size)
  | some i, some _ => if i.size = 1 then some none else none
  | _, _ => none

def elemOfA (P : Program) (t : TypeId) : Option TypeId :=
  match P.underlying t with
  | some (.slice e) => some e
  | _ => none

def zeroA (P : Program) (t : TypeId) : Option AV := ((P.info? t).bind (·.zero)).bind constA

def smallBytes (P : Program) (t : TypeId) : Bool :=
  match P.info? t with
  | some i => 0 < i.bytes && i.bytes ≤ 1024
  | none => false

def isU8 (P : Program) (e : TypeId) : Bool :=
  match P.underlying e with
  | some (.int .u8) => true
  | _ => false

inductive AOpd where
  | tmp (t : Nat)
  | const (v : AV)
  deriving Inhabited

def opdA : Operand → Option AOpd
  | .tmp t => some (.tmp t)
  | .const v => (constA v).map .const
  | .func f => some (.const (.fn (.func f) [] []))
  | .global _ => none

inductive Kind where
  | prim (op : AOp)
  | call (f : Nat)
  | callV
  deriving Inhabited

def fieldOf (P : Program) (t : TypeId) (i : Nat) : Option (Nat × Option Nat) :=
  match P.underlying t with
  | some (.struct fs) => (fs[i]?).bind fun f => (szOf P f.type).map fun s => (f.offset, s)
  | _ => none

def flatKind (P : Program) (t : TypeId) : Option Nat :=
  match P.underlying t with
  | some (.int _) => some 0
  | some .bool => some 1
  | some .string => some 2
  | _ => none

/-- Fields one behind the other, each told cell by cell. -/
def deepF (f : TypeId → Option (List Nat)) : Nat → List Field → Option (List Nat)
  | _, [] => some []
  | o, fd :: fs => if (fd.name != "_") = true ∧ fd.offset = o then (f fd.type).bind fun l => (deepF f (o + l.length) fs).map fun r => l ++ r else none

/-- A type of integers, bools and strings, structs and arrays of them: cell by cell. -/
def deepEq (P : Program) : Nat → TypeId → Option (List Nat)
  | 0, _ => none
  | n + 1, t => match P.underlying t with
    | some (.int _) => some [0]
    | some .bool => some [1]
    | some .string => some [2]
    | some (.struct fs) => if P.stoodInHeld t then none else (deepF (deepEq P n) 0 fs.toList).bind fun l => if szOf P t = some (some l.length) then some l else none
    | some (.array k e) => (deepEq P n e).bind fun l => if szOf P t = some (some (k * l.length)) ∧ (szOf P e).map (fun s => s.getD 1) = some l.length ∧ P.cellsOf e = l.length then some (List.replicate k l).flatten else none
    | _ => none

def flatEq (P : Program) (t : TypeId) : Option (List Nat) :=
  match P.underlying t with
  | some (.struct _) | some (.array _ _) => if !P.eqGuardType P.depth t then deepEq P 8 t else none
  | _ => none

def eqKindOf (P : Program) (t : TypeId) : EqK :=
  match P.underlying t with
  | some .bool => .bool
  | some (.pointer _) => .ptr
  | some (.struct _) | some (.array _ _) => match flatEq P t with | some ks => .flat ks | none => .none
  | _ => .none

def compP (P : Program) (o : Op) : Option (Kind × List Operand) :=
  let pr (op : AOp) (xs : List Operand) : Option (Kind × List Operand) := some (.prim op, xs)
  match o with
  | .move x | .assign x => pr .id [x]
  | .nilCheck x => pr .nilc [x]
  | .pick c a b => pr .pick [c, a, b]
  | .binOp op t x y _ => pr (.bin op (eqKindOf P t)) [x, y]
  | .unOp op _ x => pr (.un op) [x]
  | .build t parts => match P.underlying t, zeroA P t with
    | some (.struct fs), some (.agg z) => if fs.toList.all (fun f => (P.info? f.type).isSome) = false then none else (parts.toList.mapM fun p => (fs[p.1]?).bind fun f => (szOf P f.type).map fun s => (f.offset, s.getD 1)).bind fun ps => pr (.build z ps) (parts.toList.map (·.2))
    | some (.array _ e), some (.agg z) => (szOf P e).bind fun s => pr (.build z (parts.toList.map fun p => (p.1 * s.getD 1, s.getD 1))) (parts.toList.map (·.2))
    | _, _ => none
  | .buildSlice t n parts => (elemOfA P t).bind fun e => (szOf P e).bind fun s =>
      if parts.toList.map (·.1) = List.range n ∧ n * s.getD 1 ≤ 16777216 ∧ (P.info? e).any (·.zero.isSome) = true then pr (.buildSl s) (parts.toList.map (·.2)) else none
  | .extract x i => pr (.extract i) [x]
  | .field t x i => (fieldOf P t i).bind fun (off, s) => pr (.field off s) [x]
  | .fieldAddr t x i => (fieldOf P t i).bind fun (off, s) => pr (.fieldAddr off s) [x]
  | .indexAddr t x i => match P.underlying t with
    | some (.slice e) => (szOf P e).bind fun s => pr (.idxSl s) [x, i]
    | some (.array n e) => (szOf P e).bind fun s => pr (.idxArr n s) [x, i]
    | _ => none
  | .index t x i => match P.underlying t with
    | some (.array n e) => (szOf P e).bind fun s => pr (.idxArrV n s) [x, i]
    | some .string => pr .idxStr [x, i]
    | _ => none
  | .slice t x lo hi mx => match P.underlying t with
    | some .string => if mx.isNone then pr (.slcStr lo.isSome hi.isSome) (x :: (lo.toList ++ hi.toList)) else none
    | some (.slice e) => (szOf P e).bind fun s => pr (.slcSl s lo.isSome hi.isSome mx.isSome) (x :: (lo.toList ++ hi.toList ++ mx.toList))
    | some (.array n e) => if mx.isNone then (szOf P e).bind fun s => pr (.slcArr n s lo.isSome hi.isSome) (x :: (lo.toList ++ hi.toList)) else none
    | _ => none
  | .convert src dst x => match P.underlying src, P.underlying dst with
    | some (.int _), some (.int k) => pr (.conv k) [x]
    | some .string, some .string => pr .idStr [x]
    | some (.slice e), some .string => if isU8 P e then pr .strOf [x] else none
    | some .string, some (.slice e) => if isU8 P e && smallBytes P e then pr .bytesOf [x] else none
    | _, _ => none
  | .makeFunc f first captured => pr (.mkfn f first.size) (first.toList ++ captured.toList)
  | .load t a => (szOf P t).bind fun s => pr (.load s) [a]
  | .store t a v => (szOf P t).bind fun s => pr (.store s) [a, v]
  | .alloc t => (szOf P t).bind fun _ => (zeroA P t).bind fun z => pr (.alloc z.cells) []
  | .box t v => (szOf P t).bind fun s => pr (.box s) [v]
  | .makeSlice t l c => (elemOfA P t).bind fun e => (szOf P e).bind fun s => (zeroA P e).bind fun z => if smallBytes P e && z.cells.length == s.getD 1 then pr (.mkslice s z.cells) [l, c] else none
  | .call { callee := .builtin .len, args, argTypes } => match args.toList, (argTypes[0]?).bind P.underlying with
    | [x], some (.slice _) => pr .len [x]
    | [x], some .string => pr .lenStr [x]
    | _, _ => none
  | .call { callee := .builtin .append, args, argTypes } => match args.toList, argTypes[0]?, (argTypes[1]?).bind P.underlying with
    | [s, x], some t, some (.slice _) | [s, x], some t, some .string => (elemOfA P t).bind fun e => (szOf P e).bind fun sz => if smallBytes P e && (P.info? e).any (fun i => i.zero.any fun z => z.cells.size == sz.getD 1) then pr (.append sz) [s, x] else none
    | _, _, _ => none
  | .call { callee := .builtin .copy, args, argTypes } => match args.toList, argTypes[0]? with
    | [d, s], some t => (elemOfA P t).bind fun e => (szOf P e).bind fun sz => pr (.copy sz) [d, s]
    | _, _ => none
  | .call { callee := .builtin .min, args, .. } => match args.toList with
    | [a, b] => pr (.minmax false) [a, b]
    | _ => none
  | .call { callee := .builtin .max, args, .. } => match args.toList with
    | [a, b] => pr (.minmax true) [a, b]
    | _ => none
  | _ => none

def compOp (P : Program) (o : Op) : Option (Kind × List Operand) :=
  match o with
  | .call { callee := .value (.func f), args, .. } => some (.call f, args.toList)
  | .call { callee := .value (.tmp t), args, .. } => some (.callV, .tmp t :: args.toList)
  | o => match compP P o with
    | some (.prim op, xs) => some (.prim op, xs)
    | _ => none

structure AIns where
  kind : Kind
  args : List AOpd
  dst : Option Nat
  guard : Option (Nat × Bool)
  deriving Inhabited

inductive ACode where
  | skip
  | region (ins : List AIns) (deps : Option (List (List Nat)))
  | seq (a b : ACode)
  | cond (c : AOpd) (a b : ACode)
  | block (id : Nat) (b : ACode)
  | loop (b : ACode)
  | exit (id : Nat)
  | scope (b : ACode)
  | ret
  deriving Inhabited

def dstOk (d : Option Tmp) (N : Nat) : Bool :=
  match d with
  | some d => decide (d < N)
  | none => true

/-- Appends to no elements, whose result the text then writes, and boxes that nobody writes: told by the places that they go to. -/
inductive Alt : Op → AOp → AOp → Prop
  | app (c : Call) (sz : Option Nat) : Alt (.call c) (.append sz) (.appendM sz)
  | box (t : TypeId) (x : Operand) (sz : Option Nat) : Alt (.box t x) (.box sz) (.boxR sz)

def markK (M : List Nat) (o : Op) (dst : Option Nat) (k : Kind) : Kind :=
  match o, k, dst with
  | .call _, .prim (.append sz), some d => if d ∈ M then .prim (.appendM sz) else .prim (.append sz)
  | .box _ _, .prim (.box sz), some d => if d ∈ M then .prim (.boxR sz) else .prim (.box sz)
  | _, k, _ => k

def compOper (P : Program) (N : Nat) (M : List Nat) (ops : Array Oper) (o : Oper) : Option AIns :=
  (compOp P o.op).bind fun (k', xs) => (xs.mapM opdA).bind fun as =>
  let k := markK M o.op o.dst k'
  if dstOk o.dst N then
    match o.guard with
    | none => some { kind := k, args := as, dst := o.dst, guard := none }
    | some (j, want) => ((ops[j]?).bind (·.dst)).map fun t => { kind := k, args := as, dst := o.dst, guard := some (t, want) }
  else none

end Go.Am
