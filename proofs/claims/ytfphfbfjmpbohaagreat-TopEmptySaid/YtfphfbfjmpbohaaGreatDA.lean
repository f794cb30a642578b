/-
  The interpreter D: values, heap, operations, code, calls. A big-step evaluator for the model's code over a heap of its own (objects by number), without tape and capacities. No program is named here.
-/
import Derived.Calls
namespace Go.D

/-- A cell of memory: object, place in it. -/
abbrev Ref := Nat × Nat

/-- D's values. A slice: where it begins, length, capacity (if it is known), cells an element. -/
inductive DV where
  | bool (b : Bool)
  | int (k : IntKind) (n : Int)
  | str (s : List UInt8)
  | ptr (a : Option Ref)
  | slice (a : Option Ref) (len : Nat) (cap : Option Nat) (sz : Nat)
  | map (r : Option Nat)
  | func (f : FuncId) (caps : List DV)
  | nilFunc
  | iface (t : TypeId) (v : DV)
  | nilIface
  | agg (cs : List DV)
  | tup (vs : List DV)
  deriving Inhabited

/-- D's objects. -/
inductive DObj where
  | cells (cs : List DV)
  | map (es : List (DV × DV))
  | dead
  deriving Inhabited

/-- A tree of objects by number. -/
inductive Tr where
  | leaf
  | node (l : Tr) (v : Option DObj) (r : Tr)
  deriving Inhabited

def Tr.get : Tr → Nat → Option DObj
  | .leaf, _ => none
  | .node l v r, i => if i = 0 then v else if i % 2 = 1 then l.get (i / 2) else r.get (i / 2 - 1)

def Tr.setF : Nat → Tr → Nat → DObj → Tr
  | 0, t, _, _ => t
  | f + 1, t, i, o =>
    let (l, v, r) := match t with
      | .leaf => (Tr.leaf, none, Tr.leaf)
      | .node l v r => (l, v, r)
    if i = 0 then .node l (some o) r
    else if i % 2 = 1 then .node (setF f l (i / 2) o) v r
    else .node l v (setF f r (i / 2 - 1) o)

/-- The heap: objects, the next number, the first object that may be written. -/
structure H where
  tr : Tr
  next : Nat
  ro : Nat
  deriving Inhabited

def H.get (h : H) (i : Nat) : Option DObj := h.tr.get i
def H.put (h : H) (i : Nat) (o : DObj) : H := { h with tr := h.tr.setF (i + 1) i o }
def H.new (h : H) (o : DObj) : H := { tr := h.tr.setF (h.next + 1) h.next o, next := h.next + 1, ro := h.ro }

def splice (cs : List DV) (o : Nat) (vs : List DV) : List DV := cs.take o ++ vs ++ cs.drop (o + vs.length)

def H.cells (h : H) (b : Nat) : Option (List DV) := match h.get b with
  | some (.cells cs) => some cs
  | _ => none

def H.ld (h : H) (a : Ref) : Option DV := (h.cells a.1).bind fun cs => cs[a.2]?

def H.ldn (h : H) (a : Ref) (n : Nat) : Option (List DV) := (h.cells a.1).bind fun cs =>
  if a.2 + n ≤ cs.length then some ((cs.drop a.2).take n) else none

/-- What one cell may hold. -/
def DV.flat : DV → Bool
  | .agg _ => false
  | .tup _ => false
  | _ => true

def H.st (h : H) (a : Ref) (vs : List DV) : Option H := (h.cells a.1).bind fun cs =>
  if h.ro ≤ a.1 ∧ a.2 + vs.length ≤ cs.length ∧ vs.all DV.flat = true then some (h.put a.1 (.cells (splice cs a.2 vs))) else none

def DV.cellsOf : DV → List DV
  | .agg cs => cs
  | v => [v]

mutual
/-- A constant as a value of D's. -/
def cv : Value → Option DV
  | .bool b => some (.bool b)
  | .int k n => some (.int k n)
  | .string s => some (.str s.data.toList)
  | .pointer none => some (.ptr none)
  | .slice none 0 0 => some (.slice none 0 (some 0) 0)
  | .map none => some (.map none)
  | .nilFunc => some .nilFunc
  | .nilIface => some .nilIface
  | .agg ⟨l⟩ => (cvs l).map .agg
  | .tuple ⟨l⟩ => (cvs l).map .tup
  | .iface t v => (cv v).map (.iface t)
  | _ => none
def cvs : List Value → Option (List DV)
  | [] => some []
  | v :: l => match cv v, cvs l with
    | some d, some ds => some (d :: ds)
    | _, _ => none
end

/-- The table of types; 'cmp': structs that are compared without more ado. -/
structure TT where
  info : TypeId → Option TypeInfo
  cmp : TypeId → Bool

def und (P : TT) (t : TypeId) : Option TypeDesc := match P.info t with
  | some i => match i.desc with
    | .named _ u => (P.info u).map (·.desc)
    | d => some d
  | none => none

section types
variable (P : TT)

def tsize (t : TypeId) : Option Nat := (P.info t).map (·.size)
def tbytes (t : TypeId) : Option Nat := (P.info t).map (·.bytes)
def tagg (t : TypeId) : Option Bool := match und P t with
  | some (.struct _) | some (.array _ _) => some true
  | some _ => some false
  | none => none
def tzero (t : TypeId) : Option DV := match (P.info t) with
  | some i => i.zero.bind cv
  | none => none
def tfield (t : TypeId) (f : Nat) : Option Field := match und P t with
  | some (.struct fs) => fs[f]?
  | _ => none
def telem (t : TypeId) : Option TypeId := match und P t with
  | some (.slice e) => some e
  | _ => none

/-- A part of an aggregate. -/
def partD (t : TypeId) (cs : List DV) (off : Nat) : Option DV := match tagg P t, tsize P t with
  | some true, some n => some (.agg ((cs.drop off).take n))
  | some false, _ => cs[off]?
  | _, _ => none

def eqFields (eq : TypeId → DV → DV → Option Bool) (xs ys : List DV) : List Field → Option Bool
  | [] => some true
  | f :: fs =>
    if f.name ≠ "_" then
      match partD P f.type xs f.offset, partD P f.type ys f.offset with
      | some x, some y => match eq f.type x y with
        | some true => eqFields eq xs ys fs
        | some false => some false
        | none => none
      | _, _ => none
    else eqFields eq xs ys fs

/-- '=='. -/
def eqD : Nat → TypeId → DV → DV → Option Bool
  | 0, _, _, _ => none
  | d + 1, t, x, y => match und P t, x, y with
    | some .bool, .bool a, .bool b => some (a == b)
    | some (.int _), .int k a, .int k' b => if k = k' then some (a == b) else none
    | some .string, .str a, .str b => some (a == b)
    | some (.pointer _), .ptr none, .ptr b => some b.isNone
    | some (.pointer _), .ptr (some _), .ptr none => some false
    | some (.slice _), .slice none _ _ _, .slice b _ _ _ => some b.isNone
    | some (.slice _), .slice (some _) _ _ _, .slice none _ _ _ => some false
    | some (.map _ _), .map none, .map b => some b.isNone
    | some (.map _ _), .map (some _), .map none => some false
    | some (.interface _), .nilIface, .nilIface => some true
    | some (.interface _), .nilIface, .iface _ _ => some false
    | some (.interface _), .iface _ _, .nilIface => some false
    | some (.interface _), .iface tx vx, .iface ty vy =>
      if tx ≠ ty then some false else
      match P.info tx with
      | some i => if i.comparable then eqD d tx vx vy else none
      | none => none
    | some (.struct fs), .agg xs, .agg ys => if !P.cmp t then none else eqFields P (eqD d) xs ys fs.toList
    | _, _, _ => none

/-- A key without an interface in it: what 'checkKey' goes through. -/
def checkD : Nat → TypeId → DV → Bool
  | 0, _, _ => false
  | d + 1, t, v => match und P t, v with
    | some (.struct fs), .agg cs => fs.toList.all fun f => match partD P f.type cs f.offset with
      | some x => checkD d f.type x
      | none => false
    | some (.struct _), _ => false
    | some (.array _ _), _ => false
    | some (.interface _), _ => false
    | some _, _ => true
    | none, _ => false

def findD (t : TypeId) (k : DV) : List (DV × DV) → Option (Option (Nat × DV))
  | [] => some none
  | e :: es => match eqD P Op.maxDepth t k e.1 with
    | some true => some (some (0, e.2))
    | some false => match findD t k es with
      | some (some (i, v)) => some (some (i + 1, v))
      | some none => some none
      | none => none
    | none => none

end types

/-- Comparison, arithmetic on integers. -/
def intOp (op : BinOp) (k : IntKind) (x y : Int) : Option DV := match op with
  | .add => some (.int k (k.wrap (x + y)))
  | .sub => some (.int k (k.wrap (x - y)))
  | .mul => some (.int k (k.wrap (x * y)))
  | .quo => if y = 0 then none else some (.int k (k.wrap (x.tdiv y)))
  | .rem => if y = 0 then none else some (.int k (x.tmod y))
  | .and => some (.int k (k.wrap (BitVec.ofInt k.bits x &&& BitVec.ofInt k.bits y).toNat))
  | .or => some (.int k (k.wrap (BitVec.ofInt k.bits x ||| BitVec.ofInt k.bits y).toNat))
  | .xor => some (.int k (k.wrap (BitVec.ofInt k.bits x ^^^ BitVec.ofInt k.bits y).toNat))
  | .andNot => some (.int k (k.wrap (BitVec.ofInt k.bits x &&& ~~~(BitVec.ofInt k.bits y)).toNat))
  | .eql => some (.bool (x == y))
  | .neq => some (.bool (x != y))
  | .lss => some (.bool (x < y))
  | .leq => some (.bool (x ≤ y))
  | .gtr => some (.bool (x > y))
  | .geq => some (.bool (x ≥ y))
  | .shl | .shr => none

def shiftOp (op : BinOp) (k : IntKind) (x y : Int) : Option DV :=
  if y < 0 then none else match op with
  | .shl => some (.int k (k.wrap (x * 2 ^ (min y.toNat k.bits))))
  | .shr => some (.int k (x.fdiv (2 ^ (min y.toNat k.bits))))
  | _ => none

/-- The longest text and the greatest number of bytes of a row that D makes. -/
def most : Nat := 2 ^ 40

def strOp (op : BinOp) (x y : List UInt8) : Option DV := match op with
  | .add => if x.length + y.length ≤ most then some (.str (x ++ y)) else none
  | .eql => some (.bool (x == y))
  | .neq => some (.bool (!(x == y)))
  | .lss => some (.bool (Op.bytesLess x y))
  | .leq => some (.bool (Op.bytesLess x y || x == y))
  | .gtr => some (.bool (!(Op.bytesLess x y || x == y)))
  | .geq => some (.bool (!(Op.bytesLess x y)))
  | _ => none

def DV.isNilIface : DV → Bool
  | .nilIface => true
  | _ => false

def DV.isAgg : DV → Bool
  | .agg _ => true
  | _ => false

def binD (P : TT) (op : BinOp) (t : TypeId) (x y : DV) : Option DV := match x, y with
  | .int k a, .int k' b => match op with
    | .shl | .shr => shiftOp op k a b
    | _ => if k = k' then intOp op k a b else none
  | .str a, .str b => strOp op a b
  | x, y =>
    if x.isNilIface && y.isNilIface then none else
    if x.isAgg && !P.cmp t then none else
    match op with
    | .eql => (eqD P Op.maxDepth t x y).map .bool
    | .neq => (eqD P Op.maxDepth t x y).map fun b => .bool (!b)
    | _ => none

def unD (op : UnOp) (x : DV) : Option DV := match op, x with
  | .neg, .int k n => some (.int k (k.wrap (0 - n)))
  | .xor, .int k n => some (.int k (k.wrap (BitVec.ofInt k.bits (if k.signed then -1 else k.max) ^^^ BitVec.ofInt k.bits n).toNat))
  | .not, .bool b => some (.bool (!b))
  | _, _ => none

def bytesOf : List DV → Option (List UInt8)
  | [] => some []
  | .int .u8 n :: l => (bytesOf l).map (UInt8.ofNat n.toNat :: ·)
  | _ :: _ => none

def ofBytes (s : List UInt8) : List DV := s.map fun b => .int .u8 b.toNat

def convD (P : TT) (src dst : TypeId) (x : DV) (h : H) : Option (DV × H) := match und P src, und P dst, x with
  | some _, some (.int k), .int _ n => some (.int k (k.wrap n), h)
  | some _, some .string, .str s => some (.str s, h)
  | some (.slice e), some .string, .slice none _ _ _ => match und P e with
    | some (.int .u8) => some (.str [], h)
    | _ => none
  | some (.slice e), some .string, .slice (some a) n _ _ => match und P e with
    | some (.int .u8) => match h.ldn a n with
      | some cs => (bytesOf cs).map fun s => (.str s, h)
      | none => none
    | _ => none
  | some (.slice _), some (.slice e), .slice (some a) n c z => match und P e with
    | some (.int .u8) => if src = dst ∧ h.ro ≤ a.1 ∧ (h.cells a.1).isSome = true then some (.slice (some a) n c z, h) else none
    | _ => none
  | some _, some (.slice e), .str s => match und P e, tsize P e with
    | some (.int .u8), some 1 => if s.length ≤ most then some (.slice (some (h.next, 0)) s.length none 1, h.new (.cells (ofBytes s))) else none
    | _, _ => none
  | _, _, _ => none

/-- Parts put into cells. -/
def fillD (place : Nat → Option (Nat × Nat)) (cells : List DV) : List (Nat × DV) → Option (List DV)
  | [] => some cells
  | (i, v) :: rest => match place i with
    | none => none
    | some (off, size) =>
      if v.cellsOf.length = size ∧ off + v.cellsOf.length ≤ cells.length then fillD place (splice cells off v.cellsOf) rest else none

def repeatD (zero : List DV) : Nat → List DV
  | 0 => []
  | n + 1 => zero ++ repeatD zero n

def structPlace (P : TT) (fs : Array Field) (i : Nat) : Option (Nat × Nat) := match fs[i]? with
  | some f => (tsize P f.type).map fun n => (f.offset, n)
  | none => none

def buildD (P : TT) (t : TypeId) (parts : List (Nat × DV)) : Option DV := match tzero P t, und P t with
  | some z, some (.struct fs) =>
    if fs.toList.all fun f => (tsize P f.type).isSome then (fillD (structPlace P fs) z.cellsOf parts).map .agg else none
  | some z, some (.array _ e) => match tsize P e with
    | some size => (fillD (fun i => some (i * size, size)) z.cellsOf parts).map .agg
    | none => none
  | _, _ => none

def buildSliceD (P : TT) (t : TypeId) (len : Nat) (parts : List (Nat × DV)) (h : H) : Option (DV × H) :=
  match telem P t with
  | none => none
  | some e => match tsize P e, tzero P e with
    | some size, some z =>
      if z.cellsOf.length = size ∧ 0 < size ∧ len * size ≤ 2 ^ 24 then
        match fillD (fun i => some (i * size, size)) (repeatD z.cellsOf len) parts with
        | some cells => some (.slice (some (h.next, 0)) len (some len) size, h.new (.cells cells))
        | none => none
      else none
    | _, _ => none

def loadD (P : TT) (t : TypeId) (a : DV) (h : H) : Option DV := match a with
  | .ptr (some r) => match tagg P t, tsize P t with
    | some true, some n => (h.ldn r n).map .agg
    | some false, _ => h.ld r
    | _, _ => none
  | _ => none

def storeD (P : TT) (t : TypeId) (a v : DV) (h : H) : Option H := match a with
  | .ptr (some r) => match tsize P t with
    | some n => if v.cellsOf.length = n then h.st r v.cellsOf else none
    | none => none
  | _ => none

def makeSliceD (P : TT) (t : TypeId) (l c : DV) (h : H) : Option (DV × H) := match telem P t, l, c with
  | some e, .int _ l, .int _ c => match tsize P e, tbytes P e, tzero P e with
    | some size, some bytes, some z =>
      if 0 ≤ l ∧ l ≤ c ∧ c.toNat * bytes ≤ most ∧ c ≤ most ∧ z.cellsOf.length = size ∧ 0 < size then
        some (.slice (some (h.next, 0)) l.toNat (some c.toNat) size, h.new (.cells (repeatD z.cellsOf c.toNat)))
      else none
    | _, _, _ => none
  | _, _, _ => none

def boundD (d : Nat) (x : Option DV) (y : Nat) : Option Nat := match x with
  | none => some d
  | some (.int _ i) => if 0 ≤ i ∧ i ≤ y then some i.toNat else none
  | some _ => none

def sliceD (P : TT) (t : TypeId) (x : DV) (lo hi mx : Option DV) : Option DV := match und P t, x with
  | some .string, .str s =>
    if mx.isSome then none else
    match boundD s.length hi s.length with
    | none => none
    | some h => match boundD 0 lo h with
      | none => none
      | some l => some (.str ((s.drop l).take (h - l)))
  | some (.slice e), .slice a len cap sz => match tsize P e with
    | none => none
    | some size =>
      if a.isSome && sz != size then none else
      match cap with
      | some c => match boundD c mx c with
        | none => none
        | some m => if hi.isNone && mx.isSome then none else match boundD len hi m with
          | none => none
          | some h => match boundD 0 lo h with
            | none => none
            | some l => some (.slice (a.map fun r => if m = l then r else (r.1, r.2 + l * size)) (h - l) (some (m - l)) sz)
      | none => match mx with
        | none => match boundD len hi len with
          | none => none
          | some h => match boundD 0 lo h with
            | none => none
            | some l => some (.slice (a.map fun r => (r.1, r.2 + l * size)) (h - l) none sz)
        | some mv => match boundD len (some mv) len with
          | none => none
          | some m => if hi.isNone then none else match boundD len hi m with
            | none => none
            | some h => match boundD 0 lo h with
              | none => none
              | some l => some (.slice (a.map fun r => if m = l then r else (r.1, r.2 + l * size)) (h - l) (some (m - l)) sz)
  | _, _ => none

def indexAddrD (P : TT) (t : TypeId) (x i : DV) : Option DV := match und P t, x, i with
  | some (.slice e), .slice (some r) len _ _, .int _ i => match tsize P e with
    | some size => if 0 ≤ i ∧ i < len then some (.ptr (some (r.1, r.2 + i.toNat * size))) else none
    | none => none
  | some (.array len e), .ptr (some r), .int _ i => match tsize P e with
    | some size => if 0 ≤ i ∧ i < len then some (.ptr (some (r.1, r.2 + i.toNat * size))) else none
    | none => none
  | _, _, _ => none

def indexD (P : TT) (t : TypeId) (x i : DV) : Option DV := match und P t, x, i with
  | some (.array len e), .agg cs, .int _ i => match tsize P e with
    | some size => if 0 ≤ i ∧ i < len then partD P e cs (i.toNat * size) else none
    | none => none
  | some .string, .str s, .int _ i => if 0 ≤ i then (s[i.toNat]?).map fun b => .int .u8 b.toNat else none
  | _, _, _ => none

def fieldAddrD (P : TT) (s : TypeId) (x : DV) (f : Nat) : Option DV := match tfield P s f, x with
  | some fd, .ptr (some r) => match tsize P fd.type with
    | some (_ + 1) => some (.ptr (some (r.1, r.2 + fd.offset)))
    | _ => none
  | _, _ => none

def fieldD (P : TT) (s : TypeId) (x : DV) (f : Nat) : Option DV := match tfield P s f, x with
  | some fd, .agg cs => partD P fd.type cs fd.offset
  | _, _ => none

def mapOf (h : H) (r : Nat) : Option (List (DV × DV)) := match h.get r with
  | some (.map es) => some es
  | _ => none

def lookupD (P : TT) (t : TypeId) (x k : DV) (ok : Bool) (h : H) : Option DV := match und P t, x with
  | some (.map kt et), .map r =>
    match (match r with | none => some [] | some r => mapOf h r), tzero P et with
    | some es, some z =>
      if checkD P 10000 kt k then
        match findD P kt k es with
        | some (some (_, v)) => some (if ok then .tup [v, .bool true] else v)
        | some none => some (if ok then .tup [z, .bool false] else z)
        | none => none
      else none
    | _, _ => none
  | _, _ => none

mutual
/-- The same, as data. -/
def DV.same : DV → DV → Bool
  | .bool a, .bool b => a == b
  | .int j a, .int k b => j == k && a == b
  | .str a, .str b => a == b
  | .agg a, .agg b => DV.sames a b
  | _, _ => false
def DV.sames : List DV → List DV → Bool
  | [], [] => true
  | a :: x, b :: y => DV.same a b && DV.sames x y
  | _, _ => false
end

def mapUpdateD (P : TT) (t : TypeId) (x k v : DV) (h : H) : Option H := match und P t, x with
  | some (.map kt _), .map (some r) => match mapOf h r with
    | some es =>
      if checkD P 10000 kt k = true ∧ h.ro ≤ r then
        match findD P kt k es with
        | some (some (i, _)) => match es[i]? with
          | some e => if DV.same e.1 k then some (h.put r (.map (es.set i (k, v)))) else none
          | none => none
        | some none => some (h.put r (.map (es ++ [(k, v)])))
        | none => none
      else none
    | none => none
  | _, _ => none

def assertD (P : TT) (x : DV) (t : TypeId) (ok : Bool) : Option DV := match und P t with
  | none => none
  | some (.interface _) => none
  | some _ => match x with
    | .iface u v => if u = t then some (if ok then .tup [v, .bool true] else v)
      else if ok then (tzero P t).map fun z => .tup [z, .bool false] else none
    | .nilIface => if ok then (tzero P t).map fun z => .tup [z, .bool false] else none
    | _ => none

def lenD (P : TT) (t : TypeId) (x : DV) (h : H) : Option DV := match und P t, x with
  | some .string, .str s => some (.int .i64 s.length)
  | some (.array n _), .agg _ => some (.int .i64 n)
  | some (.slice _), .slice _ n _ _ => some (.int .i64 n)
  | some (.map _ _), .map none => some (.int .i64 0)
  | some (.map _ _), .map (some r) => (mapOf h r).map fun es => .int .i64 es.length
  | _, _ => none

/-- The first n elements of a slice or a text, as cells. -/
def srcCells (h : H) (sz n : Nat) : DV → Option (List DV)
  | .slice (some r) _ _ _ => h.ldn r (n * sz)
  | .slice none _ _ _ => some []
  | .str s => some (ofBytes (s.take n))
  | _ => none

def srcLen : DV → Option Nat
  | .slice _ n _ _ => some n
  | .str s => some s.length
  | _ => none

def isSeq : TypeDesc → Bool
  | .slice _ => true
  | .string => true
  | _ => false

def appendD (P : TT) (t xt : TypeId) (s x : DV) (h : H) : Option (DV × H) := match telem P t, und P xt, s with
  | some e, some u, .slice base len cap sz => match tsize P e, tbytes P e, srcLen x, tzero P e with
    | some (size + 1), some (bytes + 1), some n, some z =>
      if isSeq u = false then none else
      if n = 0 then some (s, h) else
      if ¬ ((len + n) * (size + 1) ≤ most ∧ (len + n) * (bytes + 1) ≤ most ∧ z.cellsOf.length = size + 1) then none else
      match srcCells h (size + 1) n x with
      | none => none
      | some new =>
        if new.all DV.flat = false ∨ new.length ≠ n * (size + 1) then none else
        match base with
        | none => if len = 0 then some (.slice (some (h.next, 0)) n none (size + 1), h.new (.cells new)) else none
        | some r =>
          if sz ≠ size + 1 then none else
          match cap with
          | some c =>
            if len + n ≤ c then (h.st (r.1, r.2 + len * sz) new).map fun h' => (.slice (some r) (len + n) (some c) sz, h')
            else match h.ldn r (len * sz) with
              | some old => some (.slice (some (h.next, 0)) (len + n) none sz, h.new (.cells (old ++ new)))
              | none => none
          | none =>
            if h.ro ≤ r.1 then match h.ldn r (len * sz) with
              | some old => some (.slice (some (h.next, 0)) (len + n) none sz, (h.put r.1 .dead).new (.cells (old ++ new)))
              | none => none
            else none
    | _, _, _, _ => none
  | _, _, _ => none

def copyD (P : TT) (t : TypeId) (d x : DV) (h : H) : Option (DV × H) := match telem P t, d, srcLen x with
  | some e, .slice base dl _ _, some n => match tsize P e with
    | some size =>
      if min n dl = 0 then some (.int .i64 0, h) else
      match srcCells h size (min n dl) x, base with
      | some cs, some r => (h.st r cs).map fun h' => (.int .i64 (min n dl : Nat), h')
      | _, _ => none
    | none => none
  | _, _, _ => none

def max2D : DV → DV → Option DV
  | .int k x, .int k' y => if k = k' then some (.int k (if y > x then y else x)) else none
  | _, _ => none
def min2D : DV → DV → Option DV
  | .int k x, .int k' y => if k = k' then some (.int k (if y < x then y else x)) else none
  | _, _ => none
def foldD (f : DV → DV → Option DV) : DV → List DV → Option DV
  | x, [] => some x
  | x, y :: l => (f x y).bind fun z => foldD f z l

def builtinD (P : TT) (b : Builtin) (ts : Array TypeId) (args : List DV) (h : H) : Option (DV × H) := match b, ts.toList, args with
  | .len, [t], [x] => (lenD P t x h).map (·, h)
  | .append, [t, xt], [s, x] => appendD P t xt s x h
  | .copy, [t, _], [d, x] => copyD P t d x h
  | .max, _, x :: l => (foldD max2D x l).map (·, h)
  | .min, _, x :: l => (foldD min2D x l).map (·, h)
  | _, _, _ => none

end Go.D
