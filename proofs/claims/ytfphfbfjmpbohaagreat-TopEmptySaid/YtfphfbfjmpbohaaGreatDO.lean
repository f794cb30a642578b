/-
  What slices.SortedFunc(maps.Keys(m), row) answers, over D's heap: the keys in their row.
-/
import Derived.Test.YtfphfbfjmpbohaaGreatDB
namespace Go.D

/-- Cells one by one: is the first row ahead of the second, or the same? -/
def cellLe : DV → DV → Bool
  | .int _ a, .int _ b => a ≤ b
  | .bool a, .bool b => !a || b
  | _, _ => false
def cellEq : DV → DV → Bool
  | .int _ a, .int _ b => a == b
  | .bool a, .bool b => a == b
  | _, _ => false
def rowLe : List DV → List DV → Bool
  | a :: x, b :: y => if cellEq a b then rowLe x y else cellLe a b
  | [], _ => true
  | _, _ => false

def insertD (x : List DV) : List (List DV) → List (List DV)
  | [] => [x]
  | y :: l => if rowLe x y then x :: y :: l else y :: insertD x l
def sortD : List (List DV) → List (List DV)
  | [] => []
  | x :: l => insertD x (sortD l)

/-- Keys of the two kinds. -/
def wfE : DV → Bool
  | .agg [.int .i64 _, .int .i64 _, .bool _] => true
  | _ => false
def wfK : DV → Bool
  | .agg [.int .i64 _, .int .i64 _, .int .i64 _, .int .i64 _, .int .i64 _, .int .i64 _, .int .i64 _] => true
  | _ => false

/-- The keys of the map behind a closure of maps.Keys, sorted. keys: the closure's function; row: the comparison's; sz: cells a key; wf: the keys' kind. -/
def sortedOra (keys row : FuncId) (sz : Nat) (wf : DV → Bool) (args : List DV) (h : H) : Option (DV × H) := match args with
  | [.func k [.ptr (some r)], .func c []] =>
    if k = keys ∧ c = row then
      match h.ld r with
      | some (.map (some m)) => match mapOf h m with
        | some [] => some (.slice none 0 (some 0) 0, h)
        | some es => if (es.all (fun e => wf e.1) && Nat.ble es.length 1000000000) = true then some (.slice (some (h.next, 0)) es.length none sz, h.new (.cells (sortD (es.map (·.1.cellsOf))).flatten)) else none
        | none => none
      | _ => none
    else none
  | _ => none

/-! strings.Builder: the check of its own address; its text. The search of a byte. -/

def copyOra (args : List DV) (h : H) : Option (DV × H) := match args with
  | [.ptr (some r)] => match h.ld r with
    | some (.ptr none) => (h.st r [.ptr (some r)]).map (.tup [], ·)
    | some (.ptr (some r')) => if r' = r then some (.tup [], h) else none
    | _ => none
  | _ => none

def textOra (args : List DV) (h : H) : Option (DV × H) := match args with
  | [.ptr (some r)] => match h.ld (r.1, r.2 + 1) with
    | some (.slice none _ _ _) => some (.str [], h)
    | some (.slice (some r) n _ _) => match h.ldn r n with
      | some ds => (bytesOf ds).map fun s => (.str s, h)
      | none => none
    | _ => none
  | _ => none

def indexB (c : Int) : List UInt8 → Nat → Int
  | [], _ => -1
  | b :: l, i => if (b.toNat : Int) = c then i else indexB c l (i + 1)
def indexOra (args : List DV) (h : H) : Option (DV × H) := match args with
  | [.str s, .int .u8 c] => if 0 ≤ c ∧ c < 256 then some (.int .i64 (indexB c s 0), h) else none
  | _ => none

end Go.D
