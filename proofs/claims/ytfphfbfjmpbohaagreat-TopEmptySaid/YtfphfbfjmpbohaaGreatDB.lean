/-
  The interpreter D, its second part: one operation, a region, code, a call.
-/
import Derived.Test.YtfphfbfjmpbohaaGreatDA
namespace Go.D

def assoc : List (Nat × DV) → Nat → Option DV
  | [], _ => none
  | (k, v) :: l, t => bif Nat.beq k t then some v else assoc l t
def upd : List (Nat × DV) → Nat → DV → List (Nat × DV)
  | [], _, _ => []
  | (k, v) :: l, t, x => bif Nat.beq k t then (k, x) :: l else (k, v) :: upd l t x

/-- What the slots hold: the named ones; the others that the last region wrote. -/
structure E where
  vs : List (Nat × DV)
  ts : List (Nat × DV)
  deriving Inhabited

def E.get (e : E) (t : Nat) : Option DV := match assoc e.vs t with
  | some v => some v
  | none => assoc e.ts t
def E.put (e : E) (dst : Option Nat) (v : DV) : E := match dst with
  | none => e
  | some t => match assoc e.vs t with
    | some _ => { vs := upd e.vs t v, ts := e.ts }
    | none => { vs := e.vs, ts := (t, v) :: e.ts }
def E.eval (e : E) : Operand → Option DV
  | .tmp t => e.get t
  | .const v => cv v
  | .global _ => none
  | .func f => some (.func f [])
def E.all (e : E) : List Operand → Option (List DV)
  | [] => some []
  | x :: l => match e.eval x, e.all l with
    | some v, some vs => some (v :: vs)
    | _, _ => none
def E.opt (e : E) : Option Operand → Option (Option DV)
  | none => some none
  | some x => (e.eval x).map some
def E.parts (e : E) : List (Nat × Operand) → Option (List (Nat × DV))
  | [] => some []
  | (i, x) :: l => match e.eval x, e.parts l with
    | some v, some vs => some ((i, v) :: vs)
    | _, _ => none

abbrev CallF := FuncId → List DV → H → Option (DV × H)

def methodD (P : TT) (t : TypeId) (name : String) : Option FuncId := match P.info t, und P t with
  | some i, some (.pointer _) => match i.methods.find? (·.name == name) with
    | some m => if m.path.isEmpty then match m.func with
        | some (f, true) => some f
        | _ => none
      else none
    | none => none
  | _, _ => none

def nilCheckD : DV → Option DV
  | .ptr (some r) => some (.ptr (some r))
  | .func f cs => some (.func f cs)
  | .iface t v => some (.iface t v)
  | _ => none

/-- One operation: its value, the heap. -/
def opD (P : TT) (call : CallF) (e : E) (op : Op) (h : H) : Option (DV × H) := match op with
  | .move x | .assign x => (e.eval x).map (·, h)
  | .pick c a b => match e.eval c with
    | some (.bool true) => (e.eval a).map (·, h)
    | some (.bool false) => (e.eval b).map (·, h)
    | _ => none
  | .alloc t => (tzero P t).map fun z => (.ptr (some (h.next, 0)), h.new (.cells z.cellsOf))
  | .box _ x => (e.eval x).map fun v => (.ptr (some (h.next, 0)), h.new (.cells v.cellsOf))
  | .build t ps => match e.parts ps.toList with
    | some vs => (buildD P t vs).map (·, h)
    | none => none
  | .buildSlice t n ps => match e.parts ps.toList with
    | some vs => buildSliceD P t n vs h
    | none => none
  | .load t a => match e.eval a with
    | some a => (loadD P t a h).map (·, h)
    | none => none
  | .store t a v => match e.eval a, e.eval v with
    | some a, some v => (storeD P t a v h).map (.tup [], ·)
    | _, _ => none
  | .nilCheck x => match e.eval x with
    | some v => (nilCheckD v).map (·, h)
    | none => none
  | .binOp op t x y _ => match e.eval x, e.eval y with
    | some x, some y => (binD P op t x y).map (·, h)
    | _, _ => none
  | .unOp op _ x => match e.eval x with
    | some x => (unD op x).map (·, h)
    | none => none
  | .convert s d x => match e.eval x with
    | some x => convD P s d x h
    | none => none
  | .makeInterface t x => match und P t, e.eval x with
    | some (.interface _), _ => none
    | some _, some v => some (.iface t v, h)
    | _, _ => none
  | .makeFunc (.func f) first caps => if first.isEmpty then (e.all caps.toList).map fun vs => (.func f vs, h) else none
  | .makeMap t none => match und P t with
    | some (.map _ _) => some (.map (some h.next), h.new (.map []))
    | _ => none
  | .makeSlice t l c => match e.eval l, e.eval c with
    | some l, some c => makeSliceD P t l c h
    | _, _ => none
  | .slice t x lo hi mx => match e.eval x, e.opt lo, e.opt hi, e.opt mx with
    | some x, some lo, some hi, some mx => (sliceD P t x lo hi mx).map (·, h)
    | _, _, _, _ => none
  | .fieldAddr s x f => match e.eval x with
    | some x => (fieldAddrD P s x f).map (·, h)
    | none => none
  | .field s x f => match e.eval x with
    | some x => (fieldD P s x f).map (·, h)
    | none => none
  | .indexAddr t x i => match e.eval x, e.eval i with
    | some x, some i => (indexAddrD P t x i).map (·, h)
    | _, _ => none
  | .index t x i => match e.eval x, e.eval i with
    | some x, some i => (indexD P t x i).map (·, h)
    | _, _ => none
  | .lookup t x k ok => match e.eval x, e.eval k with
    | some x, some k => (lookupD P t x k ok h).map (·, h)
    | _, _ => none
  | .mapUpdate t x k v => match e.eval x, e.eval k, e.eval v with
    | some x, some k, some v => (mapUpdateD P t x k v h).map (.tup [], ·)
    | _, _, _ => none
  | .typeAssert x _ t ok => match e.eval x with
    | some x => (assertD P x t ok).map (·, h)
    | none => none
  | .extract x i => match e.eval x with
    | some (.tup vs) => (vs[i]?).map (·, h)
    | _ => none
  | .call c => match c.callee with
    | .builtin b => match e.all c.args.toList with
      | some vs => builtinD P b c.argTypes vs h
      | none => none
    | .value f => match e.eval f, e.all c.args.toList with
      | some (.func f caps), some vs => call f (vs ++ caps) h
      | _, _ => none
    | .invoke x name => match e.eval x, e.all c.args.toList with
      | some (.iface t v), some vs => match methodD P t name with
        | some f => call f (v :: vs) h
        | none => none
      | _, _ => none
  | _ => none

/-- Is an operation wanted? none: it is not known. -/
def wantedD (ops : List Oper) (o : Oper) (e : E) : Option Bool := match o.guard with
  | none => some true
  | some (j, want) => match (ops[j]?).bind (·.dst) with
    | none => some false
    | some d => match e.get d with
      | some (.bool b) => some (b == want)
      | some _ => some false
      | none => none

/-- How a call in a region that draws is made: 'bar' tells the slots of those that stand apart from all else. -/
def callOf (call qcall : CallF) (bar : List Nat) (o : Oper) : CallF := match o.dst with
  | some d => if bar.contains d then call else qcall
  | none => qcall

def stepD (P : TT) (call : CallF) (ops : List Oper) (o : Oper) (e : E) (h : H) : Option (E × H) :=
  match wantedD ops o e with
  | some true => match opD P call e o.op h with
    | some (v, h') => some (e.put o.dst v, h')
    | none => none
  | some false => some (e.put o.dst (.tup []), h)
  | none => none

def opsD (P : TT) (call : Oper → CallF) (ops : List Oper) : List Oper → E → H → Option (E × H)
  | [], e, h => some (e, h)
  | o :: rest, e, h => match stepD P (call o) ops o e h with
    | some (e', h') => opsD P call ops rest e' h'
    | none => none

/-- A call that writes to nothing that is there. -/
def quiet (call : CallF) : CallF := fun f args h => match call f args { h with ro := h.next } with
  | some (v, h') => some (v, { h' with ro := h.ro })
  | none => none

/-- What is told of a function: its named slots beside the parameters; of the regions that draw the calls' slots that stand apart from all else; pairs of addresses of which no two are one. -/
structure Meta where
  named : List Nat
  bars : List (Nat × List Nat)
  chks : List (Nat × List (Nat × Nat))
  deriving Inhabited

def apartV : DV → DV → Bool
  | .ptr (some a), .ptr (some b) => a.1 != b.1
  | .slice (some a) _ _ _, .ptr (some b) => a.1 != b.1
  | .slice none _ _ _, .ptr (some _) => true
  | .ptr (some _), .slice _ _ _ _ => true
  | .tup [], _ => true
  | _, .tup [] => true
  | _, _ => false

def apartD (e : E) : List (Nat × Nat) → Bool
  | [] => true
  | (x, y) :: l => (match e.get x, e.get y with
    | some a, some b => apartV a b
    | _, _ => false) && apartD e l

def chkOf {α : Type} : List (Nat × List α) → Nat → List α
  | [], _ => []
  | (k, l) :: r, id => bif Nat.beq k id then l else chkOf r id

def regionD (P : TT) (m : Meta) (call : CallF) (id : Nat) (ops : List Oper) (draw : Bool) (e : E) (h : H) : Option (E × H) :=
  if draw then
    match opsD P (callOf call (quiet call) (chkOf m.bars id)) ops ops { vs := e.vs, ts := [] } h with
    | some (e', h') => if apartD e' (chkOf m.chks id) then some (e', h') else none
    | none => none
  else opsD P (fun _ => call) ops ops { vs := e.vs, ts := [] } h

inductive Ex where
  | normal
  | exit (id : Nat)
  | ret
  deriving Inhabited

def loopD (body : E → H → Option (Ex × E × H)) : Nat → E → H → Option (Ex × E × H)
  | 0, _, _ => none
  | n + 1, e, h => match body e h with
    | some (.normal, e', h') => loopD body n e' h'
    | r => r

def codeD (P : TT) (m : Meta) (call : CallF) (n : Nat) : Code → E → H → Option (Ex × E × H)
  | .skip, e, h => some (.normal, e, h)
  | .region id ops draw, e, h => match regionD P m call id ops.toList draw e h with
    | some (e', h') => some (.normal, e', h')
    | none => none
  | .seq a b, e, h => match codeD P m call n a e h with
    | some (.normal, e', h') => codeD P m call n b e' h'
    | r => r
  | .cond c a b, e, h => match e.eval c with
    | some (.bool true) => codeD P m call n a e h
    | some (.bool false) => codeD P m call n b e h
    | _ => none
  | .block id body, e, h => match codeD P m call n body e h with
    | some (.exit id', e', h') => if id' = id then some (.normal, e', h') else some (.exit id', e', h')
    | r => r
  | .loop body, e, h => loopD (codeD P m call n body) n e h
  | .exit id, e, h => some (.exit id, e, h)
  | .ret, e, h => some (.ret, e, h)
  | _, _, _ => none

def resultD (P : TT) (e : E) (h : H) : ResultVar → Option DV
  | .tmp t => e.get t
  | .cell a t => match e.get a with
    | some a => loadD P t a h
    | none => none

def resultsD (P : TT) (e : E) (h : H) : List ResultVar → Option (List DV)
  | [] => some []
  | r :: l => match resultD P e h r, resultsD P e h l with
    | some v, some vs => some (v :: vs)
    | _, _ => none

def one : List DV → DV
  | [v] => v
  | vs => .tup vs

/-- The types, the functions that are walked, those that are told by a contract. -/
structure Cfg where
  P : TT
  fn : FuncId → Option (Func × Meta)
  ora : FuncId → Option (List DV → H → Option (DV × H))

def params : Nat → List DV → List (Nat × DV)
  | _, [] => []
  | i, v :: l => (i, v) :: params (i + 1) l

def bodyD (P : TT) (call : CallF) (n : Nat) (fn : Func) (m : Meta) (args : List DV) (h : H) : Option (DV × H) := match fn.body with
  | none => none
  | some body => match codeD P m call n body { vs := params 0 args ++ m.named.map fun t => (t, .tup []), ts := [] } h with
    | some (.normal, e, h') | some (.ret, e, h') => (resultsD P e h' fn.results.toList).map fun vs => (one vs, h')
    | _ => none

def callD (c : Cfg) : Nat → CallF
  | 0, _, _, _ => none
  | n + 1, f, args, h => match c.ora f with
    | some g => g args h
    | none => match c.fn f with
      | some (fn, m) => bodyD c.P (callD c n) n fn m args h
      | none => none

end Go.D
