/-
  K: operations, regions, code, calls.
-/
import Derived.Test.YtfphfbfjmpbohaaGreatDKa
namespace Go.D
namespace K

/-- A call, by continuation. -/
abbrev CallK (R : Type) := FuncId → List DV → H → (DV → H → R) → R → R

section
variable {R : Type}

/-- K's call is D's. -/
def Is (cK : CallK R) (c : CallF) : Prop := ∀ f args h k fl, cK f args h k fl = (c f args h).elim fl fun r => k r.1 r.2

def touch : List DV → Nat
  | .slice (some r) _ _ _ :: _ => r.1
  | .map (some r) :: _ => r
  | _ => 0

/-- An operation that is D's own, its answer forced. -/
noncomputable def out (i : Nat) (x : Option (DV × H)) (k : DV → H → R) (f : R) : R := ob x (fun r => heap i r.2 fun h => val r.1 fun v => k v h) f
theorem out_eq (i : Nat) (x : Option (DV × H)) (k : DV → H → R) (f : R) : out i x k f = x.elim f fun r => k r.1 r.2 := by
  simp only [out, ob_eq, heap_eq, val_eq]
/-- A value that is D's own, forced; the heap stays. -/
noncomputable def pure (x : Option DV) (h : H) (k : DV → H → R) (f : R) : R := ob x (fun v => val v fun v => k v h) f
theorem pure_eq (x : Option DV) (h : H) (k : DV → H → R) (f : R) : pure x h k f = (x.map (·, h)).elim f fun r => k r.1 r.2 := by
  simp only [pure, ob_eq, val_eq]
  cases x <;> rfl

variable (T : TT)

noncomputable def op (call : CallK R) (e : E) (o : Op) (h : H) (k : DV → H → R) (f : R) : R := match o with
  | .move x => ev e x (fun v => k v h) f
  | .assign x => ev e x (fun v => k v h) f
  | .nilCheck x => ev e x (fun v => ob (nilCheckD v) (fun v => k v h) f) f
  | .load t a => ev e a (fun a => load T t a h (fun v => val v fun v => k v h) f) f
  | .store t a v => ev e a (fun a => ev e v (fun v => store T t a v h (fun h => k (.tup []) h) f) f) f
  | .alloc t => ob (tzero T t) (fun z => list z.cellsOf fun cs => new h (.cells cs) fun h' => k (.ptr (some (h.next, 0))) h') f
  | .box _ x => ev e x (fun v => list v.cellsOf fun cs => new h (.cells cs) fun h' => k (.ptr (some (h.next, 0))) h') f
  | .binOp b t x y _ => ev e x (fun x => ev e y (fun y => pure (binD T b t x y) h k f) f) f
  | .unOp u _ x => ev e x (fun x => pure (unD u x) h k f) f
  | .fieldAddr s x i => ev e x (fun x => pure (fieldAddrD T s x i) h k f) f
  | .field s x i => ev e x (fun x => pure (fieldD T s x i) h k f) f
  | .indexAddr t x i => ev e x (fun x => ev e i (fun i => pure (indexAddrD T t x i) h k f) f) f
  | .index t x i => ev e x (fun x => ev e i (fun i => pure (indexD T t x i) h k f) f) f
  | .extract x i => ev e x (fun x => match x with
    | .tup vs => nth vs i (fun v => k v h) f
    | _ => f) f
  | .lookup t x y ok => ev e x (fun x => ev e y (fun y => pure (lookupD T t x y ok h) h k f) f) f
  | .mapUpdate t x y v => ev e x (fun x => ev e y (fun y => ev e v (fun v => ob (mapUpdateD T t x y v h) (fun h' => heap (touch [x]) h' fun h' => k (.tup []) h') f) f) f) f
  | .call c => match c.callee with
    | .builtin b => all e c.args.toList (fun vs => out (touch vs) (builtinD T b c.argTypes vs h) k f) f
    | .value g => ev e g (fun g => match g with
      | .func g caps => all e c.args.toList (fun vs => list (vs ++ caps) fun vs => call g vs h k f) f
      | _ => f) f
    | .invoke x name => ev e x (fun x => match x with
      | .iface t v => all e c.args.toList (fun vs => ob (methodD T t name) (fun g => call g (v :: vs) h k f) f) f
      | _ => f) f
  | o => out 0 (opD T (fun _ _ _ => none) e o h) k f

theorem op_eq {call : CallK R} {c : CallF} (hc : Is call c) (e : E) (o : Op) (h : H) (k : DV → H → R) (f : R) : op T call e o h k f = (opD T c e o h).elim f fun r => k r.1 r.2 := by
  cases o <;> simp only [op, opD, ev_eq, ob_eq, pure_eq, out_eq, load_eq, store_eq, list_eq, new_eq, val_eq, nth_eq, heap_eq, all_eq]
  case makeFunc fn first caps => cases fn <;> rfl
  case makeMap t r => cases r <;> rfl
  case move x => cases e.eval x <;> rfl
  case assign x => cases e.eval x <;> rfl
  case nilCheck x => cases e.eval x with
    | none => rfl
    | some v => simp only [Option.elim]; cases nilCheckD v <;> rfl
  case load t a => cases e.eval a with
    | none => rfl
    | some v => simp only [Option.elim]; cases loadD T t v h <;> rfl
  case store t a v => cases e.eval a with
    | none => rfl
    | some a => cases e.eval v with
      | none => rfl
      | some v => simp only [Option.elim]; cases storeD T t a v h <;> rfl
  case alloc t => cases tzero T t <;> rfl
  case box t x => cases e.eval x <;> rfl
  case binOp b t x y u => cases e.eval x with
    | none => rfl
    | some x => cases e.eval y with
      | none => rfl
      | some y => simp only [Option.elim]
  case unOp u t x => cases e.eval x with
    | none => rfl
    | some x => simp only [Option.elim]
  case fieldAddr s x i => cases e.eval x with
    | none => rfl
    | some x => simp only [Option.elim]
  case field s x i => cases e.eval x with
    | none => rfl
    | some x => simp only [Option.elim]
  case indexAddr t x y => cases e.eval x with
    | none => rfl
    | some x => cases e.eval y with
      | none => rfl
      | some y => simp only [Option.elim]
  case index t x y => cases e.eval x with
    | none => rfl
    | some x => cases e.eval y with
      | none => rfl
      | some y => simp only [Option.elim]
  case extract x i => cases e.eval x with
    | none => rfl
    | some v =>
      simp only [Option.elim]
      cases v with
      | tup vs => simp only []; cases vs[i]? <;> rfl
      | _ => rfl
  case lookup t x y b => cases e.eval x with
    | none => rfl
    | some x => cases e.eval y with
      | none => rfl
      | some y => simp only [Option.elim]
  case mapUpdate t x y v => cases e.eval x with
    | none => rfl
    | some x => cases e.eval y with
      | none => rfl
      | some y => cases e.eval v with
        | none => rfl
        | some v => simp only [Option.elim]; cases mapUpdateD T t x y v h <;> rfl
  case call cl =>
    obtain ⟨callee, args, ts⟩ := cl
    cases callee with
    | builtin b =>
      simp only []
      cases e.all args.toList <;> rfl
    | value g =>
      simp only []
      cases e.eval g with
      | none => rfl
      | some g =>
        simp only [Option.elim]
        cases g with
        | func g caps =>
          simp only []
          cases e.all args.toList with
          | none => rfl
          | some vs => simp only []; exact hc _ _ _ _ _
        | _ => rfl
    | invoke x name =>
      simp only []
      cases e.eval x with
      | none => rfl
      | some g =>
        simp only [Option.elim]
        cases g with
        | iface t v =>
          simp only []
          cases e.all args.toList with
          | none => rfl
          | some vs =>
            simp only []
            cases methodD T t name with
            | none => rfl
            | some g => simp only []; exact hc _ _ _ _ _
        | _ => rfl

/-- Is it wanted? -/
noncomputable def wanted (ops : List Oper) (o : Oper) (e : E) (k : Bool → R) (f : R) : R := ob o.guard (fun g => ob ((ops[g.1]?).bind (·.dst)) (fun d => slot e d (fun v => match v with
  | .bool b => k (b == g.2)
  | _ => k false) f) (k false)) (k true)
theorem wanted_eq (ops : List Oper) (o : Oper) (e : E) (k : Bool → R) (f : R) : wanted ops o e k f = (wantedD ops o e).elim f k := by
  simp only [wanted, ob_eq, slot_eq, wantedD]
  cases o.guard with
  | none => rfl
  | some g =>
    obtain ⟨j, w⟩ := g
    simp only [Option.elim]
    cases (ops[j]?).bind (·.dst) with
    | none => rfl
    | some d =>
      simp only []
      cases e.get d with
      | none => rfl
      | some v => cases v <;> rfl

noncomputable def step (call : CallK R) (ops : List Oper) (o : Oper) (e : E) (h : H) (k : E → H → R) (f : R) : R :=
  wanted ops o e (fun b => b2 b (op T call e o.op h (fun v h' => into e o.dst v fun e' => k e' h') f) (into e o.dst (.tup []) fun e' => k e' h)) f
theorem step_eq {call : CallK R} {c : CallF} (hc : Is call c) (ops : List Oper) (o : Oper) (e : E) (h : H) (k : E → H → R) (f : R) :
    step T call ops o e h k f = (stepD T c ops o e h).elim f fun r => k r.1 r.2 := by
  simp only [step, wanted_eq, op_eq T hc, into_eq, b2_eq, stepD]
  cases wantedD ops o e with
  | none => rfl
  | some b => cases b with
    | false => rfl
    | true => simp only [Option.elim, cond_true]; cases opD T c e o.op h <;> rfl

noncomputable def ops (call : Oper → CallK R) (allo : List Oper) (l : List Oper) : E → H → (E → H → R) → R → R :=
  List.rec (motive := fun _ => E → H → (E → H → R) → R → R) (fun e h k _ => k e h) (fun o _ ih e h k f => step T (call o) allo o e h (fun e h => ih e h k f) f) l
theorem ops_eq {call : Oper → CallK R} {c : Oper → CallF} (hc : ∀ o, Is (call o) (c o)) (allo : List Oper) : ∀ (l : List Oper) (e : E) (h : H) (k : E → H → R) (f : R),
    ops T call allo l e h k f = (opsD T c allo l e h).elim f fun r => k r.1 r.2
  | [], _, _, _, _ => rfl
  | o :: l, e, h, k, f => by
    show step T (call o) allo o e h (fun e h => ops T call allo l e h k f) f = _
    simp only [step_eq T (hc o), ops_eq hc allo l, opsD]
    cases stepD T (c o) allo o e h <;> rfl

noncomputable def quiet (call : CallK R) : CallK R := fun f args h k fl => call f args ⟨h.tr, h.next, h.next⟩ (fun v h' => H.rec (motive := fun _ => R) (fun t n _ => k v ⟨t, n, h.ro⟩) h') fl
theorem quiet_eq {call : CallK R} {c : CallF} (hc : Is call c) : Is (quiet call) (Go.D.quiet c) := by
  intro f args h k fl
  simp only [quiet, hc f args, Go.D.quiet]
  cases c f args ⟨h.tr, h.next, h.next⟩ with
  | none => rfl
  | some r => obtain ⟨v, t, n, r⟩ := r; rfl

noncomputable def region (m : Meta) (call : CallK R) (id : Nat) (l : List Oper) (draw : Bool) (e : E) (h : H) (k : E → H → R) (f : R) : R :=
  b2 draw (ops T (fun o f args h k fl => b2 (match o.dst with
      | some d => (chkOf m.bars id).contains d
      | none => false) (call f args h k fl) (quiet call f args h k fl)) l l ⟨e.vs, []⟩ h (fun e h => b2 (apartD e (chkOf m.chks id)) (k e h) f) f)
    (ops T (fun _ => call) l l ⟨e.vs, []⟩ h k f)
theorem region_eq {m : Meta} {call : CallK R} {c : CallF} (hc : Is call c) (id : Nat) (l : List Oper) (draw : Bool) (e : E) (h : H) (k : E → H → R) (f : R) :
    region T m call id l draw e h k f = (regionD T m c id l draw e h).elim f fun r => k r.1 r.2 := by
  have hq : ∀ o, Is (fun f args h k fl => b2 (match o.dst with
      | some d => (chkOf m.bars id).contains d
      | none => false) (call f args h k fl) (quiet call f args h k fl)) (callOf c (Go.D.quiet c) (chkOf m.bars id) o) := by
    intro o f args h k fl
    simp only [b2_eq, hc f args, quiet_eq hc f args, callOf]
    cases o.dst with
    | none => rfl
    | some d => simp only []; cases (chkOf m.bars id).contains d <;> rfl
  unfold region
  rw [b2_eq, ops_eq T hq, ops_eq T (c := fun _ => c) (fun _ => hc)]
  unfold regionD
  cases draw with
  | false => simp only [cond_false, Bool.false_eq_true, if_false]
  | true =>
    simp only [cond_true, if_true]
    cases opsD T (callOf c (Go.D.quiet c) (chkOf m.bars id)) l l ⟨e.vs, []⟩ h with
    | none => rfl
    | some r =>
      simp only [Option.elim, b2_eq]
      cases apartD r.1 (chkOf m.chks id) <;> rfl

noncomputable def loop (body : E → H → (Ex → E → H → R) → R → R) (n : Nat) : E → H → (Ex → E → H → R) → R → R :=
  Nat.rec (motive := fun _ => E → H → (Ex → E → H → R) → R → R) (fun _ _ _ f => f) (fun _ ih e h k f => body e h (fun x e h => match x with
    | .normal => ih e h k f
    | x => k x e h) f) n
theorem loop_eq {body : E → H → (Ex → E → H → R) → R → R} {b : E → H → Option (Ex × E × H)} (hb : ∀ e h k f, body e h k f = (b e h).elim f fun r => k r.1 r.2.1 r.2.2) : ∀ (n : Nat) (e : E) (h : H) (k : Ex → E → H → R) (f : R),
    loop body n e h k f = (loopD b n e h).elim f fun r => k r.1 r.2.1 r.2.2
  | 0, _, _, _, _ => rfl
  | n + 1, e, h, k, f => by
    show body e h (fun x e h => match x with
      | .normal => loop body n e h k f
      | x => k x e h) f = _
    rw [hb]
    simp only [loopD]
    cases hbe : b e h with
    | none => rfl
    | some r =>
      obtain ⟨x, e', h'⟩ := r
      cases x with
      | normal => simp only [Option.elim]; exact loop_eq hb n e' h' k f
      | exit id => rfl
      | ret => rfl

noncomputable def code (m : Meta) (call : CallK R) (n : Nat) (c : Code) : E → H → (Ex → E → H → R) → R → R :=
  Code.rec (motive := fun _ => E → H → (Ex → E → H → R) → R → R)
    (skip := fun e h k _ => k .normal e h)
    (region := fun id l draw e h k f => region T m call id l.toList draw e h (fun e h => k .normal e h) f)
    (seq := fun _ _ a b e h k f => a e h (fun x e h => match x with
      | .normal => b e h k f
      | x => k x e h) f)
    (cond := fun c _ _ a b e h k f => ev e c (fun v => match v with
      | .bool t => b2 t (a e h k f) (b e h k f)
      | _ => f) f)
    (block := fun id _ b e h k f => b e h (fun x e h => match x with
      | .exit id' => b2 (Nat.beq id' id) (k .normal e h) (k (.exit id') e h)
      | x => k x e h) f)
    (loop := fun _ b e h k f => loop b n e h k f)
    (rangeFunc := fun _ _ _ _ _ _ _ _ _ f => f)
    (exit := fun id e h k _ => k (.exit id) e h)
    (scope := fun _ _ _ _ _ f => f)
    (label := fun _ _ _ _ f => f)
    (goto := fun _ _ _ _ f => f)
    (ret := fun e h k _ => k .ret e h)
    (refuse := fun _ _ _ _ f => f) c

theorem code_eq {m : Meta} {call : CallK R} {c : CallF} (hc : Is call c) (n : Nat) : ∀ (cd : Code) (e : E) (h : H) (k : Ex → E → H → R) (f : R),
    code T m call n cd e h k f = (codeD T m c n cd e h).elim f fun r => k r.1 r.2.1 r.2.2 := by
  intro cd
  induction cd with
  | skip => intro e h k f; rfl
  | region id l draw =>
    intro e h k f
    show region T m call id l.toList draw e h (fun e h => k .normal e h) f = _
    rw [region_eq T hc]
    simp only [codeD]
    cases regionD T m c id l.toList draw e h <;> rfl
  | seq a b ha hb =>
    intro e h k f
    show code T m call n a e h (fun x e h => match x with
      | .normal => code T m call n b e h k f
      | x => k x e h) f = _
    rw [ha]
    simp only [codeD]
    cases codeD T m c n a e h with
    | none => rfl
    | some r =>
      obtain ⟨x, e', h'⟩ := r
      cases x with
      | normal => simp only [Option.elim]; exact hb e' h' k f
      | exit id => rfl
      | ret => rfl
  | cond t a b ha hb =>
    intro e h k f
    show ev e t (fun v => match v with
      | .bool t => b2 t (code T m call n a e h k f) (code T m call n b e h k f)
      | _ => f) f = _
    rw [ev_eq]
    simp only [codeD]
    cases e.eval t with
    | none => rfl
    | some v =>
      cases v with
      | bool t =>
        simp only [Option.elim, b2_eq, ha, hb]
        cases t <;> rfl
      | _ => rfl
  | block id b hb =>
    intro e h k f
    show code T m call n b e h (fun x e h => match x with
      | .exit id' => b2 (Nat.beq id' id) (k .normal e h) (k (.exit id') e h)
      | x => k x e h) f = _
    rw [hb]
    simp only [codeD]
    cases codeD T m c n b e h with
    | none => rfl
    | some r =>
      obtain ⟨x, e', h'⟩ := r
      cases x with
      | normal => rfl
      | exit id' =>
        simp only [Option.elim, b2_eq]
        by_cases hid : id' = id
        · subst hid; simp
        · have : Nat.beq id' id = false := by
            cases hb : Nat.beq id' id with
            | false => rfl
            | true => exact absurd (Nat.eq_of_beq_eq_true hb) hid
          rw [this, if_neg hid]; rfl
      | ret => rfl
  | loop b hb =>
    intro e h k f
    show loop (code T m call n b) n e h k f = _
    rw [loop_eq hb]
    rfl
  | exit id => intro e h k f; rfl
  | ret => intro e h k f; rfl
  | _ => intros; rfl

noncomputable def result (e : E) (h : H) (r : ResultVar) (k : DV → R) (f : R) : R := match r with
  | .tmp t => slot e t k f
  | .cell a t => slot e a (fun a => load T t a h k f) f
theorem result_eq (e : E) (h : H) (r : ResultVar) (k : DV → R) (f : R) : result T e h r k f = (resultD T e h r).elim f k := by
  cases r with
  | tmp t => exact slot_eq _ _ _ _
  | cell a t =>
    simp only [result, slot_eq, load_eq, resultD]
    cases e.get a <;> rfl

noncomputable def results (e : E) (h : H) (l : List ResultVar) : (List DV → R) → R → R :=
  List.rec (motive := fun _ => (List DV → R) → R → R) (fun k _ => k []) (fun r _ ih k f => result T e h r (fun v => ih (fun vs => k (v :: vs)) f) f) l
theorem results_eq (e : E) (h : H) : ∀ (l : List ResultVar) (k : List DV → R) (f : R), results T e h l k f = (resultsD T e h l).elim f k
  | [], _, _ => rfl
  | r :: l, k, f => by
    show result T e h r (fun v => results T e h l (fun vs => k (v :: vs)) f) f = _
    simp only [result_eq, results_eq e h l, resultsD]
    cases resultD T e h r with
    | none => rfl
    | some v => cases resultsD T e h l <;> rfl

noncomputable def body (call : CallK R) (n : Nat) (fn : Func) (m : Meta) (args : List DV) (h : H) (k : DV → H → R) (f : R) : R := ob fn.body (fun b =>
  list (params 0 args ++ m.named.map fun t => (t, .tup [])) fun vs => code T m call n b ⟨vs, []⟩ h (fun x e h => match x with
    | .exit _ => f
    | _ => results T e h fn.results.toList (fun vs => k (one vs) h) f) f) f
theorem body_eq {call : CallK R} {c : CallF} (hc : Is call c) (n : Nat) (fn : Func) (m : Meta) (args : List DV) (h : H) (k : DV → H → R) (f : R) :
    body T call n fn m args h k f = (bodyD T c n fn m args h).elim f fun r => k r.1 r.2 := by
  simp only [body, ob_eq, list_eq, bodyD]
  cases fn.body with
  | none => rfl
  | some b =>
    simp only [Option.elim, code_eq T hc]
    cases codeD T m c n b ⟨params 0 args ++ m.named.map fun t => (t, .tup []), []⟩ h with
    | none => rfl
    | some r =>
      obtain ⟨x, e, h'⟩ := r
      cases x with
      | exit id => rfl
      | normal => simp only [results_eq]; cases resultsD T e h' fn.results.toList <;> rfl
      | ret => simp only [results_eq]; cases resultsD T e h' fn.results.toList <;> rfl

end

noncomputable def call {R : Type} (c : Cfg) (n : Nat) : CallK R :=
  Nat.rec (motive := fun _ => CallK R) (fun _ _ _ _ fl => fl) (fun n ih f args h k fl => ob (c.ora f) (fun g => out (touch args) (g args h) k fl) (ob (c.fn f) (fun p => body c.P ih n p.1 p.2 args h k fl) fl)) n

theorem call_eq {R : Type} (c : Cfg) : ∀ n, Is (call (R := R) c n) (callD c n)
  | 0 => fun _ _ _ _ _ => rfl
  | n + 1 => by
    intro f args h k fl
    show ob (c.ora f) (fun g => out (touch args) (g args h) k fl) (ob (c.fn f) (fun p => body c.P (call c n) n p.1 p.2 args h k fl) fl) = _
    rw [ob_eq, ob_eq]
    simp only [callD]
    cases c.ora f with
    | some g => simp only [Option.elim, out_eq]
    | none =>
      simp only [Option.elim]
      cases c.fn f with
      | none => rfl
      | some p =>
        obtain ⟨fn, m⟩ := p
        exact body_eq c.P (call_eq c n) n fn m args h k fl

/-- What K answers true, D answers. -/
theorem call_true {c : Cfg} {n : Nat} {f : FuncId} {args : List DV} {h : H} (t : DV → H → Bool) (hk : call c n f args h t false = true) : ∃ d h', callD c n f args h = some (d, h') ∧ t d h' = true := by
  rw [call_eq c n f args h t false] at hk
  cases hd : callD c n f args h with
  | none => rw [hd] at hk; cases hk
  | some r => rw [hd] at hk; exact ⟨r.1, r.2, rfl, hk⟩

end K
end Go.D
