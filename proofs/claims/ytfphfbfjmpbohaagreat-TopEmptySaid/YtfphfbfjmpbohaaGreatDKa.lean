/-
  K: the interpreter D once more, strict and by continuations, over recursors alone: so that the kernel runs it in little room. What it answers is what D answers.
-/
import Derived.Test.YtfphfbfjmpbohaaGreatDB
namespace Go.D
namespace K

section
variable {R : Type}

/-! Forcing. -/

noncomputable def nat (n : Nat) (k : Nat → R) : R := Nat.rec (motive := fun _ => R) (k 0) (fun m _ => k (Nat.succ m)) n
theorem nat_eq (n : Nat) (k : Nat → R) : nat n k = k n := by cases n <;> rfl

noncomputable def int (n : Int) (k : Int → R) : R := Int.rec (motive := fun _ => R) (fun m => nat m fun m => k (.ofNat m)) (fun m => nat m fun m => k (.negSucc m)) n
theorem int_eq (n : Int) (k : Int → R) : int n k = k n := by cases n <;> simp [int, nat_eq]

noncomputable def ob {α : Type} (x : Option α) (k : α → R) (f : R) : R := Option.rec (motive := fun _ => R) f (fun v => k v) x
theorem ob_eq {α : Type} (x : Option α) (k : α → R) (f : R) : ob x k f = x.elim f k := by cases x <;> rfl

noncomputable def b2 (b : Bool) (x y : R) : R := Bool.rec (motive := fun _ => R) y x b
theorem b2_eq (b : Bool) (x y : R) : b2 b x y = bif b then x else y := by cases b <;> rfl

noncomputable def list {α : Type} (l : List α) : (List α → R) → R := List.rec (motive := fun _ => (List α → R) → R) (fun k => k []) (fun x _ ih k => ih fun l => k (x :: l)) l
theorem list_eq {α : Type} : ∀ (l : List α) (k : List α → R), list l k = k l
  | [], _ => rfl
  | x :: l, k => by
    show list l (fun l => k (x :: l)) = _
    rw [list_eq l]

noncomputable def val (v : DV) (k : DV → R) : R := match v with
  | .bool b => b2 b (k (.bool true)) (k (.bool false))
  | .int kd n => int n fun n => k (.int kd n)
  | .ptr (some (b, o)) => nat b fun b => nat o fun o => k (.ptr (some (b, o)))
  | .slice (some (b, o)) n c z => nat b fun b => nat o fun o => nat n fun n => k (.slice (some (b, o)) n c z)
  | .str s => list s fun s => k (.str s)
  | v => k v
theorem val_eq (v : DV) (k : DV → R) : val v k = k v := by
  unfold val
  split <;> simp only [b2_eq, int_eq, nat_eq, list_eq]
  rename_i b; cases b <;> rfl

/-! The tree of objects. -/

noncomputable def get (t : Tr) : Nat → (Option DObj → R) → R :=
  Tr.rec (motive := fun _ => Nat → (Option DObj → R) → R) (fun _ k => k none)
    (fun _ v _ gl gr i k => b2 (Nat.beq i 0) (k v) (b2 (Nat.beq (Nat.mod i 2) 1) (gl (Nat.div i 2) k) (gr (Nat.sub (Nat.div i 2) 1) k))) t
theorem get_eq : ∀ (t : Tr) (i : Nat) (k : Option DObj → R), get t i k = k (t.get i)
  | .leaf, _, _ => rfl
  | .node l v r, i, k => by
    show b2 (Nat.beq i 0) (k v) (b2 (Nat.beq (Nat.mod i 2) 1) (get l (Nat.div i 2) k) (get r (Nat.sub (Nat.div i 2) 1) k)) = _
    rw [get_eq l, get_eq r, b2_eq, b2_eq]
    simp only [Tr.get]
    by_cases h : i = 0
    · subst h; rfl
    · have h' : Nat.beq i 0 = false := by cases i; exact absurd rfl h; rfl
      rw [h', if_neg h, cond_false]
      by_cases h2 : i % 2 = 1
      · have : Nat.beq (Nat.mod i 2) 1 = true := by rw [Nat.beq_eq]; exact h2
        rw [this, if_pos h2]; rfl
      · have : Nat.beq (Nat.mod i 2) 1 = false := by
          cases hb : Nat.beq (Nat.mod i 2) 1 with
          | false => rfl
          | true => exact absurd (Nat.eq_of_beq_eq_true hb) h2
        rw [this, if_neg h2]; rfl

noncomputable def set (f : Nat) : Tr → Nat → DObj → (Tr → R) → R :=
  Nat.rec (motive := fun _ => Tr → Nat → DObj → (Tr → R) → R) (fun t _ _ k => k t)
    (fun _ ih t i o k => Tr.rec (motive := fun _ => R)
      (b2 (Nat.beq i 0) (k (.node .leaf (some o) .leaf)) (b2 (Nat.beq (Nat.mod i 2) 1) (ih .leaf (Nat.div i 2) o fun l => k (.node l none .leaf)) (ih .leaf (Nat.sub (Nat.div i 2) 1) o fun r => k (.node .leaf none r))))
      (fun l v r _ _ => b2 (Nat.beq i 0) (k (.node l (some o) r)) (b2 (Nat.beq (Nat.mod i 2) 1) (ih l (Nat.div i 2) o fun l => k (.node l v r)) (ih r (Nat.sub (Nat.div i 2) 1) o fun r => k (.node l v r)))) t) f
theorem set_eq : ∀ (f : Nat) (t : Tr) (i : Nat) (o : DObj) (k : Tr → R), set f t i o k = k (t.setF f i o)
  | 0, _, _, _, _ => rfl
  | f + 1, t, i, o, k => by
    have step : ∀ l v r, (b2 (Nat.beq i 0) (k (.node l (some o) r)) (b2 (Nat.beq (Nat.mod i 2) 1) (set f l (Nat.div i 2) o fun l => k (.node l v r)) (set f r (Nat.sub (Nat.div i 2) 1) o fun r => k (.node l v r)))) =
        k (if i = 0 then .node l (some o) r else if i % 2 = 1 then .node (l.setF f (i / 2) o) v r else .node l v (r.setF f (i / 2 - 1) o)) := by
      intro l v r
      rw [set_eq f l, set_eq f r, b2_eq, b2_eq]
      by_cases h : i = 0
      · subst h; rfl
      · have h' : Nat.beq i 0 = false := by cases i; exact absurd rfl h; rfl
        rw [h', if_neg h, cond_false]
        by_cases h2 : i % 2 = 1
        · have : Nat.beq (Nat.mod i 2) 1 = true := by rw [Nat.beq_eq]; exact h2
          rw [this, if_pos h2]; rfl
        · have : Nat.beq (Nat.mod i 2) 1 = false := by
            cases hb : Nat.beq (Nat.mod i 2) 1 with
            | false => rfl
            | true => exact absurd (Nat.eq_of_beq_eq_true hb) h2
          rw [this, if_neg h2]; rfl
    cases t with
    | leaf => exact step .leaf none .leaf
    | node l v r => exact step l v r

/-- The path to an object, forced. -/
noncomputable def path (t : Tr) : Nat → (Tr → R) → R :=
  Tr.rec (motive := fun _ => Nat → (Tr → R) → R) (fun _ k => k .leaf)
    (fun l v r pl pr i k => b2 (Nat.beq i 0) (k (.node l v r)) (b2 (Nat.beq (Nat.mod i 2) 1) (pl (Nat.div i 2) fun l => k (.node l v r)) (pr (Nat.sub (Nat.div i 2) 1) fun r => k (.node l v r)))) t
theorem path_eq : ∀ (t : Tr) (i : Nat) (k : Tr → R), path t i k = k t
  | .leaf, _, _ => rfl
  | .node l v r, i, k => by
    show b2 (Nat.beq i 0) (k (.node l v r)) (b2 (Nat.beq (Nat.mod i 2) 1) (path l (Nat.div i 2) fun l => k (.node l v r)) (path r (Nat.sub (Nat.div i 2) 1) fun r => k (.node l v r))) = _
    rw [path_eq l, path_eq r, b2_eq, b2_eq]
    cases Nat.beq i 0 <;> cases Nat.beq (Nat.mod i 2) 1 <;> rfl

noncomputable def new (h : H) (o : DObj) (k : H → R) : R := set (h.next + 1) h.tr h.next o fun t => nat (h.next + 1) fun n => k ⟨t, n, h.ro⟩
theorem new_eq (h : H) (o : DObj) (k : H → R) : new h o k = k (h.new o) := by simp only [new, set_eq, nat_eq]; rfl
noncomputable def put (h : H) (i : Nat) (o : DObj) (k : H → R) : R := set (i + 1) h.tr i o fun t => k ⟨t, h.next, h.ro⟩
theorem put_eq (h : H) (i : Nat) (o : DObj) (k : H → R) : put h i o k = k (h.put i o) := by simp only [put, set_eq]; rfl

/-- A heap, forced where it may have turned. -/
noncomputable def heap (i : Nat) (h : H) (k : H → R) : R := H.rec (motive := fun _ => R) (fun t n r => nat n fun n => path t i fun t => path t (Nat.sub n 1) fun t => k ⟨t, n, r⟩) h
theorem heap_eq (i : Nat) (h : H) (k : H → R) : heap i h k = k h := by cases h; simp only [heap, nat_eq, path_eq]

noncomputable def cells (h : H) (b : Nat) (k : List DV → R) (f : R) : R := get h.tr b fun o => match o with
  | some (.cells cs) => k cs
  | _ => f
theorem cells_eq (h : H) (b : Nat) (k : List DV → R) (f : R) : cells h b k f = (h.cells b).elim f k := by
  simp only [cells, get_eq, H.cells, H.get]
  cases h.tr.get b with
  | none => rfl
  | some o => cases o <;> rfl

noncomputable def nth (l : List DV) : Nat → (DV → R) → R → R :=
  List.rec (motive := fun _ => Nat → (DV → R) → R → R) (fun _ _ f => f) (fun x _ ih i k f => b2 (Nat.beq i 0) (k x) (ih (Nat.sub i 1) k f)) l
theorem nth_eq : ∀ (l : List DV) (i : Nat) (k : DV → R) (f : R), nth l i k f = (l[i]?).elim f k
  | [], _, _, _ => rfl
  | x :: l, i, k, f => by
    show b2 (Nat.beq i 0) (k x) (nth l (Nat.sub i 1) k f) = _
    rw [nth_eq l, b2_eq]
    cases i <;> rfl

noncomputable def ld (h : H) (r : Ref) (k : DV → R) (f : R) : R := cells h r.1 (fun cs => nth cs r.2 k f) f
theorem ld_eq (h : H) (r : Ref) (k : DV → R) (f : R) : ld h r k f = (h.ld r).elim f k := by
  simp only [ld, cells_eq, H.ld]
  cases h.cells r.1 with
  | none => rfl
  | some cs => simp only [Option.elim, Option.bind_some, nth_eq]

noncomputable def ldn (h : H) (r : Ref) (n : Nat) (k : List DV → R) (f : R) : R := cells h r.1 (fun cs => b2 (Nat.ble (r.2 + n) cs.length) (list ((cs.drop r.2).take n) k) f) f
theorem ldn_eq (h : H) (r : Ref) (n : Nat) (k : List DV → R) (f : R) : ldn h r n k f = (h.ldn r n).elim f k := by
  simp only [ldn, cells_eq, H.ldn, list_eq]
  cases h.cells r.1 with
  | none => rfl
  | some cs =>
    simp only [Option.elim, Option.bind_some, b2_eq]
    by_cases hc : r.2 + n ≤ cs.length
    · rw [if_pos hc, Nat.ble_eq_true_of_le hc]
      try rfl
    · rw [if_neg hc]
      cases hb : Nat.ble (r.2 + n) cs.length with
      | false => try rfl
      | true => exact absurd (Nat.le_of_ble_eq_true hb) hc

noncomputable def st (h : H) (a : Ref) (vs : List DV) (k : H → R) (f : R) : R := cells h a.1 (fun cs =>
  b2 (Nat.ble h.ro a.1 && (Nat.ble (a.2 + vs.length) cs.length && vs.all DV.flat)) (list (splice cs a.2 vs) fun l => put h a.1 (.cells l) k) f) f
theorem st_eq (h : H) (a : Ref) (vs : List DV) (k : H → R) (f : R) : st h a vs k f = (h.st a vs).elim f k := by
  simp only [st, cells_eq, H.st, list_eq, put_eq]
  cases h.cells a.1 with
  | none => rfl
  | some cs =>
    simp only [Option.elim, Option.bind_some, b2_eq]
    by_cases hc : h.ro ≤ a.1 ∧ a.2 + vs.length ≤ cs.length ∧ vs.all DV.flat = true
    · rw [if_pos hc, Nat.ble_eq_true_of_le hc.1, Nat.ble_eq_true_of_le hc.2.1, hc.2.2]; rfl
    · rw [if_neg hc]
      cases hb : (Nat.ble h.ro a.1 && (Nat.ble (a.2 + vs.length) cs.length && vs.all DV.flat)) with
      | false => rfl
      | true =>
        simp only [Bool.and_eq_true, Nat.ble_eq] at hb
        exact absurd hb hc

noncomputable def load (T : TT) (t : TypeId) (a : DV) (h : H) (k : DV → R) (f : R) : R := match a with
  | .ptr (some r) => ob (tagg T t) (fun b => b2 b (ob (tsize T t) (fun n => ldn h r n (fun cs => k (.agg cs)) f) f) (ld h r k f)) f
  | _ => f
theorem load_eq (T : TT) (t : TypeId) (a : DV) (h : H) (k : DV → R) (f : R) : load T t a h k f = (loadD T t a h).elim f k := by
  cases a with
  | ptr a => cases a with
    | none => rfl
    | some r =>
      simp only [load, loadD, ob_eq, ldn_eq, ld_eq, b2_eq]
      cases tagg T t with
      | none => rfl
      | some b =>
        cases b with
        | false => rfl
        | true =>
          cases tsize T t with
          | none => rfl
          | some n => simp only [Option.elim, cond_true]; cases h.ldn r n <;> rfl
  | _ => rfl

noncomputable def store (T : TT) (t : TypeId) (a v : DV) (h : H) (k : H → R) (f : R) : R := match a with
  | .ptr (some r) => ob (tsize T t) (fun n => b2 (Nat.beq v.cellsOf.length n) (st h r v.cellsOf k f) f) f
  | _ => f
theorem store_eq (T : TT) (t : TypeId) (a v : DV) (h : H) (k : H → R) (f : R) : store T t a v h k f = (storeD T t a v h).elim f k := by
  cases a with
  | ptr a => cases a with
    | none => rfl
    | some r =>
      simp only [store, storeD, ob_eq, st_eq, b2_eq]
      cases tsize T t with
      | none => rfl
      | some n =>
        simp only [Option.elim]
        by_cases hc : v.cellsOf.length = n
        · rw [if_pos hc]
          have : Nat.beq v.cellsOf.length n = true := by rw [Nat.beq_eq]; exact hc
          rw [this]; rfl
        · rw [if_neg hc]
          cases hb : Nat.beq v.cellsOf.length n with
          | false => rfl
          | true => exact absurd (Nat.eq_of_beq_eq_true hb) hc
  | _ => rfl

/-! What the slots hold. -/

noncomputable def look (t : Nat) (l : List (Nat × DV)) (k : DV → R) (f : R) : R := List.rec (motive := fun _ => R) f (fun p _ ih => b2 (Nat.beq p.1 t) (k p.2) ih) l
theorem look_eq (t : Nat) : ∀ (l : List (Nat × DV)) (k : DV → R) (f : R), look t l k f = (assoc l t).elim f k
  | [], _, _ => rfl
  | (u, v) :: l, k, f => by
    show b2 (Nat.beq u t) (k v) (look t l k f) = _
    rw [look_eq t l, b2_eq]
    simp only [assoc]
    cases Nat.beq u t <;> rfl

noncomputable def slot (e : E) (t : Nat) (k : DV → R) (f : R) : R := look t e.vs k (look t e.ts k f)
theorem slot_eq (e : E) (t : Nat) (k : DV → R) (f : R) : slot e t k f = (e.get t).elim f k := by
  simp only [slot, look_eq, E.get]
  cases assoc e.vs t <;> rfl

noncomputable def ev (e : E) (x : Operand) (k : DV → R) (f : R) : R := match x with
  | .tmp t => slot e t k f
  | .const v => ob (cv v) k f
  | .global _ => f
  | .func g => k (.func g [])
theorem ev_eq (e : E) (x : Operand) (k : DV → R) (f : R) : ev e x k f = (e.eval x).elim f k := by
  cases x <;> simp only [ev, slot_eq, ob_eq, E.eval] <;> rfl

noncomputable def all (e : E) (l : List Operand) : (List DV → R) → R → R :=
  List.rec (motive := fun _ => (List DV → R) → R → R) (fun k _ => k []) (fun x _ ih k f => ev e x (fun v => ih (fun vs => k (v :: vs)) f) f) l
theorem all_eq (e : E) : ∀ (l : List Operand) (k : List DV → R) (f : R), all e l k f = (e.all l).elim f k
  | [], _, _ => rfl
  | x :: l, k, f => by
    show ev e x (fun v => all e l (fun vs => k (v :: vs)) f) f = _
    simp only [ev_eq, all_eq e l, E.all]
    cases e.eval x with
    | none => rfl
    | some v => cases e.all l <;> rfl

noncomputable def upd (t : Nat) (v : DV) (l : List (Nat × DV)) : (List (Nat × DV) → R) → R → R :=
  List.rec (motive := fun _ => (List (Nat × DV) → R) → R → R) (fun _ f => f) (fun p l ih k f => b2 (Nat.beq p.1 t) (k ((p.1, v) :: l)) (ih (fun l => k (p :: l)) f)) l
theorem upd_eq (t : Nat) (v : DV) : ∀ (l : List (Nat × DV)) (k : List (Nat × DV) → R) (f : R), upd t v l k f = match assoc l t with | some _ => k (Go.D.upd l t v) | none => f
  | [], _, _ => rfl
  | (u, x) :: l, k, f => by
    show b2 (Nat.beq u t) (k ((u, v) :: l)) (upd t v l (fun l => k ((u, x) :: l)) f) = _
    rw [upd_eq t v l, b2_eq]
    simp only [assoc, Go.D.upd]
    cases Nat.beq u t <;> rfl

noncomputable def into (e : E) (dst : Option Nat) (v : DV) (k : E → R) : R := ob dst (fun t => upd t v e.vs (fun vs => k ⟨vs, e.ts⟩) (k ⟨e.vs, (t, v) :: e.ts⟩)) (k e)
theorem into_eq (e : E) (dst : Option Nat) (v : DV) (k : E → R) : into e dst v k = k (e.put dst v) := by
  simp only [into, ob_eq, upd_eq]
  cases dst with
  | none => rfl
  | some t =>
    simp only [Option.elim, E.put]
    cases assoc e.vs t <;> rfl

end
end K
end Go.D
