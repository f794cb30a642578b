/-
  Regions that draw: whatever order the model takes, it comes to what the text's order comes to.
-/
import Derived.Test.YtfphfbfjmpbohaaGreatDG
namespace Go.D
variable [Lax]

omit [Lax] in
theorem mkTr (f : Nat → Option DObj) : ∀ n, ∃ t : Tr, ∀ i, t.get i = if i < n then f i else none
  | 0 => ⟨.leaf, fun i => by simp [Tr.get]⟩
  | n + 1 => by
    obtain ⟨t, ht⟩ := mkTr f n
    cases hf : f n with
    | none =>
      refine ⟨t, fun i => ?_⟩
      rw [ht]
      by_cases h1 : i < n
      · rw [if_pos h1, if_pos (by omega)]
      · rw [if_neg h1]
        by_cases h2 : i = n
        · subst h2; rw [if_pos (by omega), hf]
        · rw [if_neg (by omega)]
    | some o =>
      refine ⟨t.setF (n + 1) n o, fun i => ?_⟩
      rw [Tr.get_setF _ _ _ _ _ (by omega), ht]
      by_cases h2 : n = i
      · subst h2; rw [if_pos rfl, if_pos (by omega), hf]
      · rw [if_neg h2]
        by_cases h1 : i < n
        · rw [if_pos h1, if_pos (by omega)]
        · rw [if_neg h1, if_neg (by omega)]

omit [Lax] in
theorem mkH (n r : Nat) (f : Nat → Option DObj) : ∃ g : H, g.next = n ∧ g.ro = r ∧ ∀ i, g.get i = if i < n then f i else none :=
  let ⟨t, ht⟩ := mkTr f n
  ⟨⟨t, n, r⟩, rfl, rfl, ht⟩

omit [Lax] in
theorem callOf_cases {call q : CallF} {bar : List Nat} {o : Oper} {f : FuncId} {args : List DV} {h : H} {r : DV × H} (hq : callOf call q bar o f args h = some r) :
    (∃ d, o.dst = some d ∧ bar.contains d = true ∧ call f args h = some r) ∨ q f args h = some r := by
  unfold callOf at hq
  cases hd : o.dst with
  | none => rw [hd] at hq; exact .inr hq
  | some d =>
    rw [hd] at hq
    cases hb : bar.contains d with
    | false => simp only [hb, Bool.false_eq_true, if_false] at hq; exact .inr hq
    | true => simp only [hb, if_true] at hq; exact .inl ⟨d, rfl, hb, hq⟩

theorem callOf_ok {P : Program} {call : CallF} (hc : CallsOK P call) (bar : List Nat) (o : Oper) : CallsOK P (callOf call (quiet call) bar o) := by
  intro f args h d h' hq
  rcases callOf_cases hq with ⟨_, _, _, hq⟩ | hq
  · exact hc _ _ _ _ _ hq
  · exact (quiet_ok hc hq).1

omit [Lax] in
theorem opD_call {T : TT} {call : CallF} {e : E} {op : Op} {h : H} {r : DV × H} (hop : opD T call e op h = some r) (hcall : isCall op = true) : ∃ f args, call f args h = some r := by
  cases op <;> simp only [isCall, Bool.false_eq_true] at hcall
  rename_i c
  obtain ⟨callee, args, argTypes⟩ := c
  cases callee with
  | builtin b => simp at hcall
  | value f =>
    simp only [opD] at hop
    split at hop
    · exact ⟨_, _, hop⟩
    · cases hop
  | invoke x name =>
    simp only [opD] at hop
    split at hop
    · split at hop
      · exact ⟨_, _, hop⟩
      · cases hop
    · cases hop

omit [Lax] in
theorem store_wr {T : TT} {call : CallF} {e : E} {t : TypeId} {x v : Operand} {h h' : H} {d : DV} (hop : opD T call e (.store t x v) h = some (d, h')) {i : Nat} (hi : h'.get i ≠ h.get i) :
    ∃ r, e.eval x = some (.ptr (some r)) ∧ r.1 = i := by
  simp only [opD] at hop
  split at hop
  · rename_i a b ha hb
    simp only [Option.map_eq_some_iff] at hop
    obtain ⟨z, hz, hop⟩ := hop
    injection hop with _ e2; subst e2
    unfold storeD at hz
    split at hz
    · rename_i r
      refine ⟨r, ha, ?_⟩
      split at hz
      · split at hz
        · simp only [H.st, Option.bind_eq_some_iff] at hz
          obtain ⟨cs, hcs, hz⟩ := hz
          split at hz
          · injection hz with hz; subst hz
            rw [H.get_put] at hi
            by_cases hr : r.1 = i
            · exact hr
            · rw [if_neg hr] at hi; exact absurd rfl hi
          · cases hz
        · cases hz
      · cases hz
    · cases hz
  · cases hop

omit [Lax] in
theorem load_ptr {T : TT} {call : CallF} {e : E} {t : TypeId} {x : Operand} {h h' : H} {d : DV} (hop : opD T call e (.load t x) h = some (d, h')) : ∃ r, e.eval x = some (.ptr (some r)) := by
  simp only [opD] at hop
  split at hop
  · rename_i a ha
    simp only [Option.map_eq_some_iff] at hop
    obtain ⟨z, hz, hop⟩ := hop
    unfold loadD at hz
    split at hz
    · exact ⟨_, ha⟩
    · cases hz
  · cases hop

/-- A write through this value meets object i. -/
def hits (u : DV) (i : Nat) : Prop := (∃ r, u = .ptr (some r) ∧ r.1 = i) ∨ ∃ r len cap sz, u = .slice (some r) len cap sz ∧ r.1 = i

omit [Lax] in
theorem hits_ptr {u : DV} {r : Ref} (h : apartV u (.ptr (some r)) = true) : ¬ hits u r.1 := by
  rintro (⟨q, rfl, hq⟩ | ⟨q, l, c, z, rfl, hq⟩)
  · simp [apartV] at h; exact h hq
  · simp [apartV] at h; exact h hq
omit [Lax] in
theorem hits_other {u v : DV} (h : apartV u v = true) (hp : ∀ r, v ≠ .ptr (some r)) (hs : isSq v = false) (ht : v ≠ .tup []) (i : Nat) : ¬ hits u i := by
  rintro (⟨q, rfl, hq⟩ | ⟨q, l, c, z, rfl, hq⟩)
  · cases v with
    | ptr a => cases a with
      | none => simp [apartV] at h
      | some r => exact hp r rfl
    | tup l => cases l with
      | nil => exact ht rfl
      | cons => simp [apartV] at h
    | _ => simp [apartV, isSq] at h hs
  · cases v with
    | ptr a => cases a with
      | none => simp [apartV] at h
      | some r => exact hp r rfl
    | tup l => cases l with
      | nil => exact ht rfl
      | cons => simp [apartV] at h
    | _ => simp [apartV] at h hs

omit [Lax] in
theorem tgt_wr {T : TT} {call : CallF} {e : E} {op : Op} {h h' : H} {d : DV} {a : Nat} (hop : opD T call e op h = some (d, h')) (ht : tgtO op = some a) {i : Nat} (hi : i < h.next) (hw : h'.get i ≠ h.get i) :
    ∃ u, e.get a = some u ∧ hits u i := by
  cases op <;> simp only [tgtO, reduceCtorEq] at ht
  case store t x v =>
    cases x <;> simp only [reduceCtorEq] at ht
    injection ht with ht; subst ht
    obtain ⟨r, h1, h2⟩ := store_wr hop hw
    exact ⟨_, h1, .inl ⟨r, rfl, h2⟩⟩
  case call c =>
    obtain ⟨callee, args, ts⟩ := c
    cases callee with
    | value f => simp at ht
    | invoke x n => simp at ht
    | builtin bi =>
      cases bi <;> simp only [reduceCtorEq] at ht
      split at ht
      · rename_i a' l hargs
        injection ht with ht; subst ht
        simp only [opD] at hop
        split at hop
        · rename_i vs hvs
          rw [hargs] at hvs
          unfold E.all at hvs
          split at hvs
          · rename_i v vs' h1 h2
            injection hvs with hvs; subst hvs
            unfold builtinD at hop
            split at hop <;> try (simp_all; done)
            rename_i t xt s x _ hts hx
            injection hx with hx hx'
            subst hx
            obtain ⟨r, l, c, z, q1, q2⟩ := append_wr hop hi hw
            exact ⟨v, h1, .inr ⟨r, l, c, z, q1, q2⟩⟩
          · cases hvs
        · cases hop
      · cases ht

omit [Lax] in
theorem apartD_spec {e : E} : ∀ {l : List (Nat × Nat)} {a b : Nat} {u v : DV}, apartD e l = true → (a, b) ∈ l → e.get a = some u → e.get b = some v → apartV u v = true
  | [], a, b, u, v, _, hm, _, _ => by cases hm
  | (x, y) :: l, a, b, u, v, h, hm, ha, hb => by
    simp only [apartD, Bool.and_eq_true] at h
    rcases List.mem_cons.1 hm with hm | hm
    · injection hm with e1 e2
      subst e1; subst e2
      have := h.1
      rw [ha, hb] at this
      exact this
    · exact apartD_spec h.2 hm ha hb

def Wr (st : Nat → E × H) (j i : Nat) : Prop := (st (j + 1)).2.get i ≠ (st j).2.get i
/-- Of the writers of i those listed are the ones before k. -/
def Cut (st : Nat → E × H) (n : Nat) (L : Nat → Prop) (i k : Nat) : Prop := (∀ j, j < k → Wr st j i → L j) ∧ ∀ j, k ≤ j → j < n → Wr st j i → ¬ L j

structure Tra (P : Program) (T : TT) (call : CallF) (bar : List Nat) (chk : List (Nat × Nat)) (ops : Array Oper) (size : Nat) (st : Nat → E × H) : Prop where
  ok : TTok P T
  hc : CallsOK P call
  row : ∀ y oy, ops[y]? = some oy → RowOK bar chk ops size y oy
  stp : ∀ k o, ops[k]? = some o → stepD T (callOf call (quiet call) bar o) ops.toList o (st k).1 (st k).2 = some (st (k + 1))
  hw : HW (st 0).2
  chks : apartD (st ops.size).1 chk = true

structure Inv (ops : Array Oper) (size : Nat) (st : Nat → E × H) (B : Bd) (S0 : Sg) (w0 : World) (ds : List Deferred) (L : Nat → Prop) (S : Sg) (g : H) (a : Act) (w : World) : Prop where
  lt : ∀ j, L j → j < ops.size
  down : ∀ j o, ops[j]? = some o → L j → ∀ e ∈ o.after.toList, Region.binds .any e = true → L e.on
  env1 : ∀ j o t d, L j → ops[j]? = some o → o.dst = some t → (st ops.size).1.get t = some d → VR S.m d (a.tmps.getD t undef)
  env0 : ∀ t d, (∀ j o, L j → ops[j]? = some o → o.dst ≠ some t) → (st 0).1.get t = some d → VR S.m d (a.tmps.getD t undef)
  size : a.tmps.size = size
  defers : a.defers = ds
  sim : Sim { B with f := (st ops.size).2.next } S g w
  gn : g.next = (st ops.size).2.next
  gro : g.ro = (st 0).2.ro
  ro0 : (st 0).2.ro ≤ (st 0).2.next
  con : ∀ i k, S.m i ≠ none → i < (st ops.size).2.next → k ≤ ops.size → Cut st ops.size L i k → (st k).2.get i = g.get i
  cut : ∀ i, S.m i ≠ none → i < (st ops.size).2.next → ∃ k, k ≤ ops.size ∧ Cut st ops.size L i k
  plc : ∀ j i, j < ops.size → (st j).2.next ≤ i → i < (st (j + 1)).2.next → S.m i ≠ none → L j
  wrd : ∀ j i, L j → Wr st j i → i < (st j).2.next → S.m i ≠ none
  post : Post S0 (st 0).2 w0 S g w

section
variable {P : Program} {T : TT} {call : CallF} {bar : List Nat} {chk : List (Nat × Nat)} {ops : Array Oper} {size : Nat} {st : Nat → E × H}
  (tr : Tra P T call bar chk ops size st)
include tr

theorem Tra.opAt {k : Nat} (hk : k < ops.size) : ∃ o, ops[k]? = some o := by
  have _ := tr
  exact ⟨ops[k], by rw [Array.getElem?_eq_getElem hk]⟩

theorem Tra.ro {k : Nat} : ∀ {m : Nat}, k ≤ m → m ≤ ops.size → RoK (st k).2 (st m).2
  | 0, h, _ => by
    have : k = 0 := by omega
    subst this; exact RoK.refl _
  | m + 1, h, hm => by
    by_cases hk : k = m + 1
    · subst hk; exact RoK.refl _
    · obtain ⟨o, ho⟩ := tr.opAt (k := m) (by omega)
      have h1 := tr.stp m o ho
      exact (Tra.ro (by omega) (by omega)).trans (stepD_ro (e' := (st (m + 1)).1) (callOf_ok tr.hc bar o) h1)

theorem Tra.hwk {k : Nat} (hk : k ≤ ops.size) : HW (st k).2 := (tr.ro (Nat.zero_le k) hk).2.2.2 tr.hw
theorem Tra.le {k m : Nat} (h : k ≤ m) (hm : m ≤ ops.size) : (st k).2.next ≤ (st m).2.next := (tr.ro h hm).2.1
theorem Tra.rok {k : Nat} (hk : k ≤ ops.size) : (st k).2.ro = (st 0).2.ro := (tr.ro (Nat.zero_le k) hk).1

theorem Tra.envStep {k : Nat} {o : Oper} (ho : ops[k]? = some o) : ∃ d, (st (k + 1)).1 = (st k).1.put o.dst d := by
  rcases stepD_cases (e' := (st (k + 1)).1) (h' := (st (k + 1)).2) (tr.stp k o ho) with ⟨_, v, _, he⟩ | ⟨_, he, _⟩
  · exact ⟨v, he⟩
  · exact ⟨_, he⟩

theorem Tra.envKeep {x : Nat} {t : Nat} : ∀ {b : Nat}, x ≤ b → b ≤ ops.size → (∀ k o, x ≤ k → k < b → ops[k]? = some o → o.dst ≠ some t) → (st b).1.get t = (st x).1.get t
  | 0, h, _, _ => by
    have : x = 0 := by omega
    subst this; rfl
  | b + 1, h, hb, hk => by
    by_cases hx : x = b + 1
    · subst hx; rfl
    · obtain ⟨o, ho⟩ := tr.opAt (k := b) (by omega)
      obtain ⟨d, hd⟩ := tr.envStep ho
      rw [hd, E.get_put, if_neg (hk b o (by omega) (by omega) ho)]
      exact Tra.envKeep (by omega) (by omega) fun k o h1 h2 => hk k o h1 (by omega)

omit tr in
omit [Lax] in
theorem heapKeep {x i : Nat} : ∀ {b : Nat}, x ≤ b → (∀ k, x ≤ k → k < b → ¬ Wr st k i) → (st b).2.get i = (st x).2.get i
  | 0, h, _ => by
    have : x = 0 := by omega
    subst this; rfl
  | b + 1, h, hk => by
    by_cases hx : x = b + 1
    · subst hx; rfl
    · have := hk b (by omega) (by omega)
      have : (st (b + 1)).2.get i = (st b).2.get i := Classical.byContradiction this
      rw [this]
      exact heapKeep (by omega) fun k h1 h2 => hk k h1 (by omega)

theorem Tra.wrLt {j i : Nat} (hj : j < ops.size) (h : Wr st j i) : i < (st (j + 1)).2.next := by
  refine Classical.byContradiction fun hn => h ?_
  have := tr.le (k := j) (m := j + 1) (by omega) (by omega)
  rw [tr.hwk (k := j + 1) (by omega) i (by omega), tr.hwk (k := j) (by omega) i (by omega)]

theorem Tra.dist {x y : Nat} {ox oy : Oper} (hx : ops[x]? = some ox) (hy : ops[y]? = some oy) (hne : x ≠ y) {t : Nat} (h1 : ox.dst = some t) (h2 : oy.dst = some t) : False := by
  rcases Nat.lt_or_gt_of_ne hne with q | q
  · exact (tr.row y oy hy).dist x ox q hx t h1 h2
  · exact (tr.row x ox hx).dist y oy q hy t h2 h1

theorem Tra.wrOld {j i : Nat} {o : Oper} (ho : ops[j]? = some o) (h : Wr st j i) (hi : i < (st j).2.next) : wrO bar o = true := by
  rcases stepD_cases (e' := (st (j + 1)).1) (h' := (st (j + 1)).2) (tr.stp j o ho) with ⟨_, v, hop, _⟩ | ⟨_, _, hh⟩
  · by_cases hk : kindOf o.op ≤ 2
    · exact absurd (prim_old hop hk i hi) h
    · cases hcall : isCall o.op with
      | false =>
        have : kindOf o.op = 3 := by
          unfold kindOf at hk ⊢
          rw [hcall] at hk ⊢
          simp only [Bool.false_eq_true, if_false] at hk ⊢
          split
          · rfl
          · rename_i hw
            rw [if_neg hw] at hk
            exfalso; apply hk
            split <;> omega
        simp [wrO, this]
      | true =>
        have h4 : kindOf o.op = 4 := by unfold kindOf; rw [hcall]; rfl
        obtain ⟨f, args, hcf⟩ := opD_call hop hcall
        rcases callOf_cases hcf with ⟨d, hd, hb, _⟩ | hcf
        · simp only [wrO, h4, hd, hb]; decide
        · exact absurd ((quiet_ok tr.hc hcf).2 i hi) h
  · exact absurd (by rw [hh]) h

theorem wrO_src {bar : List Nat} {o : Oper} {b : Nat} (h : srcO o.op = some b) : wrO bar o = false := by
  have _ := tr
  obtain ⟨dst, op, type, pos, after, guard⟩ := o
  simp only at h
  cases op <;> simp only [srcO, reduceCtorEq] at h
  case load t x => simp [wrO, kindOf, isCall, writes]; try decide
  case call c =>
    obtain ⟨callee, args, ts⟩ := c
    cases callee with
    | value f => simp at h
    | invoke x n => simp at h
    | builtin bi => cases bi <;> simp only [reduceCtorEq] at h; simp [wrO, kindOf, isCall, writes]; try decide

section
variable {B : Bd} {S0 : Sg} {w0 : World} {ds : List Deferred} {L : Nat → Prop} {S : Sg} {g : H} {a : Act} {w : World}
  (inv : Inv ops size st B S0 w0 ds L S g a w) {j : Nat} {o : Oper} (ho : ops[j]? = some o) (hnl : ¬ L j)
  (hrd : ∀ e ∈ o.after.toList, Region.binds .any e = true → L e.on)
include inv ho hnl hrd

omit hnl in
theorem Tra.bef {x : Nat} (h : Bef ops x j) : L x := by
  have _ := tr
  exact h L inv.down fun o' ho' => by
    rw [ho] at ho'; injection ho' with ho'; subst ho'; exact hrd

omit hrd in
theorem Tra.aft {x : Nat} {ox : Oper} (hx : ops[x]? = some ox) (h : Bef ops j x) : ¬ L x := by
  have _ := tr
  have _ := ho
  have _ := hx
  exact fun hL => hnl (h L inv.down fun o' ho' => inv.down x o' ho' hL)

theorem Tra.look : ∀ t ∈ o.looksAt ops, ∀ d, (st j).1.get t = some d → VR S.m d (a.tmps.getD t undef) := by
  intro t ht d hd
  have hj : j < ops.size := (Array.getElem?_eq_some_iff.1 ho).1
  have old : (∀ k ok, k < j → ops[k]? = some ok → ok.dst ≠ some t) → (∀ k ok, L k → ops[k]? = some ok → ok.dst ≠ some t) → VR S.m d (a.tmps.getD t undef) := by
    intro h1 h2
    refine inv.env0 t d h2 ?_
    rw [← tr.envKeep (Nat.zero_le j) (by omega) fun k ok _ hk => h1 k ok hk]
    exact hd
  by_cases hex : ∃ (i : Nat) (oi : Oper), ops[i]? = some oi ∧ oi.dst = some t
  · obtain ⟨i, oi, hi, hdi⟩ := hex
    have hlt : i < ops.size := (Array.getElem?_eq_some_iff.1 hi).1
    rcases Nat.lt_trichotomy i j with q | q | q
    · rcases (tr.row j o ho).pair i oi q hi with hb | ⟨hap, _⟩
      · refine inv.env1 i oi t d (tr.bef inv ho hrd hb) hi hdi ?_
        rw [tr.envKeep (x := i + 1) (by omega) (Nat.le_refl _) fun k ok h1 _ hk h2 => tr.dist hi hk (by omega) hdi h2]
        rw [tr.envKeep (x := i + 1) (b := j) (by omega) (by omega) fun k ok h1 _ hk h2 => tr.dist hi hk (by omega) hdi h2] at hd
        exact hd
      · exact absurd ht ((Oper.apart_spec hap).1 t hdi)
    · subst q
      exact old (fun k ok h1 hk h2 => tr.dist hi hk (by omega) hdi h2) (fun k ok h1 hk h2 => tr.dist hi hk (fun e => hnl (e ▸ h1)) hdi h2)
    · have hLi : ¬ L i := by
        rcases (tr.row i oi hi).pair j o q ho with hb | ⟨hap, _⟩
        · exact tr.aft inv ho hnl hi hb
        · exact absurd ht ((Oper.apart_spec hap).2.2 t hdi)
      exact old (fun k ok h1 hk h2 => tr.dist hi hk (by omega) hdi h2) (fun k ok h1 hk h2 => tr.dist hi hk (fun e => hLi (e ▸ h1)) hdi h2)
  · exact old (fun k ok _ hk h2 => hex ⟨k, ok, hk, h2⟩) (fun k ok _ hk h2 => hex ⟨k, ok, hk, h2⟩)

/-- Where an operation that looks at memory looks, all is as in the text's order. -/
theorem Tra.cutAt (hr : rdO o = true) {i : Nat} (hp : S.m i ≠ none) (hi : i < (st j).2.next)
    (hload : ∀ b, srcO o.op = some b → ∃ v, (st j).1.get b = some v ∧ ∀ u, apartV u v = true → ¬ hits u i) : Cut st ops.size L i j := by
  have hj : j < ops.size := (Array.getElem?_eq_some_iff.1 ho).1
  have clash : ∀ (x : Nat) (ox : Oper) (aa bb : Nat), ops[x]? = some ox → Wr st x i → i < (st x).2.next → tgtO ox.op = some aa → srcO o.op = some bb →
      (aa, bb) ∈ chk → lateO ops x aa = true → lateO ops j bb = true → False := by
    intro x ox aa bb hx hw hix h1 h2 h3 h4 h5
    have hxs : x < ops.size := (Array.getElem?_eq_some_iff.1 hx).1
    obtain ⟨v, hr1, hr2⟩ := hload bb h2
    rcases stepD_cases (e' := (st (x + 1)).1) (h' := (st (x + 1)).2) (tr.stp x ox hx) with ⟨_, d, hop, _⟩ | ⟨_, _, hh⟩
    · obtain ⟨u, q1, q2⟩ := tgt_wr hop h1 hix hw
      have e1 : (st ops.size).1.get aa = some u := by
        rw [tr.envKeep (x := x) (by omega) (Nat.le_refl _) fun k ok hk _ hok => lateO_spec h4 hok hk]; exact q1
      have e2 : (st ops.size).1.get bb = some v := by
        rw [tr.envKeep (x := j) (by omega) (Nat.le_refl _) fun k ok hk _ hok => lateO_spec h5 hok hk]; exact hr1
      exact hr2 u (apartD_spec tr.chks h3 e1 e2) q2
    · exact hw (by rw [hh])
  refine ⟨?_, ?_⟩
  · intro x hx hw
    refine Classical.byContradiction fun hnx => ?_
    have hin : i < (st x).2.next := by
      refine Classical.byContradiction fun hn => hnx ?_
      exact inv.plc x i (by omega) (by omega) (tr.wrLt (by omega) hw) hp
    obtain ⟨ox, hox⟩ := tr.opAt (k := x) (by omega)
    have hwo := tr.wrOld hox hw hin
    rcases (tr.row j o ho).pair x ox hx hox with hb | ⟨_, hm⟩
    · exact hnx (tr.bef inv ho hrd hb)
    · simp only [memO, hwo, hr, Bool.and_self, Bool.not_true, Bool.false_and, Bool.false_or, Bool.or_eq_true] at hm
      rcases hm with hm | hm
      · split at hm
        · rename_i aa bb h1 h2
          simp only [Bool.and_eq_true, List.contains_iff_mem] at hm
          exact clash x ox aa bb hox hw hin h1 h2 hm.1.1 hm.1.2 hm.2
        · cases hm
      · split at hm
        · rename_i h1 h2
          rw [wrO_src tr h1] at hwo; cases hwo
        · cases hm
  · intro x hx hxn hw hLx
    by_cases hxj : x = j
    · subst hxj; exact hnl hLx
    · obtain ⟨ox, hox⟩ := tr.opAt hxn
      have hle := tr.le (k := j) (m := x) hx (by omega)
      have hwo := tr.wrOld hox hw (by omega)
      rcases (tr.row x ox hox).pair j o (by omega) ho with hb | ⟨_, hm⟩
      · exact tr.aft inv ho hnl hox hb hLx
      · simp only [memO, hwo, hr, Bool.and_self, Bool.not_true, Bool.and_false, Bool.false_or, Bool.or_eq_true] at hm
        rcases hm with hm | hm
        · split at hm
          · rename_i h1 h2
            rw [wrO_src tr h2] at hwo; cases hwo
          · cases hm
        · split at hm
          · rename_i h1 h2
            simp only [Bool.and_eq_true, List.contains_iff_mem] at hm
            exact clash x ox _ _ hox hw (by omega) h2 h1 hm.1.1 hm.2 hm.1.2
          · cases hm

end
end
end Go.D
