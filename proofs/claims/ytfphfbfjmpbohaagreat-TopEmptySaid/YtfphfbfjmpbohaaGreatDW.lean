/-
  More fuel, the same answer; what code comes to, as a weakest precondition. No program is named here.
-/
import Derived.Test.YtfphfbfjmpbohaaGreatDB
namespace Go.D

def Le {α : Type} (a b : Option α) : Prop := ∀ r, a = some r → b = some r
def LeC (c d : CallF) : Prop := ∀ f args h, Le (c f args h) (d f args h)

theorem Le.refl {α : Type} (a : Option α) : Le a a := fun _ h => h
theorem LeC.refl (c : CallF) : LeC c c := fun _ _ _ => Le.refl _

section
variable {P : TT} {c d : CallF}

theorem opD_le (hc : LeC c d) (e : E) (op : Op) (h : H) : Le (opD P c e op h) (opD P d e op h) := by
  intro r hr
  cases op
  case call x =>
   obtain ⟨callee, args, ts⟩ := x
   cases callee with
   | builtin b => exact hr
   | value f =>
    simp only [opD] at hr ⊢
    split at hr
    · exact hc _ _ _ r hr
    · cases hr
   | invoke x n =>
    simp only [opD] at hr ⊢
    split at hr
    · split at hr
      · exact hc _ _ _ r hr
      · cases hr
    · cases hr
  case makeFunc fn fs cs => cases fn <;> exact hr
  case makeMap t x => cases x <;> exact hr
  all_goals exact hr

theorem quiet_le (hc : LeC c d) : LeC (quiet c) (quiet d) := by
  intro f args h r hr
  unfold quiet at hr ⊢
  split at hr
  · rename_i v h' hv
    rw [hc _ _ _ _ hv]; exact hr
  · cases hr

theorem callOf_le (hc : LeC c d) (bar : List Nat) (o : Oper) : LeC (callOf c (quiet c) bar o) (callOf d (quiet d) bar o) := by
  unfold callOf
  cases o.dst with
  | none => exact quiet_le hc
  | some x =>
    by_cases hb : bar.contains x = true
    · simp only [hb, if_true]; exact hc
    · simp only [hb]; exact quiet_le hc

theorem stepD_le (hc : LeC c d) (ops : List Oper) (o : Oper) (e : E) (h : H) : Le (stepD P c ops o e h) (stepD P d ops o e h) := by
  intro r hr
  unfold stepD at hr ⊢
  split at hr
  · split at hr
    · rename_i hv
      simp only [opD_le hc _ _ _ _ hv]; exact hr
    · cases hr
  · exact hr
  · cases hr

theorem opsD_le {c d : Oper → CallF} (hc : ∀ o, LeC (c o) (d o)) (ops : List Oper) : ∀ (l : List Oper) (e : E) (h : H), Le (opsD P c ops l e h) (opsD P d ops l e h)
  | [], _, _ => Le.refl _
  | o :: l, e, h => by
    intro r hr
    simp only [opsD] at hr ⊢
    split at hr
    · rename_i hv
      simp only [stepD_le (hc o) _ _ _ _ _ hv]
      exact opsD_le hc ops l _ _ r hr
    · cases hr

theorem regionD_le (hc : LeC c d) (m : Meta) (id : Nat) (ops : List Oper) (dr : Bool) (e : E) (h : H) : Le (regionD P m c id ops dr e h) (regionD P m d id ops dr e h) := by
  intro r hr
  unfold regionD at hr ⊢
  split at hr
  · rename_i hd
    rw [if_pos hd]
    split at hr
    · rename_i hv
      simp only [opsD_le (fun o => callOf_le hc _ o) _ _ _ _ _ hv]; exact hr
    · cases hr
  · rename_i hd
    rw [if_neg hd]
    exact opsD_le (fun _ => hc) _ _ _ _ r hr

theorem loopD_le {b b' : E → H → Option (Ex × E × H)} (hb : ∀ e h, Le (b e h) (b' e h)) : ∀ {n m : Nat}, n ≤ m → ∀ e h, Le (loopD b n e h) (loopD b' m e h)
  | 0, _, _, e, h => by intro r hr; simp [loopD] at hr
  | n + 1, 0, hn, _, _ => by omega
  | n + 1, m + 1, hn, e, h => by
    intro r hr
    simp only [loopD] at hr ⊢
    split at hr
    · rename_i hv
      simp only [hb _ _ _ hv]
      exact loopD_le hb (by omega) _ _ r hr
    · rename_i hv
      have h1 := hb _ _ _ hr
      rw [h1]
      split
      · rename_i e1 h1' he
        injection he with he
        exact (hv e1 h1' (by rw [hr, he])).elim
      · rfl

theorem codeD_le (hc : LeC c d) {n m : Nat} (hn : n ≤ m) (mt : Meta) (code : Code) : ∀ e h, Le (codeD P mt c n code e h) (codeD P mt d m code e h) := by
  induction code with
  | skip => intro e h; exact Le.refl _
  | ret => intro e h; exact Le.refl _
  | exit id => intro e h; exact Le.refl _
  | region id ops dr =>
    intro e h r hr
    simp only [codeD] at hr ⊢
    split at hr
    · rename_i hv
      simp only [regionD_le hc _ _ _ _ _ _ _ hv]; exact hr
    · cases hr
  | seq a b ha hb =>
    intro e h r hr
    simp only [codeD] at hr ⊢
    split at hr
    · rename_i hv
      simp only [ha _ _ _ hv]
      exact hb _ _ r hr
    · rename_i hv
      have h1 := ha _ _ _ hr
      rw [h1]
      split
      · rename_i e1 h1' he
        injection he with he
        exact (hv e1 h1' (by rw [hr, he])).elim
      · rfl
  | cond x a b ha hb =>
    intro e h r hr
    simp only [codeD] at hr ⊢
    split at hr
    · exact ha _ _ r hr
    · exact hb _ _ r hr
    · cases hr
  | block id b hb =>
    intro e h r hr
    simp only [codeD] at hr ⊢
    split at hr
    · rename_i hv
      simp only [hb _ _ _ hv]; exact hr
    · rename_i hv
      have h1 := hb _ _ _ hr
      rw [h1]
      split
      · rename_i i e1 h1' he
        injection he with he
        exact (hv i e1 h1' (by rw [hr, he])).elim
      · rfl
  | loop b hb =>
    intro e h r hr
    simp only [codeD] at hr ⊢
    exact loopD_le (fun e h => hb e h) hn e h r hr
  | _ => intro e h r hr; simp [codeD] at hr

theorem bodyD_le (hc : LeC c d) {n m : Nat} (hn : n ≤ m) (fn : Func) (mt : Meta) (args : List DV) (h : H) : Le (bodyD P c n fn mt args h) (bodyD P d m fn mt args h) := by
  intro r hr
  unfold bodyD at hr ⊢
  split at hr
  · cases hr
  · rename_i b hb
    split at hr
    · rename_i hv
      simp only [codeD_le hc hn _ _ _ _ _ hv]; exact hr
    · rename_i hv
      simp only [codeD_le hc hn _ _ _ _ _ hv]; exact hr
    · cases hr
end

theorem callD_le (c : Cfg) : ∀ {n m : Nat}, n ≤ m → LeC (callD c n) (callD c m)
  | 0, _, _ => by intro f args h r hr; simp [callD] at hr
  | n + 1, 0, hn => by omega
  | n + 1, m + 1, hn => by
    intro f args h r hr
    simp only [callD] at hr ⊢
    split at hr
    · rename_i hg; exact hr
    · rename_i hg
      split at hr
      · rename_i hf
        exact bodyD_le (callD_le c (by omega)) (by omega) _ _ _ _ r hr
      · cases hr

/-! What a call, code, operations come to. -/

def wpCall (c : Cfg) (f : FuncId) (args : List DV) (h : H) (Q : DV → H → Prop) : Prop := ∃ n v h', callD c n f args h = some (v, h') ∧ Q v h'

def wpCode (c : Cfg) (m : Meta) (code : Code) (e : E) (h : H) (Q : Ex → E → H → Prop) : Prop := ∃ n ex e' h', codeD c.P m (callD c n) n code e h = some (ex, e', h') ∧ Q ex e' h'

/-- How the calls of a region are made: bar: none: not drawn. -/
def callsOf (c : Cfg) (n : Nat) (bar : Option (List Nat)) (o : Oper) : CallF := match bar with
  | none => callD c n
  | some b => callOf (callD c n) (quiet (callD c n)) b o

def wpOps (c : Cfg) (bar : Option (List Nat)) (ops l : List Oper) (e : E) (h : H) (Q : E → H → Prop) : Prop := ∃ n e' h', opsD c.P (callsOf c n bar) ops l e h = some (e', h') ∧ Q e' h'

section
variable {c : Cfg}

theorem wpCall_un {f : FuncId} {args : List DV} {h : H} {Q : DV → H → Prop} (hw : wpCall c f args h Q) : ∃ n v h', callD c n f args h = some (v, h') ∧ Q v h' := hw

theorem wpCall.mono {f : FuncId} {args : List DV} {h : H} {Q R : DV → H → Prop} (hw : wpCall c f args h Q) (hq : ∀ v h', Q v h' → R v h') : wpCall c f args h R := by
  obtain ⟨n, v, h', h1, h2⟩ := hw
  exact ⟨n, v, h', h1, hq _ _ h2⟩

theorem wpCode.mono {m : Meta} {code : Code} {e : E} {h : H} {Q R : Ex → E → H → Prop} (hw : wpCode c m code e h Q) (hq : ∀ x e' h', Q x e' h' → R x e' h') : wpCode c m code e h R := by
  obtain ⟨n, x, e', h', h1, h2⟩ := hw
  exact ⟨n, x, e', h', h1, hq _ _ _ h2⟩

theorem wpOps.mono {bar : Option (List Nat)} {ops l : List Oper} {e : E} {h : H} {Q R : E → H → Prop} (hw : wpOps c bar ops l e h Q) (hq : ∀ e' h', Q e' h' → R e' h') : wpOps c bar ops l e h R := by
  obtain ⟨n, e', h', h1, h2⟩ := hw
  exact ⟨n, e', h', h1, hq _ _ h2⟩

/-- One call, two accounts of it. -/
theorem wpCall.and {f : FuncId} {args : List DV} {h : H} {Q R : DV → H → Prop} (hw : wpCall c f args h Q) (hv : wpCall c f args h R) : wpCall c f args h fun v h' => Q v h' ∧ R v h' := by
  obtain ⟨n, v, h', h1, h2⟩ := hw
  obtain ⟨m, v2, h2', k1, k2⟩ := hv
  have a1 := callD_le c (Nat.le_max_left n m) f args h _ h1
  have a2 := callD_le c (Nat.le_max_right n m) f args h _ k1
  rw [a1] at a2
  injection a2 with a2; injection a2 with b1 b2; subst b1; subst b2
  exact ⟨_, v, h', a1, h2, k2⟩

theorem wpCode_skip {m : Meta} {e : E} {h : H} {Q : Ex → E → H → Prop} (hq : Q .normal e h) : wpCode c m .skip e h Q := ⟨0, _, _, _, rfl, hq⟩
theorem wpCode_ret {m : Meta} {e : E} {h : H} {Q : Ex → E → H → Prop} (hq : Q .ret e h) : wpCode c m .ret e h Q := ⟨0, _, _, _, rfl, hq⟩
theorem wpCode_exit {m : Meta} {i : Nat} {e : E} {h : H} {Q : Ex → E → H → Prop} (hq : Q (.exit i) e h) : wpCode c m (.exit i) e h Q := ⟨0, _, _, _, rfl, hq⟩

/-- What is owed behind the first part of a row; behind a block; behind a round; behind a body. -/
def qSeq (c : Cfg) (m : Meta) (b : Code) (Q : Ex → E → H → Prop) : Ex → E → H → Prop
  | .normal, e, h => wpCode c m b e h Q
  | x, e, h => Q x e h
def qBlock (id : Nat) (Q : Ex → E → H → Prop) : Ex → E → H → Prop
  | .exit i, e, h => if i = id then Q .normal e h else Q (.exit i) e h
  | x, e, h => Q x e h
def qLoop (I : Nat → E → H → Prop) (k : Nat) (Q : Ex → E → H → Prop) : Ex → E → H → Prop
  | .normal, e, h => ∃ k', k' < k ∧ I k' e h
  | x, e, h => Q x e h
def qEnd (P : TT) (fn : Func) (Q : DV → H → Prop) : Ex → E → H → Prop
  | .exit _, _, _ => False
  | _, e, h => ∃ vs, resultsD P e h fn.results.toList = some vs ∧ Q (one vs) h
def qRun (Q : Ex → E → H → Prop) : E → H → Prop := Q .normal
def qDraw (m : Meta) (id : Nat) (Q : Ex → E → H → Prop) (e : E) (h : H) : Prop := apartD e (chkOf m.chks id) = true ∧ Q .normal e h

theorem seq_normal {m : Meta} {b : Code} {Q : Ex → E → H → Prop} {e : E} {h : H} (hw : wpCode c m b e h Q) : qSeq c m b Q .normal e h := hw
theorem seq_exit {m : Meta} {b : Code} {Q : Ex → E → H → Prop} {i : Nat} {e : E} {h : H} (hw : Q (.exit i) e h) : qSeq c m b Q (.exit i) e h := hw
theorem seq_ret {m : Meta} {b : Code} {Q : Ex → E → H → Prop} {e : E} {h : H} (hw : Q .ret e h) : qSeq c m b Q .ret e h := hw
theorem block_normal {id : Nat} {Q : Ex → E → H → Prop} {e : E} {h : H} (hw : Q .normal e h) : qBlock id Q .normal e h := hw
theorem block_ret {id : Nat} {Q : Ex → E → H → Prop} {e : E} {h : H} (hw : Q .ret e h) : qBlock id Q .ret e h := hw
theorem block_exit {id : Nat} {Q : Ex → E → H → Prop} {e : E} {h : H} (hw : Q .normal e h) : qBlock id Q (.exit id) e h := by
  simp only [qBlock, if_true]; exact hw
theorem block_over {id i : Nat} {Q : Ex → E → H → Prop} {e : E} {h : H} (hi : Nat.beq i id = false) (hw : Q (.exit i) e h) : qBlock id Q (.exit i) e h := by
  have : i ≠ id := by intro q; subst q; simp at hi
  simp only [qBlock, if_neg this]; exact hw
theorem loop_normal {I : Nat → E → H → Prop} {k : Nat} {Q : Ex → E → H → Prop} {e : E} {h : H} (hw : ∃ k', k' < k ∧ I k' e h) : qLoop I k Q .normal e h := hw
theorem loop_exit {I : Nat → E → H → Prop} {k i : Nat} {Q : Ex → E → H → Prop} {e : E} {h : H} (hw : Q (.exit i) e h) : qLoop I k Q (.exit i) e h := hw
theorem loop_ret {I : Nat → E → H → Prop} {k : Nat} {Q : Ex → E → H → Prop} {e : E} {h : H} (hw : Q .ret e h) : qLoop I k Q .ret e h := hw
theorem end_normal {P : TT} {fn : Func} {Q : DV → H → Prop} {e : E} {h : H} {vs : List DV} (hr : resultsD P e h fn.results.toList = some vs) (hq : Q (one vs) h) : qEnd P fn Q .normal e h := ⟨vs, hr, hq⟩
theorem end_ret {P : TT} {fn : Func} {Q : DV → H → Prop} {e : E} {h : H} {vs : List DV} (hr : resultsD P e h fn.results.toList = some vs) (hq : Q (one vs) h) : qEnd P fn Q .ret e h := ⟨vs, hr, hq⟩
theorem run_it {Q : Ex → E → H → Prop} {e : E} {h : H} (hw : Q .normal e h) : qRun Q e h := hw
theorem draw_it {m : Meta} {id : Nat} {Q : Ex → E → H → Prop} {e : E} {h : H} (ha : apartD e (chkOf m.chks id) = true) (hw : Q .normal e h) : qDraw m id Q e h := ⟨ha, hw⟩

theorem codeD_more {m : Meta} {code : Code} {n k : Nat} (hn : n ≤ k) {e : E} {h : H} {r : Ex × E × H} (hr : codeD c.P m (callD c n) n code e h = some r) : codeD c.P m (callD c k) k code e h = some r :=
  codeD_le (callD_le c hn) hn m code e h r hr

theorem wpCode_seq {m : Meta} {a b : Code} {e : E} {h : H} {Q : Ex → E → H → Prop}
    (hw : wpCode c m a e h (qSeq c m b Q)) : wpCode c m (.seq a b) e h Q := by
  obtain ⟨n, x, e', h', h1, h2⟩ := hw
  cases x with
  | normal =>
    obtain ⟨k, x2, e2, h2', k1, k2⟩ := h2
    refine ⟨max n k, x2, e2, h2', ?_, k2⟩
    simp only [codeD, codeD_more (Nat.le_max_left n k) h1]
    exact codeD_more (Nat.le_max_right n k) k1
  | exit i => exact ⟨n, _, e', h', by simp only [codeD, h1], h2⟩
  | ret => exact ⟨n, _, e', h', by simp only [codeD, h1], h2⟩

theorem wpCode_cond {m : Meta} {x : Operand} {a b : Code} {e : E} {h : H} {Q : Ex → E → H → Prop} {t : Bool} (hx : e.eval x = some (.bool t))
    (ha : t = true → wpCode c m a e h Q) (hb : t = false → wpCode c m b e h Q) : wpCode c m (.cond x a b) e h Q := by
  cases t with
  | true =>
    obtain ⟨n, x', e', h', h1, h2⟩ := ha rfl
    exact ⟨n, x', e', h', by simp only [codeD, hx]; exact h1, h2⟩
  | false =>
    obtain ⟨n, x', e', h', h1, h2⟩ := hb rfl
    exact ⟨n, x', e', h', by simp only [codeD, hx]; exact h1, h2⟩

theorem wpCode_block {m : Meta} {id : Nat} {b : Code} {e : E} {h : H} {Q : Ex → E → H → Prop}
    (hw : wpCode c m b e h (qBlock id Q)) : wpCode c m (.block id b) e h Q := by
  obtain ⟨n, x, e', h', h1, h2⟩ := hw
  cases x with
  | exit i =>
    by_cases hi : i = id
    · simp only [qBlock, hi, if_true] at h2
      exact ⟨n, _, e', h', by simp only [codeD, h1, if_pos hi], h2⟩
    · simp only [qBlock, hi, if_false] at h2
      exact ⟨n, _, e', h', by simp only [codeD, h1, if_neg hi], h2⟩
  | normal => exact ⟨n, _, e', h', by simp only [codeD, h1], h2⟩
  | ret => exact ⟨n, _, e', h', by simp only [codeD, h1], h2⟩

/-- A loop, by a measure: I k: what holds at the head, k rounds at most to come. -/
theorem wpCode_loop {m : Meta} {b : Code} {e : E} {h : H} {Q : Ex → E → H → Prop} (I : Nat → E → H → Prop) (k : Nat) (h0 : I k e h)
    (hb : ∀ k e h, I k e h → wpCode c m b e h (qLoop I k Q)) : wpCode c m (.loop b) e h Q := by
  induction k using Nat.strongRecOn generalizing e h with
  | _ k ih =>
    obtain ⟨n, x, e', h', h1, h2⟩ := hb k e h h0
    have lift : ∀ N, n < N → codeD c.P m (callD c N) N b e h = some (x, e', h') := fun N hN => codeD_more (by omega) h1
    cases x with
    | normal =>
      obtain ⟨k', hk, hI⟩ := h2
      obtain ⟨j, x2, e2, h2', j1, j2⟩ := ih k' hk hI
      refine ⟨max n j + 1, x2, e2, h2', ?_, j2⟩
      have q1 := lift (max n j + 1) (by omega)
      have q2 := codeD_more (c := c) (m := m) (code := .loop b) (n := j) (k := max n j) (by omega) j1
      simp only [codeD] at q2 ⊢
      simp only [loopD, q1]
      exact loopD_le (fun e h => codeD_le (callD_le c (by omega)) (by omega) m b e h) (by omega) _ _ _ q2
    | exit i => exact ⟨n + 1, _, e', h', by simp only [codeD, loopD, lift (n + 1) (by omega)], h2⟩
    | ret => exact ⟨n + 1, _, e', h', by simp only [codeD, loopD, lift (n + 1) (by omega)], h2⟩

theorem wpCode_region {m : Meta} {id : Nat} {ops : Array Oper} {e : E} {h : H} {Q : Ex → E → H → Prop}
    (hw : wpOps c none ops.toList ops.toList { vs := e.vs, ts := [] } h (qRun Q)) : wpCode c m (.region id ops false) e h Q := by
  obtain ⟨n, e', h', h1, h2⟩ := hw
  refine ⟨n, _, e', h', ?_, h2⟩
  have h1 : opsD c.P (fun _ => callD c n) ops.toList ops.toList { vs := e.vs, ts := [] } h = some (e', h') := h1
  simp only [codeD, regionD, Bool.false_eq_true, if_false, h1]

theorem wpCode_draw {m : Meta} {id : Nat} {ops : Array Oper} {e : E} {h : H} {Q : Ex → E → H → Prop}
    (hw : wpOps c (some (chkOf m.bars id)) ops.toList ops.toList { vs := e.vs, ts := [] } h (qDraw m id Q)) : wpCode c m (.region id ops true) e h Q := by
  obtain ⟨n, e', h', h1, h2, h3⟩ := hw
  refine ⟨n, _, e', h', ?_, h3⟩
  have h1 : opsD c.P (callOf (callD c n) (quiet (callD c n)) (chkOf m.bars id)) ops.toList ops.toList { vs := e.vs, ts := [] } h = some (e', h') := h1
  simp only [codeD, regionD, if_true, h1, h2]

theorem wpOps_nil {bar : Option (List Nat)} {ops : List Oper} {e : E} {h : H} {Q : E → H → Prop} (hq : Q e h) : wpOps c bar ops [] e h Q := ⟨0, _, _, rfl, hq⟩

theorem callsOf_le {n k : Nat} (hn : n ≤ k) (bar : Option (List Nat)) (o : Oper) : LeC (callsOf c n bar o) (callsOf c k bar o) := by
  unfold callsOf
  cases bar with
  | none => exact callD_le c hn
  | some b => exact callOf_le (callD_le c hn) b o

theorem opsD_more {bar : Option (List Nat)} {ops l : List Oper} {n k : Nat} (hn : n ≤ k) {e : E} {h : H} {r : E × H} (hr : opsD c.P (callsOf c n bar) ops l e h = some r) : opsD c.P (callsOf c k bar) ops l e h = some r :=
  opsD_le (fun o => callsOf_le hn bar o) ops l e h r hr

/-- A call that no operation makes. -/
def noCall : CallF := fun _ _ _ => none
theorem noCall_le (d : CallF) : LeC noCall d := fun _ _ _ _ h => by simp [noCall] at h

/-- A slot is written. -/
def putE (e : E) (d : Option Nat) (v : DV) : E := e.put d v
theorem putE_eq (e : E) (d : Option Nat) (v : DV) : putE e d v = e.put d v := rfl

/-- An operation that is no call. -/
theorem wpOps_op {bar : Option (List Nat)} {ops l : List Oper} {o : Oper} {e : E} {h : H} {Q : E → H → Prop} {v : DV} {h1 : H} (hg : o.guard = none) (ho : opD c.P noCall e o.op h = some (v, h1))
    (hq : wpOps c bar ops l (putE e o.dst v) h1 Q) : wpOps c bar ops (o :: l) e h Q := by
  obtain ⟨n, e', h', k1, k2⟩ := hq
  refine ⟨n, e', h', ?_, k2⟩
  simp only [opsD, stepD, wantedD, hg, opD_le (noCall_le _) e o.op h _ ho]
  exact k1

theorem wpOps_load {bar : Option (List Nat)} {ops l : List Oper} {o : Oper} {e : E} {h : H} {Q : E → H → Prop} {t : TypeId} {a : Operand} {r : Ref} {v : DV} (hg : o.guard = none) (ho : o.op = .load t a)
    (ha : e.eval a = some (.ptr (some r))) (ht : tagg c.P t = some false) (hv : h.ld r = some v) (hq : wpOps c bar ops l (putE e o.dst v) h Q) : wpOps c bar ops (o :: l) e h Q := by
  refine wpOps_op hg (v := v) (h1 := h) ?_ hq
  rw [ho]
  simp only [opD, ha, loadD]
  cases tsize c.P t <;> simp [ht, hv]

theorem wpOps_loadAgg {bar : Option (List Nat)} {ops l : List Oper} {o : Oper} {e : E} {h : H} {Q : E → H → Prop} {t : TypeId} {a : Operand} {r : Ref} {n : Nat} {cs : List DV} (hg : o.guard = none) (ho : o.op = .load t a)
    (ha : e.eval a = some (.ptr (some r))) (ht : tagg c.P t = some true) (hs : tsize c.P t = some n) (hv : h.ldn r n = some cs) (hq : wpOps c bar ops l (putE e o.dst (.agg cs)) h Q) : wpOps c bar ops (o :: l) e h Q := by
  refine wpOps_op hg (v := .agg cs) (h1 := h) ?_ hq
  rw [ho]
  simp [opD, ha, loadD, ht, hs, hv]

theorem wpOps_index {bar : Option (List Nat)} {ops l : List Oper} {o : Oper} {e : E} {h : H} {Q : E → H → Prop} {t el : TypeId} {x i : Operand} {r : Ref} {n sz : Nat} {cp : Option Nat} {z : Nat} {k : IntKind} {j : Int} (hg : o.guard = none) (ho : o.op = .indexAddr t x i)
    (hx : e.eval x = some (.slice (some r) n cp z)) (hi : e.eval i = some (.int k j)) (ht : und c.P t = some (.slice el)) (hs : tsize c.P el = some sz) (hj : 0 ≤ j ∧ j < n)
    (hq : wpOps c bar ops l (putE e o.dst (.ptr (some (r.1, r.2 + j.toNat * sz)))) h Q) : wpOps c bar ops (o :: l) e h Q := by
  refine wpOps_op hg (v := .ptr (some (r.1, r.2 + j.toNat * sz))) (h1 := h) ?_ hq
  rw [ho]
  simp [opD, hx, hi, indexAddrD, ht, hs, hj]

theorem wpOps_store {bar : Option (List Nat)} {ops l : List Oper} {o : Oper} {e : E} {h h' : H} {Q : E → H → Prop} {t : TypeId} {a x : Operand} {r : Ref} {v : DV} {n : Nat} (hg : o.guard = none) (ho : o.op = .store t a x)
    (ha : e.eval a = some (.ptr (some r))) (hx : e.eval x = some v) (hs : tsize c.P t = some n) (hl : v.cellsOf.length = n) (hst : h.st r v.cellsOf = some h') (hq : wpOps c bar ops l (putE e o.dst (.tup [])) h' Q) : wpOps c bar ops (o :: l) e h Q := by
  refine wpOps_op hg (v := .tup []) (h1 := h') ?_ hq
  rw [ho]
  simp [opD, ha, hx, storeD, hs, hl, hst]

/-- A guarded operation. -/
theorem wpOps_guard {bar : Option (List Nat)} {ops l : List Oper} {o : Oper} {e : E} {h : H} {Q : E → H → Prop} {t : Bool} (hw : wantedD ops o e = some t)
    (ht : t = true → wpOps c bar ops ({ o with guard := none } :: l) e h Q) (hf : t = false → wpOps c bar ops l (putE e o.dst (.tup [])) h Q) : wpOps c bar ops (o :: l) e h Q := by
  cases t with
  | true =>
    obtain ⟨n, e', h', k1, k2⟩ := ht rfl
    refine ⟨n, e', h', ?_, k2⟩
    have hcall : callsOf c n bar { o with guard := none } = callsOf c n bar o := by
      unfold callsOf callOf; rfl
    simp only [opsD, stepD, wantedD, hcall] at k1
    simp only [opsD, stepD, hw]
    exact k1
  | false =>
    obtain ⟨n, e', h', k1, k2⟩ := hf rfl
    refine ⟨n, e', h', ?_, k2⟩
    simp only [opsD, stepD, hw]
    exact k1

theorem callD_more {n k : Nat} (hn : n ≤ k) {f : FuncId} {args : List DV} {h : H} {r : DV × H} (hr : callD c n f args h = some r) : callD c k f args h = some r := callD_le c hn f args h r hr

/-- A call in a region that does not draw. -/
theorem wpOps_call {ops l : List Oper} {o : Oper} {e : E} {h : H} {Q : E → H → Prop} {f : FuncId} {args : List DV} (hg : o.guard = none)
    (ho : ∀ call : CallF, opD c.P call e o.op h = call f args h)
    (hw : wpCall c f args h fun v h1 => wpOps c none ops l (putE e o.dst v) h1 Q) : wpOps c none ops (o :: l) e h Q := by
  obtain ⟨n, v, h1, k1, m, e', h', k2, k3⟩ := hw
  refine ⟨max n m, e', h', ?_, k3⟩
  have hc : callsOf c (max n m) none o = callD c (max n m) := rfl
  simp only [opsD, stepD, wantedD, hg, hc, ho, callD_more (Nat.le_max_left n m) k1]
  exact opsD_more (Nat.le_max_right n m) k2

/-- A call in a region that draws, apart from all else. -/
theorem wpOps_callBar {ops l : List Oper} {o : Oper} {e : E} {h : H} {Q : E → H → Prop} {f : FuncId} {args : List DV} {b : List Nat} (hg : o.guard = none)
    (hb : (match o.dst with | some d => b.contains d | none => false) = true) (ho : ∀ call : CallF, opD c.P call e o.op h = call f args h)
    (hw : wpCall c f args h fun v h1 => wpOps c (some b) ops l (putE e o.dst v) h1 Q) : wpOps c (some b) ops (o :: l) e h Q := by
  obtain ⟨n, v, h1, k1, m, e', h', k2, k3⟩ := hw
  refine ⟨max n m, e', h', ?_, k3⟩
  have hc : callsOf c (max n m) (some b) o = callD c (max n m) := by
    unfold callsOf callOf
    cases hd : o.dst with
    | none => rw [hd] at hb; cases hb
    | some d => rw [hd] at hb; simp only [hb, if_true]
  simp only [opsD, stepD, wantedD, hg, hc, ho, callD_more (Nat.le_max_left n m) k1]
  exact opsD_more (Nat.le_max_right n m) k2

/-- The same heap, another bound of what may be written. -/
def roOf (h : H) (r : Nat) : H := { h with ro := r }

/-- A quiet call in a region that draws. -/
theorem wpOps_callQ {ops l : List Oper} {o : Oper} {e : E} {h : H} {Q : E → H → Prop} {f : FuncId} {args : List DV} {b : List Nat} (hg : o.guard = none)
    (hb : (match o.dst with | some d => b.contains d | none => false) = false) (ho : ∀ call : CallF, opD c.P call e o.op h = call f args h)
    (hw : wpCall c f args (roOf h h.next) fun v h1 => wpOps c (some b) ops l (putE e o.dst v) (roOf h1 h.ro) Q) : wpOps c (some b) ops (o :: l) e h Q := by
  obtain ⟨n, v, h1, k1, m, e', h', k2, k3⟩ := hw
  refine ⟨max n m, e', h', ?_, k3⟩
  have hc : callsOf c (max n m) (some b) o = quiet (callD c (max n m)) := by
    unfold callsOf callOf
    cases hd : o.dst with
    | none => rfl
    | some d => rw [hd] at hb; simp only [hb, Bool.false_eq_true, if_false]
  have k1' : callD c (max n m) f args { h with ro := h.next } = some (v, h1) := callD_more (Nat.le_max_left n m) k1
  simp only [opsD, stepD, wantedD, hg, hc, ho, quiet, k1']
  exact opsD_more (Nat.le_max_right n m) k2

theorem ro_back {x : Nat} {bar : Option (List Nat)} {ops l : List Oper} {e : E} {h : H} {Q : E → H → Prop} (hw : wpOps c bar ops l e h Q) : wpOps c bar ops l e (roOf (roOf h x) h.ro) Q := hw

/-- A function of the table is entered. -/
theorem wpCall_fn {f : FuncId} {fn : Func} {m : Meta} {body : Code} {args : List DV} {h : H} {Q : DV → H → Prop} (ho : c.ora f = none) (hf : c.fn f = some (fn, m)) (hb : fn.body = some body)
    (hw : wpCode c m body { vs := params 0 args ++ m.named.map fun t => (t, .tup []), ts := [] } h (qEnd c.P fn Q)) : wpCall c f args h Q := by
  obtain ⟨n, x, e', h', h1, h2⟩ := hw
  cases x with
  | exit i => exact h2.elim
  | normal =>
    obtain ⟨vs, h3, h4⟩ := h2
    exact ⟨n + 1, one vs, h', by simp only [callD, ho, hf, bodyD, hb, h1, h3, Option.map_some], h4⟩
  | ret =>
    obtain ⟨vs, h3, h4⟩ := h2
    exact ⟨n + 1, one vs, h', by simp only [callD, ho, hf, bodyD, hb, h1, h3, Option.map_some], h4⟩

/-- A function told by a contract. -/
theorem wpCall_ora {f : FuncId} {g : List DV → H → Option (DV × H)} {args : List DV} {h h' : H} {v : DV} {Q : DV → H → Prop} (ho : c.ora f = some g) (hg : g args h = some (v, h')) (hq : Q v h') : wpCall c f args h Q :=
  ⟨1, v, h', by simp only [callD, ho, hg], hq⟩

end
attribute [irreducible] wpOps wpCode wpCall putE qSeq qBlock qLoop qEnd qRun qDraw roOf
end Go.D
