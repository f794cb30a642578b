/-
  One operation in its place; the static check of a region that draws; its run in the text's order.
-/
import Derived.Test.YtfphfbfjmpbohaaGreatDF
namespace Go.D
variable [Lax]

omit [Lax] in
theorem beq_ne {a b : Nat} (h : a ≠ b) : Nat.beq a b = false := by
  cases hb : Nat.beq a b with
  | false => rfl
  | true => exact absurd (Nat.eq_of_beq_eq_true hb) h

omit [Lax] in
theorem assoc_upd : ∀ {l : List (Nat × DV)} {t : Nat} {x v : DV} {u : Nat}, assoc l t = some x → assoc (upd l t v) u = if t = u then some v else assoc l u
  | [], t, x, v, u, h => by simp [assoc] at h
  | (k, y) :: l, t, x, v, u, h => by
    simp only [assoc, upd] at h ⊢
    by_cases hk : k = t
    · subst hk
      simp only [Nat.beq_refl, cond_true, assoc]
      by_cases hu : k = u
      · subst hu; simp
      · have : Nat.beq k u = false := beq_ne hu
        simp [this, hu]
    · have hk' : Nat.beq k t = false := beq_ne hk
      simp only [hk', cond_false, assoc] at h ⊢
      by_cases hu : k = u
      · subst hu
        simp [Ne.symm hk]
      · have : Nat.beq k u = false := beq_ne hu
        simp only [this, cond_false]
        exact assoc_upd h

omit [Lax] in
theorem E.get_put (e : E) (dst : Option Nat) (v : DV) (u : Nat) : (e.put dst v).get u = if dst = some u then some v else e.get u := by
  cases dst with
  | none => simp [E.put]
  | some t =>
    simp only [E.put, Option.some.injEq]
    split
    · rename_i x hx
      simp only [E.get]
      rw [assoc_upd hx]
      by_cases hu : t = u
      · simp [hu]
      · simp [hu]
    · rename_i hx
      simp only [E.get, assoc]
      by_cases hu : t = u
      · subst hu; simp [hx]
      · have : Nat.beq t u = false := beq_ne hu
        simp [this, hu]

omit [Lax] in
theorem ER.put {σ : Nat → Option SE} {e : E} {a : Act} (he : ER σ e a) {dst : Option Nat} {d : DV} {v : Value} (hv : VR σ d v) (hs : ∀ t, dst = some t → t < a.tmps.size) : ER σ (e.put dst d) (a.put dst v) := by
  intro t x ht
  rw [E.get_put] at ht
  cases dst with
  | none => simp at ht; exact he t x ht
  | some u =>
    simp only [Act.put, Option.some.injEq] at ht ⊢
    by_cases hu : u = t
    · subst hu
      rw [if_pos rfl] at ht
      injection ht with ht; subst ht
      have := hs u rfl
      simp [Array.getD, this]
      exact hv
    · rw [if_neg hu] at ht
      have := he t x ht
      simp only [Array.getD_eq_getD_getElem?] at this ⊢
      rw [Array.getElem?_setIfInBounds_ne hu]
      exact this

omit [Lax] in
theorem Act.put_size (a : Act) (dst : Option Nat) (v : Value) : (a.put dst v).tmps.size = a.tmps.size := by cases dst <;> simp [Act.put]
omit [Lax] in
theorem Act.put_defers' (a : Act) (dst : Option Nat) (v : Value) : (a.put dst v).defers = a.defers := by cases dst <;> rfl

omit [Lax] in
theorem VR.not_bool {σ : Nat → Option SE} {d : DV} {v : Value} (h : VR σ d v) (hd : ∀ b, d ≠ .bool b) (b : Bool) : v ≠ .bool b := by
  rintro rfl
  cases d with
  | bool b => exact hd b rfl
  | ptr r => cases r <;> simp [VR] at h
  | slice r => cases r <;> simp [VR] at h
  | map r => cases r <;> simp [VR] at h
  | _ => simp [VR] at h

omit [Lax] in
theorem undef_ok (σ : Nat → Option SE) : VR σ (.tup []) undef := by simp only [VR]; exact ⟨#[], rfl, .nil⟩

omit [Lax] in
/-- Is it wanted? -/
theorem wanted_ok {σ : Nat → Option SE} {ops : Array Oper} {o : Oper} {e : E} {tmps : Array Value} {b : Bool} (hw : wantedD ops.toList o e = some b)
    (he : ∀ j want t d, o.guard = some (j, want) → (ops[j]?).bind (·.dst) = some t → e.get t = some d → VR σ d (tmps.getD t undef)) : Region.wanted o (yielded ops tmps) = b := by
  unfold wantedD at hw
  unfold Region.wanted
  split at hw
  · rename_i hg; injection hw with hw; try rw [hg]
    try exact hw
  · rename_i j want hg
    rw [hg]
    simp only
    rw [Array.getElem?_toList] at hw
    unfold yielded
    split at hw
    · rename_i hn
      rw [hn]
      injection hw with hw
      try subst hw
      try rfl
    · rename_i d hd
      have he := fun x => he j want d x hg hd
      rw [hd]
      simp only [Option.bind_some]
      split at hw
      · rename_i c hc
        have := he _ hc
        simp only [VR] at this
        have h2 : tmps[d]? = some (.bool c) := by
          rw [Array.getD_eq_getD_getElem?] at this
          cases h3 : tmps[d]? with
          | none => rw [h3] at this; simp [undef] at this
          | some x => rw [h3] at this; simpa using this
        injection hw with hw; subst hw
        rw [h2]
        cases c <;> cases want <;> rfl
      · rename_i v hv hc
        injection hw with hw; subst hw
        have := (he _ hc).not_bool (fun b e => hv b e)
        cases h3 : tmps[d]? with
        | none => rfl
        | some x =>
          have h4 : tmps.getD d undef = x := by rw [Array.getD_eq_getD_getElem?, h3]; rfl
          rw [h4] at this
          cases x <;> simp_all
      · cases hw

def CallsOK' (P : Program) (call : CallF) : Prop := ∀ f args h d h', call f args h = some (d, h') → CallOK P f args h d h'

/-- One operation as it runs. -/
theorem exec_ok {P : Program} {T : TT} (ok : TTok P T) {B : Bd} {S : Sg} {h h' : H} {w : World} {e : E} {a : Act} {call : CallF} {d : DV} {o : Oper} {K : Act → World → Prop} {Q : Exit → Act → World → Prop}
    (hc : CallsOK P call) (s : Sim B S h w) (hF : h'.next ≤ B.f) (he : ER S.m e a) (hop : opD T call e o.op h = some (d, h'))
    (hK : ∀ v S' w', VR S'.m d v → Sim B S' h' w' → Post S h w S' h' w' → K (a.put o.dst v) w') : o.wp P a w K Q := by
  unfold Oper.wp
  cases hcall : isCall o.op with
  | false =>
    obtain ⟨v, w', S', hr, h1, h2, h3, _⟩ := prim_ok ok s hF he hop hcall
    rcases hr with hr | ⟨hr, rfl⟩
    · rw [hr]; exact hK v S' w' h1 h2 h3
    · rw [hr]; exact hK _ S' w' h1 h2 h3
  | true =>
    obtain ⟨f, ds, args', h1, h2, h3⟩ := call_enters (w := w) ok he hop hcall
    rw [h3]
    rcases (hc _ _ _ _ _ h1).2 B S w args' s hF h2 with ⟨hent, hcalls⟩ | ⟨v, w', hrun, S', q1, q2, q3⟩
    · rw [run_callFunc_enters hent, Oper.upon_enter]
      refine hcalls.mono ?_
      rintro e w' ⟨v, rfl, S', q1, q2, q3⟩
      exact hK v S' w' q1 q2 q3
    · rw [hrun]
      exact hK v S' w' q1 q2 q3

omit [Lax] in
theorem stepD_cases {T : TT} {call : CallF} {l : List Oper} {o : Oper} {e e' : E} {h h' : H} (hs : stepD T call l o e h = some (e', h')) :
    (wantedD l o e = some true ∧ ∃ v, opD T call e o.op h = some (v, h') ∧ e' = e.put o.dst v) ∨ (wantedD l o e = some false ∧ e' = e.put o.dst (.tup []) ∧ h' = h) := by
  unfold stepD at hs
  split at hs
  · rename_i hw
    split at hs
    · rename_i v h1 hop
      injection hs with hs; injection hs with e1 e2; subst e1; subst e2
      exact .inl ⟨hw, v, hop, rfl⟩
    · cases hs
  · rename_i hw
    injection hs with hs; injection hs with e1 e2; subst e1; subst e2
    exact .inr ⟨hw, rfl, rfl⟩
  · cases hs

theorem opD_ro {P : Program} {T : TT} {call : CallF} {e : E} {op : Op} {h h' : H} {d : DV} (hc : CallsOK P call) (hop : opD T call e op h = some (d, h')) : RoK h h' := by
  cases hcall : isCall op with
  | false => exact prim_ro hop hcall
  | true =>
    cases op <;> simp only [isCall, Bool.false_eq_true] at hcall
    rename_i c
    obtain ⟨callee, args, argTypes⟩ := c
    cases callee with
    | builtin b => simp at hcall
    | value f =>
      simp only [opD] at hop
      split at hop
      · exact (hc _ _ _ _ _ hop).1
      · cases hop
    | invoke x name =>
      simp only [opD] at hop
      split at hop
      · split at hop
        · exact (hc _ _ _ _ _ hop).1
        · cases hop
      · cases hop

theorem stepD_ro {P : Program} {T : TT} {call : CallF} {l : List Oper} {o : Oper} {e e' : E} {h h' : H} (hc : CallsOK P call) (hs : stepD T call l o e h = some (e', h')) : RoK h h' := by
  rcases stepD_cases hs with ⟨_, v, hop, _⟩ | ⟨_, _, rfl⟩
  · exact opD_ro hc hop
  · exact RoK.refl _

omit [Lax] in
/-- A region in the text's order. -/
theorem trace_of {T : TT} {callf : Oper → CallF} {all : List Oper} : ∀ {l : List Oper} {e : E} {h : H} {fin : E × H}, opsD T callf all l e h = some fin →
    ∃ st : Nat → E × H, st 0 = (e, h) ∧ (∀ k o, l[k]? = some o → stepD T (callf o) all o (st k).1 (st k).2 = some (st (k + 1))) ∧ st l.length = fin
  | [], e, h, fin, hf => by
    simp [opsD] at hf
    exact ⟨fun _ => (e, h), rfl, fun k o hk => by simp at hk, hf⟩
  | o :: l, e, h, fin, hf => by
    simp only [opsD] at hf
    split at hf
    · rename_i e1 h1 hs
      obtain ⟨st, s0, s1, s2⟩ := trace_of hf
      refine ⟨fun k => match k with | 0 => (e, h) | k + 1 => st k, rfl, ?_, s2⟩
      intro k o' hk
      cases k with
      | zero => simp at hk; subst hk; rw [hs]; simp [s0]
      | succ k => simp at hk; exact s1 k o' hk
    · cases hf

/-! The static check. -/

def maskOf (ms : List Nat) (o : Oper) : Nat := o.after.toList.foldr (fun e m => bif Region.binds .any e then (2 ^ e.on ||| ms.getD e.on 0) ||| m else m) 0
def masks : List Oper → List Nat → List Nat
  | [], acc => acc
  | o :: r, acc => masks r (acc ++ [maskOf acc o])

omit [Lax] in
theorem maskOf_bit {ms : List Nat} {x : Nat} : ∀ {l : List Edge}, (l.foldr (fun e m => bif Region.binds .any e then (2 ^ e.on ||| ms.getD e.on 0) ||| m else m) 0).testBit x = true →
    ∃ e ∈ l, Region.binds .any e = true ∧ (x = e.on ∨ (ms.getD e.on 0).testBit x = true)
  | [], h => by simp at h
  | e :: l, h => by
    simp only [List.foldr_cons] at h
    cases hb : Region.binds .any e with
    | false =>
      rw [hb] at h
      obtain ⟨e', h1, h2⟩ := maskOf_bit h
      exact ⟨e', List.mem_cons_of_mem _ h1, h2⟩
    | true =>
      rw [hb] at h
      simp only [cond_true, Nat.testBit_or, Bool.or_eq_true, Nat.testBit_two_pow, decide_eq_true_eq] at h
      rcases h with (h | h) | h
      · exact ⟨e, List.mem_cons_self, hb, .inl h.symm⟩
      · exact ⟨e, List.mem_cons_self, hb, .inr h⟩
      · obtain ⟨e', h1, h2⟩ := maskOf_bit h
        exact ⟨e', List.mem_cons_of_mem _ h1, h2⟩

def rdO (o : Oper) : Bool := Nat.ble 1 (kindOf o.op)
def wrO (bar : List Nat) (o : Oper) : Bool := Nat.beq (kindOf o.op) 3 || (Nat.beq (kindOf o.op) 4 && match o.dst with
  | some d => bar.contains d
  | none => false)

omit [Lax] in
theorem wrO_rd {bar : List Nat} {o : Oper} (h : wrO bar o = true) : rdO o = true := by
  simp only [wrO, Bool.or_eq_true, Bool.and_eq_true, Nat.beq_eq] at h
  simp only [rdO, Nat.ble_eq]
  rcases h with h | ⟨h, _⟩ <;> omega

def lateO (ops : Array Oper) (p a : Nat) : Bool := (ops.toList.drop p).all fun o => o.dst != some a

omit [Lax] in
theorem lateO_spec {ops : Array Oper} {p a : Nat} (h : lateO ops p a = true) {k : Nat} {o : Oper} (hk : ops[k]? = some o) (hp : p ≤ k) : o.dst ≠ some a := by
  unfold lateO at h
  rw [List.all_eq_true] at h
  have := h o (List.mem_iff_getElem?.2 ⟨k - p, by rw [List.getElem?_drop, show p + (k - p) = k by omega, Array.getElem?_toList]; exact hk⟩)
  simpa using this

def memO (bar : List Nat) (chk : List (Nat × Nat)) (ops : Array Oper) (x y : Nat) (ox oy : Oper) : Bool :=
  (!(wrO bar ox && rdO oy) && !(rdO ox && wrO bar oy)) || (match tgtO ox.op, srcO oy.op with
    | some a, some b => chk.contains (a, b) && lateO ops x a && lateO ops y b
    | _, _ => false) || (match srcO ox.op, tgtO oy.op with
    | some b, some a => chk.contains (a, b) && lateO ops x b && lateO ops y a
    | _, _ => false)

def pairO (bar : List Nat) (chk : List (Nat × Nat)) (ops : Array Oper) (ms : List Nat) (x y : Nat) (ox oy : Oper) : Bool :=
  (match ox.dst with
    | some d => oy.dst != some d
    | none => true) && ((ms.getD y 0).testBit x || (ox.apart ops oy && memO bar chk ops x y ox oy))

def rowO (bar : List Nat) (chk : List (Nat × Nat)) (ops : Array Oper) (ms : List Nat) (size y : Nat) (oy : Oper) : Bool :=
  (match oy.dst with
    | some d => Nat.ble (d + 1) size
    | none => true) && Nat.beq (ms.getD y 0) (maskOf ms oy) && (oy.after.toList.all fun e => !Region.binds .any e || Nat.ble (e.on + 1) y) &&
  ((List.range y).all fun x => match ops[x]? with
    | none => true
    | some ox => pairO bar chk ops ms x y ox oy)

def drawOK (bar : List Nat) (chk : List (Nat × Nat)) (ops : Array Oper) (size : Nat) : Bool :=
  (List.range ops.size).all fun y => match ops[y]? with
    | none => true
    | some oy => rowO bar chk ops (masks ops.toList []) size y oy

/-- It comes before, whatever the order. -/
def Bef (ops : Array Oper) (x y : Nat) : Prop := ∀ L : Nat → Prop, (∀ j o, ops[j]? = some o → L j → ∀ e ∈ o.after.toList, Region.binds .any e = true → L e.on) →
  (∀ o, ops[y]? = some o → ∀ e ∈ o.after.toList, Region.binds .any e = true → L e.on) → L x

structure RowOK (bar : List Nat) (chk : List (Nat × Nat)) (ops : Array Oper) (size y : Nat) (oy : Oper) : Prop where
  dst : ∀ d, oy.dst = some d → d < size
  edge : ∀ e ∈ oy.after.toList, Region.binds .any e = true → e.on < y
  dist : ∀ x ox, x < y → ops[x]? = some ox → ∀ d, ox.dst = some d → oy.dst ≠ some d
  pair : ∀ x ox, x < y → ops[x]? = some ox → Bef ops x y ∨ (ox.apart ops oy = true ∧ memO bar chk ops x y ox oy = true)

omit [Lax] in
theorem drawOK_spec {bar : List Nat} {chk : List (Nat × Nat)} {ops : Array Oper} {size : Nat} (h : drawOK bar chk ops size = true) {y : Nat} {oy : Oper} (hy : ops[y]? = some oy) : RowOK bar chk ops size y oy := by
  unfold drawOK at h
  rw [List.all_eq_true] at h
  have hrow : ∀ y oy, ops[y]? = some oy → rowO bar chk ops (masks ops.toList []) size y oy = true := by
    intro y oy hy
    have hlt : y < ops.size := (Array.getElem?_eq_some_iff.1 hy).1
    have := h y (List.mem_range.2 hlt)
    rw [hy] at this
    exact this
  generalize masks ops.toList [] = ms at hrow
  have hbit : ∀ y oy, ops[y]? = some oy → ∀ x, (ms.getD y 0).testBit x = true → Bef ops x y := by
    intro y
    induction y using Nat.strongRecOn with
    | _ y ih =>
      intro oy hy x hx L hL hr
      have h1 := hrow y oy hy
      simp only [rowO, Bool.and_eq_true, Nat.beq_eq, List.all_eq_true, Bool.or_eq_true, Bool.not_eq_true', Nat.ble_eq] at h1
      obtain ⟨⟨⟨_, hm⟩, he⟩, _⟩ := h1
      rw [hm] at hx
      obtain ⟨e, h2, h3, h4⟩ := maskOf_bit hx
      have hLe := hr oy hy e h2 h3
      rcases h4 with h4 | h4
      · rw [h4]; exact hLe
      · have hlt : e.on < y := by
          rcases he e h2 with q | q
          · rw [h3] at q; cases q
          · exact q
        cases ho : ops[e.on]? with
        | none =>
          exfalso
          have := (Array.getElem?_eq_some_iff.1 hy).1
          rw [Array.getElem?_eq_none_iff] at ho
          omega
        | some oe => exact ih e.on hlt oe ho x h4 L hL (fun o hoo e' he' hb => hL e.on o hoo hLe e' he' hb)
  have h1 := hrow y oy hy
  simp only [rowO, Bool.and_eq_true, Nat.beq_eq, List.all_eq_true, Bool.or_eq_true, Bool.not_eq_true', Nat.ble_eq] at h1
  obtain ⟨⟨⟨hd, hm⟩, he⟩, hp⟩ := h1
  have hp' : ∀ x ox, x < y → ops[x]? = some ox → pairO bar chk ops ms x y ox oy = true := by
    intro x ox hx ho
    have := hp x (List.mem_range.2 hx)
    rw [ho] at this
    exact this
  refine ⟨?_, ?_, ?_, ?_⟩
  · intro d hdd
    rw [hdd] at hd
    have hd : Nat.ble (d + 1) size = true := hd
    exact Nat.le_of_ble_eq_true hd
  · intro e h2 h3
    rcases he e h2 with q | q
    · rw [h3] at q; cases q
    · exact q
  · intro x ox hx ho d hdx
    have := hp' x ox hx ho
    simp only [pairO, hdx, Bool.and_eq_true] at this
    simpa using this.1
  · intro x ox hx ho
    have := hp' x ox hx ho
    simp only [pairO, Bool.and_eq_true, Bool.or_eq_true] at this
    rcases this.2 with q | q
    · exact .inl (hbit y oy hy x q)
    · exact .inr q

end Go.D
