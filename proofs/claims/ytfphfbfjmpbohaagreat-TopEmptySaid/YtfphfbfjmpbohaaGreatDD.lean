/-
  D's operations are the model's: one operation but a call of a function.
-/
import Derived.Test.YtfphfbfjmpbohaaGreatDZ
namespace Go.D
variable [Lax]

/-- The slots that are known hold what D says. -/
def ER (σ : Nat → Option SE) (e : E) (a : Act) : Prop := ∀ t d, e.get t = some d → VR σ d (a.tmps.getD t undef)

omit [Lax] in
theorem ER.mono {σ τ : Nat → Option SE} {e : E} {a : Act} (hx : Ext σ τ) (h : ER σ e a) : ER τ e a := fun t d ht => (h t d ht).mono hx

section
variable {σ : Nat → Option SE} {e : E} {a : Act} (he : ER σ e a)
include he

omit [Lax] in
theorem eval_ok {x : Operand} {d : DV} (h : e.eval x = some d) : VR σ d (a.eval x) := by
  cases x with
  | tmp t => exact he t d h
  | const v => exact cv_ok σ h
  | global g => simp [E.eval] at h
  | func f => simp only [E.eval, Option.some.injEq] at h; subst h; simp only [VR]; exact ⟨#[], rfl, .nil⟩

omit [Lax] in
theorem all_ok : ∀ {xs : List Operand} {ds : List DV}, e.all xs = some ds → VRs σ ds (xs.map a.eval)
  | [], ds, h => by simp [E.all] at h; subst h; exact .nil
  | x :: xs, ds, h => by
    unfold E.all at h
    split at h
    · rename_i v vs h1 h2
      injection h with h; subst h
      exact .cons (eval_ok he h1) (all_ok h2)
    · cases h

omit [Lax] in
theorem opt_ok {x : Option Operand} {d : Option DV} (h : e.opt x = some d) : OR σ d (x.map a.eval) := by
  cases x with
  | none => simp [E.opt] at h; subst h; rfl
  | some x =>
    simp only [E.opt, Option.map_eq_some_iff] at h
    obtain ⟨v, hv, rfl⟩ := h
    exact ⟨_, rfl, eval_ok he hv⟩

omit [Lax] in
theorem parts_ok : ∀ {xs : List (Nat × Operand)} {ds : List (Nat × DV)}, e.parts xs = some ds → PR σ ds (xs.map fun (i, x) => (i, a.eval x))
  | [], ds, h => by simp [E.parts] at h; subst h; simp [PR]
  | (i, x) :: xs, ds, h => by
    unfold E.parts at h
    split at h
    · rename_i v vs h1 h2
      injection h with h; subst h
      simp only [List.map_cons, PR]
      exact ⟨_, _, rfl, eval_ok he h1, parts_ok h2⟩
    · cases h

end

section
variable {P : Program} {T : TT} {σ : Nat → Option SE}

omit [Lax] in
theorem max_ok : ∀ {xs : List DV} {ys : List Value} {x d : DV} {x' : Value}, foldD max2D x xs = some d → VR σ x x' → VRs σ xs ys → ∃ v, (∀ w, (ys.foldlM Builtin.max2 x').run P w = .ok v w) ∧ VR σ d v
  | [], ys, x, d, x', h, hx, hs => by
    simp [VRs] at hs; simp [foldD] at h; subst hs; subst h
    exact ⟨x', fun w => by simp [Sem.run_pure], hx⟩
  | y :: xs, ys, x, d, x', h, hx, hs => by
    simp only [VRs] at hs
    obtain ⟨y', ys', rfl, hy, hs⟩ := hs
    simp only [foldD, Option.bind_eq_some_iff] at h
    obtain ⟨z, hz, h⟩ := h
    unfold max2D at hz
    split at hz
    · rename_i k p k' q
      split at hz
      · rename_i hk; subst hk
        injection hz with hz; subst hz
        simp only [VR] at hx hy; subst hx; subst hy
        obtain ⟨v, hv, hr⟩ := max_ok (x' := .int k (if q > p then q else p)) h (by simp [VR]) hs
        exact ⟨v, fun w => by simp only [List.foldlM_cons, Sem.run_bind, Builtin.max2, Sem.run_pure, Result.andThen_ok, hv], hr⟩
      · cases hz
    · cases hz

omit [Lax] in
theorem min_ok : ∀ {xs : List DV} {ys : List Value} {x d : DV} {x' : Value}, foldD min2D x xs = some d → VR σ x x' → VRs σ xs ys → ∃ v, (∀ w, (ys.foldlM Builtin.min2 x').run P w = .ok v w) ∧ VR σ d v
  | [], ys, x, d, x', h, hx, hs => by
    simp [VRs] at hs; simp [foldD] at h; subst hs; subst h
    exact ⟨x', fun w => by simp [Sem.run_pure], hx⟩
  | y :: xs, ys, x, d, x', h, hx, hs => by
    simp only [VRs] at hs
    obtain ⟨y', ys', rfl, hy, hs⟩ := hs
    simp only [foldD, Option.bind_eq_some_iff] at h
    obtain ⟨z, hz, h⟩ := h
    unfold min2D at hz
    split at hz
    · rename_i k p k' q
      split at hz
      · rename_i hk; subst hk
        injection hz with hz; subst hz
        simp only [VR] at hx hy; subst hx; subst hy
        obtain ⟨v, hv, hr⟩ := min_ok (x' := .int k (if q < p then q else p)) h (by simp [VR]) hs
        exact ⟨v, fun w => by simp only [List.foldlM_cons, Sem.run_bind, Builtin.min2, Sem.run_pure, Result.andThen_ok, hv], hr⟩
      · cases hz
    · cases hz

end

/-- Does an operation write to what is there? -/
def writes : Op → Bool
  | .store _ _ _ => true
  | .mapUpdate _ _ _ _ => true
  | .call c => match c.callee, c.args.toList with
    | .builtin .append, .const (.slice none _ _) :: _ => false
    | .builtin .append, _ => true
    | .builtin .copy, _ => true
    | _, _ => false
  | _ => false

def isConv : Op → Bool
  | .convert _ _ _ => true
  | _ => false

def isCall : Op → Bool
  | .call c => match c.callee with
    | .builtin _ => false
    | _ => true
  | _ => false

/-- What one operation comes to. -/
def Does (B : Bd) (S : Sg) (h : H) (w : World) (d : DV) (h' : H) (k : Bool) (r : Result Next) : Prop :=
  ∃ v w' S', (r = .ok (.value v) w' ∨ (r = .ok .skip w' ∧ v = undef)) ∧ VR S'.m d v ∧ Sim B S' h' w' ∧ Post S h w S' h' w' ∧ (k = true → Keep h w h' w')

section
variable {P : Program} {T : TT} (ok : TTok P T) {B : Bd} {S : Sg} {h h' : H} {w : World} {e : E} {a : Act} {call : CallF} {d : DV}

omit [Lax] in
theorem buildSlice_next {t : TypeId} {n : Nat} {ps : List (Nat × DV)} (hop : buildSliceD T t n ps h = some (d, h')) {f : Nat} (hF : h'.next ≤ f) : h.next < f := by
  unfold buildSliceD at hop
  split at hop
  · cases hop
  · split at hop
    · split at hop
      · split at hop
        · injection hop with hop; injection hop with _ e2; subst e2; exact hF
        · cases hop
      · cases hop
    · cases hop
omit [Lax] in
theorem makeSlice_next {t : TypeId} {l c : DV} (hop : makeSliceD T t l c h = some (d, h')) {f : Nat} (hF : h'.next ≤ f) : h.next < f := by
  unfold makeSliceD at hop
  split at hop
  · split at hop
    · split at hop
      · injection hop with hop; injection hop with _ e2; subst e2; exact hF
      · cases hop
    · cases hop
  · cases hop

theorem Does.pure {v : Value} (s : Sim B S h w) (hv : VR S.m d v) {k : Bool} {r : Result Next} (hr : r = .ok (.value v) w) : Does B S h w d h k r :=
  ⟨v, w, S, .inl hr, hv, s, Post.refl _ _ _, fun _ => Keep.same (Same.refl w)⟩

include ok

theorem prim_ok {o : Oper} (s : Sim B S h w) (hF : h'.next ≤ B.f) (he : ER S.m e a) (hop : opD T call e o.op h = some (d, h')) (hc : isCall o.op = false) :
    Does B S h w d h' (!writes o.op && !isConv o.op) ((execOp a.eval o).run P w) := by
  obtain ⟨dst, op, type, pos, after, guard⟩ := o
  simp only at hop hc ⊢
  cases op <;> simp only [opD, reduceCtorEq] at hop
  case move x =>
    simp only [Option.map_eq_some_iff] at hop
    obtain ⟨v, hv, hop⟩ := hop
    injection hop with e1 e2; subst e1; subst e2
    exact .pure s (eval_ok he hv) (by simp [execOp])
  case assign x =>
    simp only [Option.map_eq_some_iff] at hop
    obtain ⟨v, hv, hop⟩ := hop
    injection hop with e1 e2; subst e1; subst e2
    exact .pure s (eval_ok he hv) (by simp [execOp])
  case pick c x y =>
    split at hop
    · rename_i hcv
      have := eval_ok he hcv
      simp only [VR] at this
      simp only [Option.map_eq_some_iff] at hop
      obtain ⟨v, hv, hop⟩ := hop
      injection hop with e1 e2; subst e1; subst e2
      exact .pure s (eval_ok he hv) (by simp [execOp, this, asBool])
    · rename_i hcv
      have := eval_ok he hcv
      simp only [VR] at this
      simp only [Option.map_eq_some_iff] at hop
      obtain ⟨v, hv, hop⟩ := hop
      injection hop with e1 e2; subst e1; subst e2
      exact .pure s (eval_ok he hv) (by simp [execOp, this, asBool])
    · cases hop
  case alloc t =>
    simp only [Option.map_eq_some_iff] at hop
    obtain ⟨z, hz, hop⟩ := hop
    injection hop with e1 e2; subst e1; subst e2
    obtain ⟨v, w', S', h1, h2, h3, h4, h5⟩ := alloc_ok ok s (show h.next < B.f from hF) hz
    exact ⟨v, w', S', .inl (by simp only [execOp, Sem.run_bind, h1, Result.andThen_ok, Sem.run_pure]), h2, h3, h4, fun _ => h5⟩
  case box t x =>
    simp only [Option.map_eq_some_iff] at hop
    obtain ⟨z, hz, hop⟩ := hop
    injection hop with e1 e2; subst e1; subst e2
    obtain ⟨v, w', S', h1, h2, h3, h4, h5⟩ := box_ok (P := P) (t := t) s (show h.next < B.f from hF) (eval_ok he hz)
    exact ⟨v, w', S', .inl (by simp only [execOp, Sem.run_bind, h1, Result.andThen_ok, Sem.run_pure]), h2, h3, h4, fun _ => h5⟩
  case build t ps =>
    split at hop
    · rename_i vs hvs
      simp only [Option.map_eq_some_iff] at hop
      obtain ⟨z, hz, hop⟩ := hop
      injection hop with e1 e2; subst e1; subst e2
      obtain ⟨v, hv, hr⟩ := build_ok (qs := ps.map fun (i, x) => (i, a.eval x)) ok hz (by simpa using parts_ok he hvs)
      exact .pure s hr (by simp only [execOp, Sem.run_bind, hv, Result.andThen_ok, Sem.run_pure])
    · cases hop
  case buildSlice t n ps =>
    split at hop
    · rename_i vs hvs
      obtain ⟨v, w', S', h1, h2, h3, h4, h5⟩ := buildSlice_ok (qs := ps.map fun (i, x) => (i, a.eval x)) ok s (buildSlice_next hop hF) hop (by simpa using parts_ok he hvs)
      exact ⟨v, w', S', .inl (by simp only [execOp, Sem.run_bind, h1, Result.andThen_ok, Sem.run_pure]), h2, h3, h4, fun _ => h5⟩
    · cases hop
  case load t x =>
    split at hop
    · rename_i v hv
      simp only [Option.map_eq_some_iff] at hop
      obtain ⟨z, hz, hop⟩ := hop
      injection hop with e1 e2; subst e1; subst e2
      obtain ⟨u, hu, hr⟩ := load_ok ok hz (eval_ok he hv) (fun r _ => s.obj r.1)
      exact .pure s hr (by simp only [execOp, Sem.run_bind, hu, Result.andThen_ok, Sem.run_pure])
    · cases hop
  case store t x y =>
    split at hop
    · rename_i p q hp hq
      simp only [Option.map_eq_some_iff] at hop
      obtain ⟨z, hz, hop⟩ := hop
      injection hop with e1 e2; subst e1; subst e2
      obtain ⟨w', h1, h2, h3⟩ := store_ok ok s hz (eval_ok he hp) (eval_ok he hq)
      exact ⟨undef, w', S, .inr ⟨by simp only [execOp, Sem.run_bind, h1, Result.andThen_ok, Sem.run_pure], rfl⟩, by simp only [VR]; exact ⟨#[], rfl, .nil⟩, h2, h3, fun q => by simp [writes] at q⟩
    · cases hop
  case nilCheck x =>
    split at hop
    · rename_i v hv
      simp only [Option.map_eq_some_iff] at hop
      obtain ⟨z, hz, hop⟩ := hop
      injection hop with e1 e2; subst e1; subst e2
      have hv' := eval_ok he hv
      unfold nilCheckD at hz
      split at hz <;> (try cases hz)
      · have h2 := hv'
        simp only [VR] at h2; obtain ⟨se, _, h2⟩ := h2
        exact .pure s hv' (by simp [execOp, h2])
      · have h2 := hv'
        simp only [VR] at h2; obtain ⟨se, h2, _⟩ := h2
        exact .pure s hv' (by simp [execOp, h2])
      · have h2 := hv'
        simp only [VR] at h2; obtain ⟨se, h2, _⟩ := h2
        exact .pure s hv' (by simp [execOp, h2])
    · cases hop
  case binOp op t x y yt =>
    split at hop
    · rename_i p q hp hq
      simp only [Option.map_eq_some_iff] at hop
      obtain ⟨z, hz, hop⟩ := hop
      injection hop with e1 e2; subst e1; subst e2
      obtain ⟨v, hv, hr⟩ := bin_ok (xo := x) (yo := y) ok hz (eval_ok he hp) (eval_ok he hq)
      exact .pure s hr (by simp only [execOp, Sem.run_bind] at hv ⊢; rw [hv]; simp only [Result.andThen_ok, Sem.run_pure])
    · cases hop
  case unOp op t x =>
    split at hop
    · rename_i p hp
      simp only [Option.map_eq_some_iff] at hop
      obtain ⟨z, hz, hop⟩ := hop
      injection hop with e1 e2; subst e1; subst e2
      obtain ⟨v, hv, hr⟩ := un_ok (P := P) hz (eval_ok he hp)
      exact .pure s hr (by simp only [execOp, Sem.run_bind, hv, Result.andThen_ok, Sem.run_pure])
    · cases hop
  case convert t u x =>
    split at hop
    · rename_i p hp
      obtain ⟨v, w', S', h1, h2, h3, h4⟩ := conv_ok ok s hF hop (eval_ok he hp)
      exact ⟨v, w', S', .inl (by simp only [execOp, Sem.run_bind, h1, Result.andThen_ok, Sem.run_pure]), h2, h3, h4, fun hk => by simp [isConv] at hk⟩
    · cases hop
  case makeInterface t x =>
    split at hop
    · cases hop
    · rename_i u v hne hu hv
      injection hop with hop; injection hop with e1 e2; subst e1; subst e2
      have hv' := eval_ok he hv
      refine .pure (v := .iface t (a.eval x)) s (by simp only [VR]; exact ⟨_, rfl, hv'⟩) ?_
      simp only [execOp, Sem.run_bind]
      have : (Instr.makeInterface t (a.eval x)).run P w = .ok (.iface t (a.eval x)) w := by
        unfold Instr.makeInterface
        simp only [Sem.run_bind, run_underlying (und_ok ok hu), Result.andThen_ok]
        cases u <;> first | exact (hne _ rfl).elim | rfl
      rw [this]; simp
    · cases hop
  case makeFunc fn first caps =>
    cases fn <;> simp only [reduceCtorEq] at hop
    rename_i f
    split at hop
    · rename_i hf
      simp only [Option.map_eq_some_iff] at hop
      obtain ⟨vs, hvs, hop⟩ := hop
      injection hop with e1 e2; subst e1; subst e2
      have hf' : first = #[] := by simpa using hf
      subst hf'
      refine .pure (v := .func (.func f) #[] (caps.map a.eval)) s (by simp only [VR]; exact ⟨_, rfl, by simpa using all_ok he hvs⟩) ?_
      simp [execOp, Instr.makeFunc]
    · cases hop
  case makeMap t r =>
    cases r <;> simp only [reduceCtorEq] at hop
    split at hop
    · injection hop with hop; injection hop with e1 e2; subst e1; subst e2
      obtain ⟨v, w', S', h1, h2, h3, h4, h5⟩ := makeMap_ok (P := P) s (show h.next < B.f from hF) t
      exact ⟨v, w', S', .inl (by simp only [execOp, Option.map_none, Sem.run_bind, h1, Result.andThen_ok, Sem.run_pure]), h2, h3, h4, fun _ => h5⟩
    · cases hop
  case makeSlice t l c =>
    split at hop
    · rename_i p q hp hq
      obtain ⟨v, w', S', h1, h2, h3, h4, h5⟩ := makeSlice_ok ok s (makeSlice_next hop hF) hop (eval_ok he hp) (eval_ok he hq)
      exact ⟨v, w', S', .inl (by simp only [execOp, Sem.run_bind, h1, Result.andThen_ok, Sem.run_pure]), h2, h3, h4, fun _ => h5⟩
    · cases hop
  case slice t x lo hi mx =>
    split at hop
    · rename_i p l u m hp hl hu hm
      simp only [Option.map_eq_some_iff] at hop
      obtain ⟨z, hz, hop⟩ := hop
      injection hop with e1 e2; subst e1; subst e2
      obtain ⟨v, hv, hr⟩ := slice_ok ok hz (eval_ok he hp) (opt_ok he hl) (opt_ok he hu) (opt_ok he hm)
      exact .pure s hr (by simp only [execOp, Sem.run_bind, hv, Result.andThen_ok, Sem.run_pure])
    · cases hop
  case fieldAddr t x f =>
    split at hop
    · rename_i p hp
      simp only [Option.map_eq_some_iff] at hop
      obtain ⟨z, hz, hop⟩ := hop
      injection hop with e1 e2; subst e1; subst e2
      obtain ⟨v, hv, hr⟩ := fieldAddr_ok ok hz (eval_ok he hp)
      exact .pure s hr (by simp only [execOp, Sem.run_bind, hv, Result.andThen_ok, Sem.run_pure])
    · cases hop
  case field t x f =>
    split at hop
    · rename_i p hp
      simp only [Option.map_eq_some_iff] at hop
      obtain ⟨z, hz, hop⟩ := hop
      injection hop with e1 e2; subst e1; subst e2
      obtain ⟨v, hv, hr⟩ := field_ok ok hz (eval_ok he hp)
      exact .pure s hr (by simp only [execOp, Sem.run_bind, hv, Result.andThen_ok, Sem.run_pure])
    · cases hop
  case indexAddr t x i =>
    split at hop
    · rename_i p q hp hq
      simp only [Option.map_eq_some_iff] at hop
      obtain ⟨z, hz, hop⟩ := hop
      injection hop with e1 e2; subst e1; subst e2
      obtain ⟨v, hv, hr⟩ := indexAddr_ok ok hz (eval_ok he hp) (eval_ok he hq)
      exact .pure s hr (by simp only [execOp, Sem.run_bind, hv, Result.andThen_ok, Sem.run_pure])
    · cases hop
  case index t x i =>
    split at hop
    · rename_i p q hp hq
      simp only [Option.map_eq_some_iff] at hop
      obtain ⟨z, hz, hop⟩ := hop
      injection hop with e1 e2; subst e1; subst e2
      obtain ⟨v, hv, hr⟩ := index_ok ok hz (eval_ok he hp) (eval_ok he hq)
      exact .pure s hr (by simp only [execOp, Sem.run_bind, hv, Result.andThen_ok, Sem.run_pure])
    · cases hop
  case lookup t x k c =>
    split at hop
    · rename_i p q hp hq
      simp only [Option.map_eq_some_iff] at hop
      obtain ⟨z, hz, hop⟩ := hop
      injection hop with e1 e2; subst e1; subst e2
      obtain ⟨v, hv, hr⟩ := lookup_ok ok s.obj hz (eval_ok he hp) (eval_ok he hq)
      exact .pure s hr (by simp only [execOp, Sem.run_bind, hv, Result.andThen_ok, Sem.run_pure])
    · cases hop
  case mapUpdate t x k y =>
    split at hop
    · rename_i p q r hp hq hr
      simp only [Option.map_eq_some_iff] at hop
      obtain ⟨z, hz, hop⟩ := hop
      injection hop with e1 e2; subst e1; subst e2
      obtain ⟨w', h1, h2, h3⟩ := mapUpdate_ok ok s hz (eval_ok he hp) (eval_ok he hq) (eval_ok he hr)
      exact ⟨undef, w', S, .inr ⟨by simp only [execOp, Sem.run_bind, h1, Result.andThen_ok, Sem.run_pure], rfl⟩, by simp only [VR]; exact ⟨#[], rfl, .nil⟩, h2, h3, fun q => by simp [writes] at q⟩
    · cases hop
  case typeAssert x xt t c =>
    split at hop
    · rename_i p hp
      simp only [Option.map_eq_some_iff] at hop
      obtain ⟨z, hz, hop⟩ := hop
      injection hop with e1 e2; subst e1; subst e2
      obtain ⟨v, hv, hr⟩ := assert_ok (xt := xt) ok hz (eval_ok he hp)
      exact .pure s hr (by simp only [execOp, Sem.run_bind, hv, Result.andThen_ok, Sem.run_pure])
    · cases hop
  case extract x i =>
    split at hop
    · rename_i vs hp
      simp only [Option.map_eq_some_iff] at hop
      obtain ⟨z, hz, hop⟩ := hop
      injection hop with e1 e2; subst e1; subst e2
      have hv := eval_ok he hp
      simp only [VR] at hv
      obtain ⟨arr, harr, hrs⟩ := hv
      obtain ⟨v, hvi, hr⟩ := hrs.get hz
      have hvi' : arr[i]? = some v := by simpa using hvi
      refine .pure s hr ?_
      have : (Instr.extract (a.eval x) i).run P w = .ok v w := by rw [harr]; simp [Instr.extract, hvi']
      simp only [execOp, Sem.run_bind, this, Result.andThen_ok, Sem.run_pure]
    · cases hop
  case call c =>
    obtain ⟨callee, args, argTypes⟩ := c
    cases callee with
    | value f => simp [isCall] at hc
    | invoke x n => simp [isCall] at hc
    | builtin b =>
      simp only at hop
      split at hop
      · rename_i vs hvs
        have hvr := all_ok he hvs
        have hargs : (args.map a.eval).toList = args.toList.map a.eval := by simp
        have toA : ∀ {α : Type} {x : Array α} {l : List α}, x.toList = l → x = l.toArray := fun e => by rw [← e]
        unfold builtinD at hop
        split at hop
        · rename_i t x hts
          simp only [Option.map_eq_some_iff] at hop
          obtain ⟨z, hz, hop⟩ := hop
          injection hop with e1 e2; subst e1; subst e2
          rw [← hargs] at hvr
          simp only [VRs] at hvr
          obtain ⟨x', l, hl, hx, rfl⟩ := hvr
          obtain ⟨v, hv, hr⟩ := len_ok (ty := type) ok s.obj hz hx
          refine .pure s hr ?_
          simp only [execOp, resolve, Sem.run_bind, Sem.run_pure, Result.andThen_ok, invoke, builtin, toA hts, toA hl, hv]
        · rename_i t xt y x hts
          rw [← hargs] at hvr
          simp only [VRs] at hvr
          obtain ⟨s', l, hl, hs, x', l', rfl, hx, rfl⟩ := hvr
          obtain ⟨v, w', S', h1, h2, h3, h4, h5⟩ := append_ok (ty := type) ok s hF hop hs hx
          refine ⟨v, w', S', .inl ?_, h2, h3, h4, fun hk => ?_⟩
          · simp only [execOp, resolve, Sem.run_bind, Sem.run_pure, Result.andThen_ok, invoke, builtin, toA hts, toA hl, h1]
          · have hw : writes (.call { callee := .builtin .append, args := args, argTypes := argTypes }) = false := by simpa [isConv] using hk
            simp only [writes] at hw
            split at hw
            · rename_i n c rest _ hq
              rw [hq] at hvs
              unfold E.all at hvs
              split at hvs
              · rename_i v1 vs1 hv1 hv2
                injection hvs with hvs
                injection hvs with e1 _
                subst e1
                simp only [E.eval] at hv1
                have : v1 = .slice none 0 (some 0) 0 := by
                  cases n <;> cases c <;> simp [cv] at hv1
                  exact hv1.symm
                exact h5 _ _ _ this
              · cases hvs
            · cases hw
            · cases hw
            · rename_i q1 q2 q3
              first | exact (q1 rfl).elim | exact (q2 rfl).elim | exact (q3 rfl).elim
        · rename_i t u y x hts
          rw [← hargs] at hvr
          simp only [VRs] at hvr
          obtain ⟨s', l, hl, hs, x', l', rfl, hx, rfl⟩ := hvr
          obtain ⟨v, w', S', h1, h2, h3, h4⟩ := copy_ok (xt := u) (ty := type) ok s hop hs hx
          refine ⟨v, w', S', .inl ?_, h2, h3, h4, fun hk => ?_⟩
          · simp only [execOp, resolve, Sem.run_bind, Sem.run_pure, Result.andThen_ok, invoke, builtin, toA hts, toA hl, h1]
          · simp [writes] at hk
        · rename_i x l
          simp only [Option.map_eq_some_iff] at hop
          obtain ⟨z, hz, hop⟩ := hop
          injection hop with e1 e2; subst e1; subst e2
          rw [← hargs] at hvr
          simp only [VRs] at hvr
          obtain ⟨x', l', hl, hx, hls⟩ := hvr
          obtain ⟨v, hv, hr⟩ := max_ok (P := P) hz hx hls
          refine .pure s hr ?_
          simp only [execOp, resolve, Sem.run_bind, Sem.run_pure, Result.andThen_ok, invoke, builtin, Builtin.max_, hl, hv]
        · rename_i x l
          simp only [Option.map_eq_some_iff] at hop
          obtain ⟨z, hz, hop⟩ := hop
          injection hop with e1 e2; subst e1; subst e2
          rw [← hargs] at hvr
          simp only [VRs] at hvr
          obtain ⟨x', l', hl, hx, hls⟩ := hvr
          obtain ⟨v, hv, hr⟩ := min_ok (P := P) hz hx hls
          refine .pure s hr ?_
          simp only [execOp, resolve, Sem.run_bind, Sem.run_pure, Result.andThen_ok, invoke, builtin, Builtin.min_, hl, hv]
        · cases hop
      · cases hop

end
end Go.D
