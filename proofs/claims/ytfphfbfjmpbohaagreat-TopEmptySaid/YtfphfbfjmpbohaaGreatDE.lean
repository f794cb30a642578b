/-
  One operation in its place: what is wanted, what it writes; calls; a region in the text's order.
-/
import Derived.Test.YtfphfbfjmpbohaaGreatDD
import Derived.Orders
namespace Go.D
variable [Lax]

/-- Nothing lies where nothing was made. -/
def HW (h : H) : Prop := ∀ i, h.next ≤ i → h.get i = none

/-- D's own frame: below ro nothing turns. -/
def RoK (h h' : H) : Prop := h'.ro = h.ro ∧ h.next ≤ h'.next ∧ (h.ro ≤ h.next → ∀ i, i < h.ro → h'.get i = h.get i) ∧ (HW h → HW h')

omit [Lax] in
theorem RoK.refl (h : H) : RoK h h := ⟨rfl, Nat.le_refl _, fun _ _ _ => rfl, id⟩
omit [Lax] in
theorem RoK.trans {a b c : H} (h : RoK a b) (k : RoK b c) : RoK a c :=
  ⟨k.1.trans h.1, Nat.le_trans h.2.1 k.2.1, fun hr i hi => (k.2.2.1 (by rw [h.1]; exact Nat.le_trans hr h.2.1) i (by rw [h.1]; exact hi)).trans (h.2.2.1 hr i hi), fun hw => k.2.2.2 (h.2.2.2 hw)⟩
omit [Lax] in
theorem RoK.new (h : H) (o : DObj) : RoK h (h.new o) := ⟨rfl, Nat.le_succ _, fun hr i hi => by rw [H.get_new, if_neg (by omega)], fun hw i hi => by
  simp at hi; rw [H.get_new, if_neg (by omega)]; exact hw i (by omega)⟩
omit [Lax] in
theorem RoK.put {h : H} {i : Nat} (hi : h.ro ≤ i) (hg : h.get i ≠ none) (o : DObj) : RoK h (h.put i o) := ⟨rfl, Nat.le_refl _, fun hr j hj => by rw [H.get_put, if_neg (by omega)], fun hw j hj => by
  rw [H.get_put]; split
  · rename_i e; subst e; exact absurd (hw _ hj) hg
  · exact hw j hj⟩
omit [Lax] in
theorem H.cells_ne {h : H} {b : Nat} {cs : List DV} (e : h.cells b = some cs) : h.get b ≠ none := by
  rw [H.cells_some e]; simp
omit [Lax] in
theorem H.ldn_ne {h : H} {r : Ref} {n : Nat} {ds : List DV} (e : h.ldn r n = some ds) : h.get r.1 ≠ none := by
  simp only [H.ldn, Option.bind_eq_some_iff] at e
  obtain ⟨cs, hc, _⟩ := e
  exact H.cells_ne hc
omit [Lax] in
theorem mapOf_ne {h : H} {r : Nat} {es : List (DV × DV)} (e : mapOf h r = some es) : h.get r ≠ none := by
  unfold mapOf at e
  split at e
  · rename_i hg; rw [hg]; simp
  · cases e
omit [Lax] in
theorem RoK.st {h h' : H} {r : Ref} {vs : List DV} (hs : h.st r vs = some h') : RoK h h' := by
  simp only [H.st, Option.bind_eq_some_iff] at hs
  obtain ⟨cs, hcs, hi⟩ := hs
  split at hi
  · rename_i hc
    injection hi with hi; subst hi
    exact RoK.put hc.1 (H.cells_ne hcs) _
  · cases hi

section
variable {T : TT}

omit [Lax] in
theorem RoK.append {t xt : TypeId} {s x d : DV} {h h' : H} (ha : appendD T t xt s x h = some (d, h')) : RoK h h' := by
  unfold appendD at ha
  split at ha
  · split at ha
    · split at ha
      · cases ha
      · split at ha
        · injection ha with ha; injection ha with _ ha; subst ha; exact RoK.refl _
        · split at ha
          · cases ha
          · split at ha
            · cases ha
            · split at ha
              · cases ha
              · split at ha
                · split at ha
                  · injection ha with ha; injection ha with _ ha; subst ha; exact RoK.new _ _
                  · cases ha
                · split at ha
                  · cases ha
                  · split at ha
                    · split at ha
                      · simp only [Option.map_eq_some_iff] at ha
                        obtain ⟨h2, hs, ha⟩ := ha
                        injection ha with _ ha; subst ha; exact RoK.st hs
                      · split at ha
                        · injection ha with ha; injection ha with _ ha; subst ha; exact RoK.new _ _
                        · cases ha
                    · split at ha
                      · rename_i hro
                        split at ha
                        · rename_i hld
                          injection ha with ha; injection ha with _ ha; subst ha; exact (RoK.put hro (H.ldn_ne hld) _).trans (RoK.new _ _)
                        · cases ha
                      · cases ha
    · cases ha
  · cases ha

omit [Lax] in
theorem RoK.copy {t : TypeId} {s x d : DV} {h h' : H} (ha : copyD T t s x h = some (d, h')) : RoK h h' := by
  unfold copyD at ha
  split at ha
  · split at ha
    · split at ha
      · injection ha with ha; injection ha with _ ha; subst ha; exact RoK.refl _
      · split at ha
        · simp only [Option.map_eq_some_iff] at ha
          obtain ⟨h2, hs, ha⟩ := ha
          injection ha with _ ha; subst ha; exact RoK.st hs
        · cases ha
    · cases ha
  · cases ha

omit [Lax] in
theorem RoK.conv {s t : TypeId} {x d : DV} {h h' : H} (ha : convD T s t x h = some (d, h')) : RoK h h' := by
  unfold convD at ha
  split at ha
  · injection ha with ha; injection ha with _ ha; subst ha; exact RoK.refl _
  · injection ha with ha; injection ha with _ ha; subst ha; exact RoK.refl _
  · split at ha
    · injection ha with ha; injection ha with _ ha; subst ha; exact RoK.refl _
    · cases ha
  · split at ha
    · split at ha
      · simp only [Option.map_eq_some_iff] at ha
        obtain ⟨s, _, ha⟩ := ha
        injection ha with _ ha; subst ha; exact RoK.refl _
      · cases ha
    · cases ha
  · split at ha
    · split at ha
      · injection ha with ha; injection ha with _ ha; subst ha; exact RoK.refl _
      · cases ha
    · cases ha
  · split at ha
    · split at ha
      · injection ha with ha; injection ha with _ ha; subst ha; exact RoK.new _ _
      · cases ha
    · cases ha
  · cases ha

omit [Lax] in
theorem RoK.mapUpdate {t : TypeId} {x k v : DV} {h h' : H} (ha : mapUpdateD T t x k v h = some h') : RoK h h' := by
  unfold mapUpdateD at ha
  split at ha
  · split at ha
    · rename_i hmo
      split at ha
      · rename_i hc
        split at ha
        · split at ha
          · split at ha
            · injection ha with ha; subst ha; exact RoK.put hc.2 (mapOf_ne hmo) _
            · cases ha
          · cases ha
        · injection ha with ha; subst ha; exact RoK.put hc.2 (mapOf_ne hmo) _
        · cases ha
      · cases ha
    · cases ha
  · cases ha

omit [Lax] in
/-- A map of a value alone. -/
theorem map_snd {x : Option DV} {h h' : H} {d : DV} (e : x.map (·, h) = some (d, h')) : h' = h := by
  simp only [Option.map_eq_some_iff] at e
  obtain ⟨v, _, e⟩ := e
  injection e with _ e
  exact e.symm

omit [Lax] in
theorem prim_ro {call : CallF} {e : E} {op : Op} {h h' : H} {d : DV} (hop : opD T call e op h = some (d, h')) (hc : isCall op = false) : RoK h h' := by
  cases op <;> simp only [opD, reduceCtorEq] at hop
  case move x => rw [map_snd hop]; exact RoK.refl _
  case assign x => rw [map_snd hop]; exact RoK.refl _
  case pick c x y =>
    split at hop
    · rw [map_snd hop]; exact RoK.refl _
    · rw [map_snd hop]; exact RoK.refl _
    · cases hop
  case alloc t =>
    simp only [Option.map_eq_some_iff] at hop
    obtain ⟨z, hz, hop⟩ := hop
    injection hop with e1 e2; subst e2; exact RoK.new _ _
  case box t x =>
    simp only [Option.map_eq_some_iff] at hop
    obtain ⟨z, hz, hop⟩ := hop
    injection hop with e1 e2; subst e2; exact RoK.new _ _
  case build t ps =>
    split at hop
    · rw [map_snd hop]; exact RoK.refl _
    · cases hop
  case buildSlice t n ps =>
    split at hop
    · unfold buildSliceD at hop
      split at hop
      · cases hop
      · split at hop
        · split at hop
          · split at hop
            · injection hop with hop; injection hop with e1 e2; subst e2; exact RoK.new _ _
            · cases hop
          · cases hop
        · cases hop
    · cases hop
  case load t x =>
    split at hop
    · rw [map_snd hop]; exact RoK.refl _
    · cases hop
  case store t x y =>
    split at hop
    · simp only [Option.map_eq_some_iff] at hop
      obtain ⟨z, hz, hop⟩ := hop
      injection hop with e1 e2; subst e2
      unfold storeD at hz
      split at hz
      · split at hz
        · split at hz
          · exact RoK.st hz
          · cases hz
        · cases hz
      · cases hz
    · cases hop
  case nilCheck x =>
    split at hop
    · rw [map_snd hop]; exact RoK.refl _
    · cases hop
  case binOp op t x y yt =>
    split at hop
    · rw [map_snd hop]; exact RoK.refl _
    · cases hop
  case unOp op t x =>
    split at hop
    · rw [map_snd hop]; exact RoK.refl _
    · cases hop
  case convert t u x =>
    split at hop
    · exact RoK.conv hop
    · cases hop
  case makeInterface t x =>
    split at hop
    · cases hop
    · injection hop with hop; injection hop with e1 e2; subst e2; exact RoK.refl _
    · cases hop
  case makeFunc fn first caps =>
    cases fn <;> simp only [reduceCtorEq] at hop
    split at hop
    · simp only [Option.map_eq_some_iff] at hop
      obtain ⟨vs, hvs, hop⟩ := hop
      injection hop with e1 e2; subst e2; exact RoK.refl _
    · cases hop
  case makeMap t r =>
    cases r <;> simp only [reduceCtorEq] at hop
    split at hop
    · injection hop with hop; injection hop with e1 e2; subst e2; exact RoK.new _ _
    · cases hop
  case makeSlice t l c =>
    split at hop
    · unfold makeSliceD at hop
      split at hop
      · split at hop
        · split at hop
          · injection hop with hop; injection hop with e1 e2; subst e2; exact RoK.new _ _
          · cases hop
        · cases hop
      · cases hop
    · cases hop
  case slice t x lo hi mx =>
    split at hop
    · rw [map_snd hop]; exact RoK.refl _
    · cases hop
  case fieldAddr t x f =>
    split at hop
    · rw [map_snd hop]; exact RoK.refl _
    · cases hop
  case field t x f =>
    split at hop
    · rw [map_snd hop]; exact RoK.refl _
    · cases hop
  case indexAddr t x i =>
    split at hop
    · rw [map_snd hop]; exact RoK.refl _
    · cases hop
  case index t x i =>
    split at hop
    · rw [map_snd hop]; exact RoK.refl _
    · cases hop
  case lookup t x k c =>
    split at hop
    · rw [map_snd hop]; exact RoK.refl _
    · cases hop
  case mapUpdate t x k y =>
    split at hop
    · simp only [Option.map_eq_some_iff] at hop
      obtain ⟨z, hz, hop⟩ := hop
      injection hop with e1 e2; subst e2
      exact RoK.mapUpdate hz
    · cases hop
  case typeAssert x xt t c =>
    split at hop
    · rw [map_snd hop]; exact RoK.refl _
    · cases hop
  case extract x i =>
    split at hop
    · rw [map_snd hop]; exact RoK.refl _
    · cases hop
  case call c =>
    obtain ⟨callee, args, argTypes⟩ := c
    cases callee with
    | value f => simp [isCall] at hc
    | invoke x n => simp [isCall] at hc
    | builtin b =>
      simp only at hop
      split at hop
      · unfold builtinD at hop
        split at hop
        · rw [map_snd hop]; exact RoK.refl _
        · exact RoK.append hop
        · exact RoK.copy hop
        · rw [map_snd hop]; exact RoK.refl _
        · rw [map_snd hop]; exact RoK.refl _
        · cases hop
      · cases hop

end

/-! Calls. -/

/-- The function is entered when it is called. -/
def Enters (P : Program) (f : FuncId) : Prop := ∃ fn, P.funcs[f]? = some fn ∧ fn.body.isNone = false ∧ (fn.name == "runtime.NumGoroutine") = false

/-- A call that comes to a value: entered, or answered at once. -/
def Gives (P : Program) (f : FuncId) (args : Array Value) (w : World) (G : Value → World → Prop) : Prop :=
  (Enters P f ∧ Calls P f args w fun e w' => ∃ v, e = .returned v ∧ G v w') ∨ ∃ v w', (callFunc f args).run P w = .ok (.value v) w' ∧ G v w'

omit [Lax] in
theorem Gives.mono {P : Program} {f : FuncId} {args : Array Value} {w : World} {G G' : Value → World → Prop} (h : Gives P f args w G) (hg : ∀ v w', G v w' → G' v w') : Gives P f args w G' := by
  rcases h with ⟨h1, h2⟩ | ⟨v, w', h1, h2⟩
  · exact .inl ⟨h1, h2.mono fun e w' ⟨v, q1, q2⟩ => ⟨v, q1, hg v w' q2⟩⟩
  · exact .inr ⟨v, w', h1, hg v w' h2⟩

def CallOK (P : Program) (f : FuncId) (args : List DV) (h : H) (d : DV) (h' : H) : Prop :=
  RoK h h' ∧ ∀ (B : Bd) (S : Sg) (w : World) (args' : Array Value), Sim B S h w → h'.next ≤ B.f → VRs S.m args args'.toList →
    Gives P f args' w fun v w' => ∃ S', VR S'.m d v ∧ Sim B S' h' w' ∧ Post S h w S' h' w'

def CallsOK (P : Program) (call : CallF) : Prop := ∀ f args h d h', call f args h = some (d, h') → CallOK P f args h d h'

omit [Lax] in
theorem H.eta_ro (h : H) (x : Nat) : ({ h with ro := x } : H).get = h.get := rfl

/-- A quiet call turns nothing that was there. -/
theorem quiet_ok {P : Program} {call : CallF} (hc : CallsOK P call) {f : FuncId} {args : List DV} {h h' : H} {d : DV} (hq : quiet call f args h = some (d, h')) :
    CallOK P f args h d h' ∧ (∀ i, i < h.next → h'.get i = h.get i) := by
  unfold quiet at hq
  split at hq
  · rename_i v h1 hc1
    injection hq with hq; injection hq with e1 e2; subst e1; subst e2
    obtain ⟨hro, hcall⟩ := hc _ _ _ _ _ hc1
    have hget : ∀ i, i < h.next → h1.get i = h.get i := fun i hi => hro.2.2.1 (Nat.le_refl _) i hi
    have hk : RoK h { h1 with ro := h.ro } := ⟨rfl, hro.2.1, fun hr i hi => hget i (by omega), hro.2.2.2⟩
    refine ⟨⟨hk, ?_⟩, hget⟩
    · intro B S w args' s hF hv
      have s' : Sim B S { h with ro := h.next } w := ⟨s.wf, s.obj, Nat.le_trans s.lo s.hi, Nat.le_refl _, s.hw⟩
      refine (hcall B S w args' s' hF hv).mono ?_
      rintro v' w' ⟨S', hvr, hs, hp⟩
      have hnone : ∀ b, ¬ Owns S { h with ro := h.next } b := by
        rintro b ⟨j, g, hj, hjn, hjm, _⟩
        simp only at hjn hjm
        omega
      refine ⟨S', hvr, ⟨hs.wf, hs.obj, s.lo, Nat.le_trans s.hi hro.2.1, hs.hw⟩, ⟨hp.ext, ?_, hp.old, hp.deadm, ?_, hro.2.1, rfl, ?_, fun i hi q => absurd (hget i hi) q⟩⟩
      · intro i g h1' h2'
        obtain ⟨q1, q2, q3⟩ := hp.new i g h1' h2'
        refine ⟨q1, q2, ?_⟩
        rcases q3 with q3 | q3
        · exact .inl q3
        · exact (hnone _ q3).elim
      · intro i hi
        rcases hp.deadn i hi with q | ⟨q1, q0, q2⟩
        · exact .inl q
        · exact .inr ⟨Nat.le_trans s.hi q1, q0, q2⟩
      · exact ⟨hp.fr.os, hp.fr.tape, hp.fr.output, hp.fr.size, fun b hb _ => hp.fr.blk b hb (hnone b)⟩
  · cases hq

section
variable {P : Program} {T : TT} (ok : TTok P T) {B : Bd} {S : Sg} {h h' : H} {w : World} {e : E} {a : Act} {call : CallF} {d : DV}

omit [Lax] in
theorem run_callFunc_enters {f : FuncId} (he : Enters P f) (args : Array Value) (w : World) : (callFunc f args).run P w = .ok (.enter f args) w := by
  obtain ⟨fn, h1, h2, h3⟩ := he
  simp only [callFunc, Sem.run_bind, run_program, Result.andThen_ok, h1, h2, h3, Bool.false_eq_true, if_false, Sem.run_pure]

include ok in
omit [Lax] in
theorem method_ok {t : TypeId} {name : String} {f : FuncId} {v : Value} (hm : methodD T t name = some f) (n : Nat) (w : World) : (method (n + 1) t v name).run P w = .ok (f, v) w := by
  unfold methodD at hm
  split at hm
  · rename_i i q hi hu
    split at hm
    · rename_i m hfind
      split at hm
      · rename_i hpath
        split at hm
        · rename_i g hfn
          injection hm with hm; subst hm
          have hp : m.path = #[] := by simpa using hpath
          unfold method
          simp only [typeInfo, Sem.run_bind, run_program, Result.andThen_ok, ok.info t i hi, Sem.run_pure, hfind, hp, follow, hfn]
          simp only [receiverAt, Sem.run_bind, run_underlying (und_ok ok hu), Result.andThen_ok, Place.get, Sem.run_pure]
        · cases hm
      · cases hm
    · cases hm
  · cases hm

omit [Lax] in
/-- A call of a function: the model enters it. -/
theorem call_enters (hok : TTok P T) {o : Oper} (he : ER S.m e a) (hop : opD T call e o.op h = some (d, h')) (hc : isCall o.op = true) :
    ∃ f ds args', call f ds h = some (d, h') ∧ VRs S.m ds args'.toList ∧ (execOp a.eval o).run P w = (callFunc f args').run P w := by
  obtain ⟨dst, op, type, pos, after, guard⟩ := o
  simp only at hop hc ⊢
  cases op <;> simp only [isCall, Bool.false_eq_true] at hc
  rename_i c
  obtain ⟨callee, args, argTypes⟩ := c
  cases callee with
  | builtin b => simp at hc
  | value f =>
    simp only [opD] at hop
    split at hop
    · rename_i g caps vs hf hvs
      have h1 := eval_ok he hf
      have h2 := all_ok he hvs
      simp only [VR] at h1
      obtain ⟨arr, harr, hcaps⟩ := h1
      refine ⟨g, vs ++ caps, args.map a.eval ++ arr, hop, ?_, ?_⟩
      · rw [Array.toList_append]
        exact VRs.append (by simpa using h2) hcaps
      · simp only [execOp, resolve, harr, Deferred.ofValue, Sem.run_bind, Sem.run_pure, Result.andThen_ok, invoke, Array.empty_append]
    · cases hop
  | invoke x name =>
    simp only [opD] at hop
    split at hop
    · rename_i t v vs hx hvs
      split at hop
      · rename_i f hm
        have h1 := eval_ok he hx
        have h2 := all_ok he hvs
        simp only [VR] at h1
        obtain ⟨x', hx', hvr⟩ := h1
        refine ⟨f, v :: vs, #[x'] ++ args.map a.eval, hop, ?_, ?_⟩
        · rw [Array.toList_append]
          exact VRs.cons hvr (by simpa using h2)
        · have hfuel : P.types.size + Made.depth = (P.types.size + Made.depth - 1) + 1 := by
            have : 0 < Made.depth := by decide
            omega
          simp only [execOp, resolve, hx', Sem.run_bind, Sem.run_pure, Result.andThen_ok, invoke]
          have e0 : (#[Value.iface t x'] ++ Array.map a.eval args)[0]? = some (Value.iface t x') := by rw [Array.getElem?_append_left (show 0 < 1 from Nat.zero_lt_one)]; rfl
          rw [e0]
          simp only [callMethod, Sem.run_bind, run_program, Result.andThen_ok]
          rw [hfuel]
          simp only [method_ok hok hm, Result.andThen_ok]
          congr 2
          apply Array.ext'
          simp
          try exact List.take_of_length_le (by simp)
      · cases hop
    · cases hop

end
end Go.D
