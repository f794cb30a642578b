/-
  Code and calls: what D comes to is what the model comes to.
-/
import Derived.Test.YtfphfbfjmpbohaaGreatDK
import Derived.LoopN
import Derived.Laws.Sem
namespace Go.D
variable [Lax]

def codeOK (m : Meta) (size : Nat) : Code → Bool
  | .region id ops draw => if draw then drawOK (chkOf m.bars id) (chkOf m.chks id) ops size else textOK ops size
  | .seq a b => codeOK m size a && codeOK m size b
  | .cond _ a b => codeOK m size a && codeOK m size b
  | .block _ b => codeOK m size b
  | .loop b => codeOK m size b
  | _ => true

def exitOf : Ex → Exit
  | .normal => .normal
  | .exit id => .exit id
  | .ret => .ret

section
variable {P : Program} {T : TT} {call : CallF} (hc : CallsOK P call) {m : Meta} {n : Nat}
include hc

theorem loop_ro {body : E → H → Option (Ex × E × H)} (hb : ∀ {e h ex e' h'}, body e h = some (ex, e', h') → RoK h h') : ∀ (k : Nat) {e : E} {h : H} {ex : Ex} {e' : E} {h' : H}, loopD body k e h = some (ex, e', h') → RoK h h'
  | 0, e, h, ex, e', h', hD => by
    have _ := hc
    simp [loopD] at hD
  | k + 1, e, h, ex, e', h', hD => by
    simp only [loopD] at hD
    split at hD
    · rename_i e1 h1 hb1
      exact (hb hb1).trans (loop_ro hb k hD)
    · exact hb hD

theorem code_ro : ∀ (c : Code) {e : E} {h : H} {ex : Ex} {e' : E} {h' : H}, codeD T m call n c e h = some (ex, e', h') → RoK h h' := by
  intro c
  induction c with
  | skip => intro e h ex e' h' hD; simp only [codeD, Option.some.injEq, Prod.mk.injEq] at hD; rw [hD.2.2]; exact RoK.refl _
  | region id ops draw =>
    intro e h ex e' h' hD
    simp only [codeD] at hD
    split at hD
    · rename_i e1 h1 hr
      injection hD with hD; injection hD with _ hD; injection hD with _ q2; subst q2
      exact region_ro hc hr
    · cases hD
  | seq x y hx hy =>
    intro e h ex e' h' hD
    simp only [codeD] at hD
    split at hD
    · rename_i e1 h1 hr
      exact (hx hr).trans (hy hD)
    · exact hx hD
  | cond c x y hx hy =>
    intro e h ex e' h' hD
    simp only [codeD] at hD
    split at hD
    · exact hx hD
    · exact hy hD
    · cases hD
  | block id b hb =>
    intro e h ex e' h' hD
    simp only [codeD] at hD
    split at hD
    · rename_i i e1 h1 hr
      split at hD
      · injection hD with hD; injection hD with _ hD; injection hD with _ q2; subst q2; exact hb hr
      · injection hD with hD; injection hD with _ hD; injection hD with _ q2; subst q2; exact hb hr
    · exact hb hD
  | loop b hb =>
    intro e h ex e' h' hD
    simp only [codeD] at hD
    exact loop_ro hc (fun q => hb q) n hD
  | exit id => intro e h ex e' h' hD; simp only [codeD, Option.some.injEq, Prod.mk.injEq] at hD; rw [hD.2.2]; exact RoK.refl _
  | ret => intro e h ex e' h' hD; simp only [codeD, Option.some.injEq, Prod.mk.injEq] at hD; rw [hD.2.2]; exact RoK.refl _
  | _ => intro e h ex e' h' hD; simp [codeD] at hD

/-- What is to be shown of a piece of code. -/
def Runs (P : Program) (size : Nat) (c : Code) (e : E) (h : H) (ex : Ex) (e' : E) (h' : H) : Prop :=
  ∀ (B : Bd) (S : Sg) (a : Act) (w : World) (Q : Exit → Act → World → Prop), Sim B S h w → h'.next ≤ B.f → ER S.m e a → size ≤ a.tmps.size →
    (∀ S' a' w', ER S'.m e' a' → Sim B S' h' w' → Post S h w S' h' w' → a'.tmps.size = a.tmps.size → a'.defers = a.defers → Q (exitOf ex) a' w') → c.wp P Q a w

theorem loop_ok {size : Nat} {b : Code} (hb : ∀ {e h ex e' h'}, codeD T m call n b e h = some (ex, e', h') → Runs P size b e h ex e' h') : ∀ (k : Nat) {e : E} {h : H} {ex : Ex} {e' : E} {h' : H}, loopD (codeD T m call n b) k e h = some (ex, e', h') →
    ∀ (B : Bd) (S : Sg) (a : Act) (w : World) (Q : Exit → Act → World → Prop), Sim B S h w → h'.next ≤ B.f → ER S.m e a → size ≤ a.tmps.size →
    (∀ S' a' w', ER S'.m e' a' → Sim B S' h' w' → Post S h w S' h' w' → a'.tmps.size = a.tmps.size → a'.defers = a.defers → Q (exitOf ex) a' w') → Code.rounds P b Q k a w
  | 0, e, h, ex, e', h', hD, B, S, a, w, Q, s, hF, he, hs, hQ => by simp [loopD] at hD
  | k + 1, e, h, ex, e', h', hD, B, S, a, w, Q, s, hF, he, hs, hQ => by
    rw [rounds_succ]
    simp only [loopD] at hD
    split at hD
    · rename_i e1 h1 hb1
      have hro := loop_ro hc (fun q => code_ro hc b q) k hD
      refine hb hb1 B S a w _ s (Nat.le_trans hro.2.1 hF) he hs ?_
      intro S1 a1 w1 q1 q2 q3 q4 q5
      refine loop_ok hb k hD B S1 a1 w1 Q q2 hF q1 (by rw [q4]; exact hs) ?_
      intro S2 a2 w2 r1 r2 r3 r4 r5
      exact hQ S2 a2 w2 r1 r2 (q3.trans r3) (r4.trans q4) (r5.trans q5)
    · rename_i hnn
      refine hb hD B S a w _ s hF he hs ?_
      intro S1 a1 w1 q1 q2 q3 q4 q5
      have := hQ S1 a1 w1 q1 q2 q3 q4 q5
      cases ex with
      | normal => exact (hnn _ _ hD).elim
      | exit id => exact this
      | ret => exact this

variable (ok : TTok P T) (hm : P.follows .mixedOrders = true)
include ok hm

theorem code_ok {size : Nat} : ∀ (c : Code), codeOK m size c = true → ∀ {e : E} {h : H} {ex : Ex} {e' : E} {h' : H}, codeD T m call n c e h = some (ex, e', h') → Runs P size c e h ex e' h' := by
  intro c
  induction c with
  | skip =>
    intro _ e h ex e' h' hD B S a w Q s hF he hs hQ
    simp only [codeD, Option.some.injEq, Prod.mk.injEq] at hD
    obtain ⟨q1, q2, q3⟩ := hD; subst q1; subst q2; subst q3
    exact wp_skip (hQ S a w he s (Post.refl _ _ _) rfl rfl)
  | exit id =>
    intro _ e h ex e' h' hD B S a w Q s hF he hs hQ
    simp only [codeD, Option.some.injEq, Prod.mk.injEq] at hD
    obtain ⟨q1, q2, q3⟩ := hD; subst q1; subst q2; subst q3
    exact wp_exit (hQ S a w he s (Post.refl _ _ _) rfl rfl)
  | ret =>
    intro _ e h ex e' h' hD B S a w Q s hF he hs hQ
    simp only [codeD, Option.some.injEq, Prod.mk.injEq] at hD
    obtain ⟨q1, q2, q3⟩ := hD; subst q1; subst q2; subst q3
    exact wp_ret (hQ S a w he s (Post.refl _ _ _) rfl rfl)
  | region id ops draw =>
    intro hok e h ex e' h' hD B S a w Q s hF he hs hQ
    simp only [codeD] at hD
    split at hD
    · rename_i e1 h1 hr
      injection hD with hD; injection hD with q0 hD; injection hD with q1 q2; subst q0; subst q1; subst q2
      cases draw with
      | true =>
        simp only [codeOK, if_true] at hok
        exact draw_ok ok hc hm hok hr s hF he hs hQ
      | false =>
        simp only [codeOK, Bool.false_eq_true, if_false] at hok
        unfold regionD at hr
        rw [if_neg (by simp)] at hr
        refine wp_region ?_
        have := text_ok ok hc hok (B := B) (Q := Q) ops.toList 0 _ _ _ _ S a w (by simp) hr s hF he.drop hs hQ
        rw [List.range_eq_range']
        simpa using this
    · cases hD
  | seq x y hx hy =>
    intro hok e h ex e' h' hD B S a w Q s hF he hs hQ
    simp only [codeOK, Bool.and_eq_true] at hok
    simp only [codeD] at hD
    refine wp_seq ?_
    split at hD
    · rename_i e1 h1 hr
      have hro := code_ro hc y hD
      refine hx hok.1 hr B S a w _ s (Nat.le_trans hro.2.1 hF) he hs ?_
      intro S1 a1 w1 q1 q2 q3 q4 q5
      refine hy hok.2 hD B S1 a1 w1 Q q2 hF q1 (by rw [q4]; exact hs) ?_
      intro S2 a2 w2 r1 r2 r3 r4 r5
      exact hQ S2 a2 w2 r1 r2 (q3.trans r3) (r4.trans q4) (r5.trans q5)
    · rename_i hnn
      refine hx hok.1 hD B S a w _ s hF he hs ?_
      intro S1 a1 w1 q1 q2 q3 q4 q5
      have := hQ S1 a1 w1 q1 q2 q3 q4 q5
      cases ex with
      | normal => exact (hnn _ _ hD).elim
      | exit id => exact this
      | ret => exact this
  | cond c x y hx hy =>
    intro hok e h ex e' h' hD B S a w Q s hF he hs hQ
    simp only [codeOK, Bool.and_eq_true] at hok
    simp only [codeD] at hD
    split at hD
    · rename_i hcv
      have := eval_ok he hcv
      simp only [VR] at this
      exact wp_cond_true this (hx hok.1 hD B S a w Q s hF he hs hQ)
    · rename_i hcv
      have := eval_ok he hcv
      simp only [VR] at this
      exact wp_cond_false this (hy hok.2 hD B S a w Q s hF he hs hQ)
    · cases hD
  | block id b hb =>
    intro hok e h ex e' h' hD B S a w Q s hF he hs hQ
    simp only [codeOK] at hok
    simp only [codeD] at hD
    refine wp_block ?_
    split at hD
    · rename_i i e1 h1 hr
      split at hD
      · rename_i hid
        injection hD with hD; injection hD with q0 hD; injection hD with q1 q2; subst q0; subst q1; subst q2
        refine hb hok hr B S a w _ s hF he hs ?_
        intro S1 a1 w1 q1 q2 q3 q4 q5
        simp only [exitOf, Exit.inBlock, hid, if_true]
        exact hQ S1 a1 w1 q1 q2 q3 q4 q5
      · rename_i hid
        injection hD with hD; injection hD with q0 hD; injection hD with q1 q2; subst q0; subst q1; subst q2
        refine hb hok hr B S a w _ s hF he hs ?_
        intro S1 a1 w1 q1 q2 q3 q4 q5
        simp only [exitOf, Exit.inBlock, hid, if_false]
        exact hQ S1 a1 w1 q1 q2 q3 q4 q5
    · rename_i hnn
      refine hb hok hD B S a w _ s hF he hs ?_
      intro S1 a1 w1 q1 q2 q3 q4 q5
      have := hQ S1 a1 w1 q1 q2 q3 q4 q5
      cases ex with
      | normal => exact this
      | exit id => exact (hnn _ _ _ hD).elim
      | ret => exact this
  | loop b hb =>
    intro hok e h ex e' h' hD B S a w Q s hF he hs hQ
    simp only [codeOK] at hok
    simp only [codeD] at hD
    exact wp_loop_rounds n (loop_ok hc (fun q => hb hok q) n hD B S a w Q s hF he hs hQ)
  | _ => intro _ e h ex e' h' hD; simp [codeD] at hD

end

/-! Calls. -/

section
variable {P : Program} {T : TT}

def resM (tmps : Array Value) : ResultVar → Sem Value
  | .tmp t => pure (tmps.getD t undef)
  | .cell a t => do loadVar t (← asAddr (tmps.getD a undef))

omit [Lax] in
theorem results_eq (fn : Func) (tmps : Array Value) : results fn tmps = (do
    let vs ← fn.results.mapM (resM tmps)
    pure (if h : vs.size = 1 then vs[0] else .tuple vs)) := rfl

omit [Lax] in
theorem result_ok (ok : TTok P T) {B : Bd} {S : Sg} {h : H} {w : World} {e : E} {a : Act} (s : Sim B S h w) (he : ER S.m e a) {r : ResultVar} {d : DV} (hr : resultD T e h r = some d) :
    ∃ v, (resM a.tmps r).run P w = .ok v w ∧ VR S.m d v := by
  cases r with
  | tmp t => exact ⟨_, by simp [resM, Sem.run_pure], he t d hr⟩
  | cell x t =>
    simp only [resultD] at hr
    split at hr
    · rename_i v hv
      have h1 := he x v hv
      obtain ⟨u, h2, h3⟩ := load_ok ok hr h1 (fun r _ => s.obj r.1)
      refine ⟨u, ?_, h3⟩
      unfold loadD at hr
      split at hr
      · simp only [VR] at h1
        obtain ⟨se, _, h1⟩ := h1
        rw [h1] at h2
        simpa [resM, h1, Instr.loadAt, Instr.sureAddr, asAddr] using h2
      · cases hr
    · cases hr

omit [Lax] in
theorem results_ok (ok : TTok P T) {B : Bd} {S : Sg} {h : H} {w : World} {e : E} {a : Act} (s : Sim B S h w) (he : ER S.m e a) {fn : Func} {vs : List DV} (hr : resultsD T e h fn.results.toList = some vs) :
    ∃ v, (results fn a.tmps).run P w = .ok v w ∧ VR S.m (one vs) v := by
  have key : ∀ (l : List ResultVar) (vs : List DV), resultsD T e h l = some vs →
      ∃ us : List Value, (l.mapM (resM a.tmps)).run P w = .ok us w ∧ VRs S.m vs us := by
    intro l
    induction l with
    | nil =>
      intro vs h1
      simp [resultsD] at h1
      subst h1
      exact ⟨[], by simp [Sem.run_pure], .nil⟩
    | cons r l ih =>
      intro vs h1
      simp only [resultsD] at h1
      split at h1
      · rename_i v vs1 q1 q2
        injection h1 with h1; subst h1
        obtain ⟨u, r1, r2⟩ := result_ok ok s he q1
        obtain ⟨us, r3, r4⟩ := ih vs1 q2
        refine ⟨u :: us, ?_, .cons r2 r4⟩
        simp only [List.mapM_cons, Sem.run_bind, r1, Result.andThen_ok, r3, Sem.run_pure]
      · cases h1
  obtain ⟨us, h1, h2⟩ := key _ vs hr
  have hl := h2.length
  refine ⟨if hz : us.toArray.size = 1 then us.toArray[0] else .tuple us.toArray, ?_, ?_⟩
  · rw [results_eq, Array.mapM_eq_mapM_toList]
    simp only [map_eq_pure_bind, Sem.run_bind]
    rw [h1]
    simp only [Result.andThen_ok, Sem.run_pure]
  · match vs, us, h2, hl with
    | [v], [u], h2, _ => simpa [one] using (VRs.cons_iff.1 h2).1
    | [], [], h2, _ => simp only [one, VR]; exact ⟨#[], rfl, h2⟩
    | v :: v' :: vs, u :: u' :: us, h2, _ =>
      simp only [one, VR]
      refine ⟨(u :: u' :: us).toArray, ?_, by simpa using h2⟩
      simp
    | [], _ :: _, _, hl => simp at hl
    | _ :: _, [], _, hl => simp at hl
    | [_], _ :: _ :: _, _, hl => simp at hl
    | _ :: _ :: _, [_], _, hl => simp at hl

/-- The table of functions is the program's. -/
structure CfgOK (P : Program) (c : Cfg) : Prop where
  tt : TTok P c.P
  mixed : P.follows .mixedOrders = true
  fn : ∀ f fn m, c.fn f = some (fn, m) → P.funcs[f]? = some fn ∧ (fn.name == "runtime.NumGoroutine") = false ∧ ∀ b, fn.body = some b → codeOK m fn.ntmps b = true
  ora : ∀ f g, c.ora f = some g → ∀ args h d h', g args h = some (d, h') → CallOK P f args h d h'

omit [Lax] in
theorem params_get : ∀ (l : List DV) (i t : Nat), assoc (params i l) t = if i ≤ t then l[t - i]? else none
  | [], i, t => by simp [params, assoc]
  | v :: l, i, t => by
    simp only [params, assoc]
    by_cases h : i = t
    · subst h; simp
    · rw [beq_ne h, cond_false, params_get l (i + 1) t]
      by_cases h2 : i + 1 ≤ t
      · rw [if_pos h2, if_pos (by omega)]
        rw [show t - i = (t - (i + 1)) + 1 by omega, List.getElem?_cons_succ]
      · rw [if_neg h2, if_neg (by omega)]

omit [Lax] in
theorem assoc_append : ∀ (l l' : List (Nat × DV)) (t : Nat), assoc (l ++ l') t = match assoc l t with | some v => some v | none => assoc l' t
  | [], l', t => by simp [assoc]
  | (k, v) :: l, l', t => by
    simp only [List.cons_append, assoc]
    by_cases h : k = t
    · subst h; simp
    · simp only [beq_ne h, cond_false]; exact assoc_append l l' t

omit [Lax] in
theorem assoc_named {t : Nat} {d : DV} : ∀ {l : List Nat}, assoc (l.map fun t => (t, DV.tup [])) t = some d → d = .tup []
  | [], h => by simp [assoc] at h
  | k :: l, h => by
    simp only [List.map_cons, assoc] at h
    by_cases hk : k = t
    · subst hk; simp at h; exact h.symm
    · rw [beq_ne hk, cond_false] at h
      exact assoc_named h

theorem callsOK {c : Cfg} (hc : CfgOK P c) : ∀ n, CallsOK P (callD c n)
  | 0 => by intro f args h d h' hD; simp [callD] at hD
  | n + 1 => by
    intro f args h d h' hD
    simp only [callD] at hD
    split at hD
    · rename_i g hg
      exact hc.ora f g hg args h d h' hD
    · split at hD
      · rename_i fn m hf
        obtain ⟨h1, h2, h3⟩ := hc.fn f fn m hf
        unfold bodyD at hD
        split at hD
        · cases hD
        · rename_i body hb
          have ih := callsOK hc n
          have fin : ∀ ex e' h1', (ex = .normal ∨ ex = .ret) → codeD c.P m (callD c n) n body { vs := params 0 args ++ m.named.map fun t => (t, .tup []), ts := [] } h = some (ex, e', h1') →
              ((resultsD c.P e' h1' fn.results.toList).map fun vs => (one vs, h1')) = some (d, h') → CallOK P f args h d h' := by
            intro ex e' h1' hex hcode hres
            simp only [Option.map_eq_some_iff] at hres
            obtain ⟨vs, hvs, hres⟩ := hres
            injection hres with q1 q2; subst q1; subst q2
            refine ⟨code_ro ih body hcode, ?_⟩
            intro B S w args' s hF hv
            refine .inl ⟨⟨fn, h1, by rw [hb]; rfl, h2⟩, calls_of_wp h1 hb ?_⟩
            refine code_ok ih hc.tt hc.mixed body (h3 body hb) hcode B S _ w _ s hF ?_ (by simp; omega) ?_
            · intro t x ht
              have hlen := hv.length
              simp at hlen
              simp only [E.get, assoc_append, params_get, Nat.zero_le, if_true, Nat.sub_zero, assoc] at ht
              have hgt : ∀ t, args'.size ≤ t → (args' ++ Array.replicate (fn.ntmps - args'.size) undef).getD t undef = undef := by
                intro t ht
                rw [Array.getD_eq_getD_getElem?, Array.getElem?_append_right ht, Array.getElem?_replicate]
                split <;> rfl
              cases hat : args[t]? with
              | some y =>
                rw [hat] at ht
                simp only [Option.some.injEq] at ht
                subst ht
                obtain ⟨v, hv1, hv2⟩ := hv.get hat
                have : (args' ++ Array.replicate (fn.ntmps - args'.size) undef).getD t undef = v := by
                  have hlt : t < args'.size := by
                    have := (List.getElem?_eq_some_iff.1 hat).1; omega
                  rw [Array.getD_eq_getD_getElem?, Array.getElem?_append_left hlt, ← Array.getElem?_toList, hv1]; rfl
                simp only [this]; exact hv2
              | none =>
                rw [hat] at ht
                have : args'.size ≤ t := by
                  have := List.getElem?_eq_none_iff.1 hat; omega
                simp only [hgt t this]
                cases hna : assoc (m.named.map fun t => (t, DV.tup [])) t with
                | none => rw [hna] at ht; simp at ht
                | some y =>
                  rw [hna] at ht
                  simp only [Option.some.injEq] at ht
                  subst ht
                  rw [assoc_named hna]
                  exact undef_ok _
            · intro S' a' w' q1 q2 q3 q4 q5
              obtain ⟨v, r1, r2⟩ := results_ok hc.tt q2 q1 hvs
              rcases hex with rfl | rfl
              · exact ⟨q5, v, r1, v, rfl, S', r2, q2, q3⟩
              · exact ⟨q5, v, r1, v, rfl, S', r2, q2, q3⟩
          split at hD
          · rename_i e1 h1' hcode
            exact fin _ _ _ (.inl rfl) hcode hD
          · rename_i e1 h1' hcode
            exact fin _ _ _ (.inr rfl) hcode hD
          · cases hD
      · cases hD


/-- The types as the program's own table has them. -/
def ttOf (P : Program) : TT := { info := fun t => P.info? t, cmp := fun t => !(P.stoodInHeld t) && !(P.eqGuardType P.depth t) }

omit [Lax] in
theorem ttOf_ok (P : Program) : TTok P (ttOf P) := ⟨fun _ _ h => h, fun t h => by
  have h : (!(P.stoodInHeld t) && !(P.eqGuardType P.depth t)) = true := h
  rw [Bool.and_eq_true, Bool.not_eq_true', Bool.not_eq_true'] at h
  exact h⟩

end
end Go.D
