/-
  Regions that draw: the static check, D's own laws for it.
-/
import Derived.Test.YtfphfbfjmpbohaaGreatDE
namespace Go.D
variable [Lax]

/-! What an operation looks at. -/

/-- 0: no memory; 1: a load; 2: it reads; 3: it writes; 4: a call. -/
def kindOf (op : Op) : Nat :=
  if isCall op then 4 else if writes op then 3 else match op with
  | .load _ _ => 1
  | .convert _ _ _ | .lookup _ _ _ _ | .call _ => 2
  | _ => 0

section
variable {T : TT}

omit [Lax] in
/-- An operation that looks at no memory, and a load. -/
theorem blank_ok {call call' : CallF} {e : E} {op : Op} {h h' : H} {d : DV} (hop : opD T call e op h = some (d, h')) (hk : kindOf op ≤ 1) {g : H} (hn : g.next = h.next)
    (hl : ∀ t x r, op = .load t x → e.eval x = some (.ptr (some r)) → g.get r.1 = h.get r.1) :
    (h' = h ∧ opD T call' e op g = some (d, g)) ∨ (∃ o, h' = h.new o ∧ opD T call' e op g = some (d, g.new o)) := by
  cases op <;> simp only [opD, reduceCtorEq] at hop ⊢
  case alloc t =>
    simp only [Option.map_eq_some_iff] at hop
    obtain ⟨z, hz, hop⟩ := hop
    injection hop with e1 e2; subst e1; subst e2
    exact .inr ⟨_, rfl, by simp only [hz, Option.map_some, hn]⟩
  case box t x =>
    simp only [Option.map_eq_some_iff] at hop
    obtain ⟨z, hz, hop⟩ := hop
    injection hop with e1 e2; subst e1; subst e2
    exact .inr ⟨_, rfl, by simp only [hz, Option.map_some, hn]⟩
  case buildSlice t n ps =>
    split at hop
    · rename_i vs hvs
      try simp only [hvs]
      unfold buildSliceD at hop ⊢
      split at hop
      · cases hop
      · split at hop
        · split at hop
          · rename_i hc
            try simp only [if_pos hc]
            split at hop
            · injection hop with hop; injection hop with e1 e2; subst e1; subst e2
              exact .inr ⟨_, rfl, by simp only [hn]⟩
            · cases hop
          · cases hop
        · cases hop
    · cases hop
  case makeSlice t l c =>
    split at hop
    · rename_i lv cv hlv hcv
      try simp only [hlv, hcv]
      unfold makeSliceD at hop ⊢
      split at hop
      · rename_i h1 h2 h3 h4
        try simp only [h1, h2, h3, h4]
        split at hop
        · rename_i h5
          split at hop
          · rename_i h6
            injection hop with hop; injection hop with e1 e2; subst e1; subst e2
            refine .inr ⟨_, rfl, ?_⟩
            simp only [if_pos h6, hn]
          · cases hop
        · cases hop
      · cases hop
    · cases hop
  case makeMap t r =>
    cases r <;> simp only [reduceCtorEq] at hop ⊢
    split at hop
    · rename_i h1
      injection hop with hop; injection hop with e1 e2; subst e1; subst e2
      exact .inr ⟨_, rfl, by simp only [hn]⟩
    · cases hop
  case load t x =>
    left
    split at hop
    · rename_i a ha
      try simp only [ha]
      refine ⟨map_snd hop, ?_⟩
      have key : loadD T t a g = loadD T t a h := by
        cases a with
        | ptr r => cases r with
          | none => rfl
          | some r =>
            have := hl t x r rfl ha
            simp only [loadD, H.ld, H.ldn, H.cells, this]
        | _ => rfl
      rw [key]
      simp only [Option.map_eq_some_iff] at hop ⊢
      obtain ⟨v, hv, hop⟩ := hop
      injection hop with e1 e2; subst e1
      exact ⟨_, hv, rfl⟩
    · cases hop
  case convert => simp [kindOf, isCall, writes] at hk
  case lookup => simp [kindOf, isCall, writes] at hk
  case store => simp [kindOf, isCall, writes] at hk
  case mapUpdate => simp [kindOf, isCall, writes] at hk
  case call => unfold kindOf at hk; split at hk; omega; split at hk <;> simp at hk
  case makeInterface t x =>
    left
    split at hop
    · cases hop
    · rename_i u v h1 h2 h3
      injection hop with hop; injection hop with e1 e2; subst e1; subst e2
      refine ⟨rfl, ?_⟩
      first
        | rw [h2, h3]
        | (simp only [])
    · cases hop
  case makeFunc fn first caps =>
    left
    cases fn <;> simp only [reduceCtorEq] at hop ⊢
    split at hop
    · rename_i hf
      simp only [Option.map_eq_some_iff] at hop
      obtain ⟨vs, hvs, hop⟩ := hop
      injection hop with e1 e2; subst e1; subst e2
      exact ⟨rfl, by rw [if_pos hf, hvs]; rfl⟩
    · cases hop
  case pick c x y =>
    left
    split at hop
    · rename_i hc
      try simp only [hc]
      refine ⟨map_snd hop, ?_⟩
      simp only [Option.map_eq_some_iff] at hop ⊢
      obtain ⟨v, hv, hop⟩ := hop
      injection hop with e1 e2; subst e1
      exact ⟨_, hv, rfl⟩
    · rename_i hc
      try simp only [hc]
      refine ⟨map_snd hop, ?_⟩
      simp only [Option.map_eq_some_iff] at hop ⊢
      obtain ⟨v, hv, hop⟩ := hop
      injection hop with e1 e2; subst e1
      exact ⟨_, hv, rfl⟩
    · cases hop
  case move x =>
    left
    refine ⟨map_snd hop, ?_⟩
    simp only [Option.map_eq_some_iff] at hop ⊢
    obtain ⟨v, hv, hop⟩ := hop
    injection hop with e1 e2; subst e1
    exact ⟨_, hv, rfl⟩
  case assign x =>
    left
    refine ⟨map_snd hop, ?_⟩
    simp only [Option.map_eq_some_iff] at hop ⊢
    obtain ⟨v, hv, hop⟩ := hop
    injection hop with e1 e2; subst e1
    exact ⟨_, hv, rfl⟩
  case extract x i =>
    left
    split at hop
    · rename_i vs hx
      try simp only [hx]
      refine ⟨map_snd hop, ?_⟩
      simp only [Option.map_eq_some_iff] at hop ⊢
      obtain ⟨v, hv, hop⟩ := hop
      injection hop with e1 e2; subst e1
      exact ⟨_, hv, rfl⟩
    · cases hop
  case slice t x lo hi mx =>
    left
    split at hop
    · rename_i h1 h2 h3 h4
      try simp only [h1, h2, h3, h4]
      refine ⟨map_snd hop, ?_⟩
      simp only [Option.map_eq_some_iff] at hop ⊢
      obtain ⟨v, hv, hop⟩ := hop
      injection hop with e1 e2; subst e1
      exact ⟨_, hv, rfl⟩
    · cases hop
  case binOp =>
    left
    split at hop
    · rename_i h1 h2
      try simp only [h1, h2]
      refine ⟨map_snd hop, ?_⟩
      simp only [Option.map_eq_some_iff] at hop ⊢
      obtain ⟨v, hv, hop⟩ := hop
      injection hop with e1 e2; subst e1
      exact ⟨_, hv, rfl⟩
    · cases hop
  case indexAddr =>
    left
    split at hop
    · rename_i h1 h2
      try simp only [h1, h2]
      refine ⟨map_snd hop, ?_⟩
      simp only [Option.map_eq_some_iff] at hop ⊢
      obtain ⟨v, hv, hop⟩ := hop
      injection hop with e1 e2; subst e1
      exact ⟨_, hv, rfl⟩
    · cases hop
  case index =>
    left
    split at hop
    · rename_i h1 h2
      try simp only [h1, h2]
      refine ⟨map_snd hop, ?_⟩
      simp only [Option.map_eq_some_iff] at hop ⊢
      obtain ⟨v, hv, hop⟩ := hop
      injection hop with e1 e2; subst e1
      exact ⟨_, hv, rfl⟩
    · cases hop
  all_goals
    left
    split at hop
    · rename_i h1
      try simp only [h1]
      refine ⟨map_snd hop, ?_⟩
      simp only [Option.map_eq_some_iff] at hop ⊢
      obtain ⟨v, hv, hop⟩ := hop
      injection hop with e1 e2; subst e1
      exact ⟨_, hv, rfl⟩
    · cases hop


/-- The slot that tells what is written; what is read. -/
def tgtO : Op → Option Nat
  | .store _ (.tmp a) _ => some a
  | .call ⟨.builtin .append, args, _⟩ => match args.toList with
    | .tmp a :: _ => some a
    | _ => none
  | _ => none
def srcO : Op → Option Nat
  | .load _ (.tmp b) => some b
  | .call ⟨.builtin .len, args, _⟩ => match args.toList with
    | [.tmp b] => some b
    | _ => none
  | _ => none
def isSq : DV → Bool
  | .slice _ _ _ _ => true
  | .str _ => true
  | _ => false

omit [Lax] in
theorem len_blank {call call' : CallF} {e : E} {op : Op} {h h' : H} {d : DV} (hop : opD T call e op h = some (d, h')) (hk : ¬ kindOf op ≤ 1) {b : Nat} (hs : srcO op = some b) {v : DV} (hv : e.get b = some v) (hq : isSq v = true) {g : H} :
    h' = h ∧ opD T call' e op g = some (d, g) := by
  cases op <;> simp only [srcO, reduceCtorEq] at hs
  case load t x => simp [kindOf, isCall, writes] at hk
  case call c =>
    obtain ⟨callee, args, ts⟩ := c
    cases callee with
    | value f => simp at hs
    | invoke x n => simp at hs
    | builtin bi =>
      cases bi <;> simp only [reduceCtorEq] at hs
      split at hs
      · rename_i b' hargs
        injection hs with hs; subst hs
        simp only [opD, hargs, E.all, E.eval, hv] at hop ⊢
        unfold builtinD at hop ⊢
        split at hop
        · rename_i t x _ hts hx
          injection hx with hx; subst hx
          refine ⟨map_snd hop, ?_⟩
          have : lenD T t v g = lenD T t v h := by
            cases v <;> simp [isSq] at hq <;> unfold lenD <;> (cases und T t with | none => rfl | some u => cases u <;> rfl)
          rw [this]
          simp only [Option.map_eq_some_iff] at hop ⊢
          obtain ⟨y, hy, hop⟩ := hop
          injection hop with e1 e2; subst e1
          exact ⟨_, hy, rfl⟩
        all_goals simp_all
      · cases hs

omit [Lax] in
/-- What an append turns. -/
theorem append_wr {t xt : TypeId} {s x d : DV} {h h' : H} (ha : appendD T t xt s x h = some (d, h')) {i : Nat} (hi : i < h.next) (hw : h'.get i ≠ h.get i) : ∃ r len cap sz, s = .slice (some r) len cap sz ∧ r.1 = i := by
  unfold appendD at ha
  split at ha
  · split at ha
    · split at ha
      · cases ha
      · split at ha
        · injection ha with ha; injection ha with _ ha; subst ha; exact absurd rfl hw
        · split at ha
          · cases ha
          · split at ha
            · cases ha
            · split at ha
              · cases ha
              · split at ha
                · split at ha
                  · injection ha with ha; injection ha with _ ha; subst ha
                    rw [H.get_new, if_neg (by omega)] at hw; exact absurd rfl hw
                  · cases ha
                · split at ha
                  · cases ha
                  · split at ha
                    · split at ha
                      · simp only [Option.map_eq_some_iff] at ha
                        obtain ⟨h2, hs, ha⟩ := ha
                        injection ha with _ ha; subst ha
                        refine ⟨_, _, _, _, rfl, ?_⟩
                        simp only [H.st, Option.bind_eq_some_iff] at hs
                        obtain ⟨cs, hcs, hs⟩ := hs
                        split at hs
                        · injection hs with hs; subst hs
                          rw [H.get_put] at hw
                          split at hw
                          · rename_i q; exact q
                          · exact absurd rfl hw
                        · cases hs
                      · split at ha
                        · injection ha with ha; injection ha with _ ha; subst ha
                          rw [H.get_new, if_neg (by omega)] at hw; exact absurd rfl hw
                        · cases ha
                    · split at ha
                      · split at ha
                        · injection ha with ha; injection ha with _ ha; subst ha
                          refine ⟨_, _, _, _, rfl, ?_⟩
                          rw [H.get_new, if_neg (by simp; omega), H.get_put] at hw
                          split at hw
                          · rename_i q; exact q
                          · exact absurd rfl hw
                        · cases ha
                      · cases ha
    · cases ha
  · cases ha

omit [Lax] in
theorem append_old {t xt : TypeId} {len : Nat} {cap : Option Nat} {sz : Nat} {x d : DV} {h h' : H} (ha : appendD T t xt (.slice none len cap sz) x h = some (d, h')) : ∀ i, i < h.next → h'.get i = h.get i := by
  intro i hi
  unfold appendD at ha
  split at ha
  · split at ha
    · split at ha
      · cases ha
      · split at ha
        · injection ha with ha; injection ha with _ ha; subst ha; rfl
        · split at ha
          · cases ha
          · split at ha
            · cases ha
            · split at ha
              · cases ha
              · split at ha
                · split at ha
                  · injection ha with ha; injection ha with _ ha; subst ha
                    rw [H.get_new, if_neg (by omega)]
                  · cases ha
                · rename_i heq _ _ _ _ _ _ _
                  simp_all
    · cases ha
  · cases ha

omit [Lax] in
theorem conv_old {s t : TypeId} {x d : DV} {h h' : H} (ha : convD T s t x h = some (d, h')) : ∀ i, i < h.next → h'.get i = h.get i := by
  intro i hi
  unfold convD at ha
  split at ha
  · injection ha with ha; injection ha with _ ha; subst ha; rfl
  · injection ha with ha; injection ha with _ ha; subst ha; rfl
  · split at ha
    · injection ha with ha; injection ha with _ ha; subst ha; rfl
    · cases ha
  · split at ha
    · split at ha
      · simp only [Option.map_eq_some_iff] at ha
        obtain ⟨s, _, ha⟩ := ha
        injection ha with _ ha; subst ha; rfl
      · cases ha
    · cases ha
  · split at ha
    · split at ha
      · injection ha with ha; injection ha with _ ha; subst ha; rfl
      · cases ha
    · cases ha
  · split at ha
    · split at ha
      · injection ha with ha; injection ha with _ ha; subst ha
        rw [H.get_new, if_neg (by omega)]
      · cases ha
    · cases ha
  · cases ha

omit [Lax] in
/-- An operation that does not write leaves what was there. -/
theorem prim_old {call : CallF} {e : E} {op : Op} {h h' : H} {d : DV} (hop : opD T call e op h = some (d, h')) (hk : kindOf op ≤ 2) : ∀ i, i < h.next → h'.get i = h.get i := by
  by_cases hk1 : kindOf op ≤ 1
  · rcases blank_ok (call' := call) hop hk1 (g := h) rfl (fun _ _ _ _ _ => rfl) with ⟨h1, _⟩ | ⟨o, h1, _⟩
    · intro i _; rw [h1]
    · intro i hi; rw [h1, H.get_new, if_neg (by omega)]
  · cases op <;> (try (exfalso; apply hk1; simp [kindOf, isCall, writes]; done)) <;> simp only [opD] at hop
    case convert s t x =>
      split at hop
      · exact conv_old hop
      · cases hop
    case lookup =>
      intro i _
      split at hop
      · rw [map_snd hop]
      · cases hop
    case store => simp [kindOf, isCall, writes] at hk
    case mapUpdate => simp [kindOf, isCall, writes] at hk
    case call c =>
      obtain ⟨callee, args, argTypes⟩ := c
      cases callee with
      | value f => simp [kindOf, isCall] at hk
      | invoke x n => simp [kindOf, isCall] at hk
      | builtin b =>
        simp only at hop
        split at hop
        · rename_i vs hvs
          intro i hi
          unfold builtinD at hop
          split at hop
          · rw [map_snd hop]
          · rename_i s x
            have hw : writes (.call ⟨.builtin .append, args, argTypes⟩) = false := by
              cases hw : writes (.call ⟨.builtin .append, args, argTypes⟩) with
              | false => rfl
              | true => simp [kindOf, isCall, hw] at hk
            simp only [writes] at hw
            split at hw
            · rename_i n c rest _ hargs
              rw [hargs] at hvs
              unfold E.all at hvs
              split at hvs
              · rename_i v l h1 h2
                injection hvs with hvs
                injection hvs with e1 e2
                subst e1

                simp only [E.eval] at h1
                have : v = .slice none 0 (some 0) 0 := by
                  cases n <;> cases c <;> simp [cv] at h1
                  exact h1.symm
                subst this
                exact append_old hop i hi
              · cases hvs
            · cases hw
            · cases hw
            · rename_i q1 q2 q3
              first | exact (q1 rfl).elim | exact (q2 rfl).elim | exact (q3 rfl).elim
          · simp [kindOf, isCall, writes] at hk
          · rw [map_snd hop]
          · rw [map_snd hop]
          · cases hop
        · cases hop

/-! Only the operands count. -/

omit [Lax] in
theorem E.all_congr {e e' : E} : ∀ {l : List Operand}, (∀ x ∈ l, e'.eval x = e.eval x) → e'.all l = e.all l
  | [], _ => rfl
  | x :: l, h => by
    simp only [E.all, h x List.mem_cons_self, E.all_congr (l := l) fun y hy => h y (List.mem_cons_of_mem _ hy)]
omit [Lax] in
theorem E.parts_congr {e e' : E} : ∀ {l : List (Nat × Operand)}, (∀ x ∈ l.map (·.2), e'.eval x = e.eval x) → e'.parts l = e.parts l
  | [], _ => rfl
  | (i, x) :: l, h => by
    simp only [E.parts, h x (by simp), E.parts_congr (l := l) fun y hy => h y (by simp only [List.map_cons]; exact List.mem_cons_of_mem _ hy)]
omit [Lax] in
theorem E.opt_congr {e e' : E} {x : Option Operand} (h : ∀ y, x = some y → e'.eval y = e.eval y) : e'.opt x = e.opt x := by
  cases x with
  | none => rfl
  | some x => simp only [E.opt, h x rfl]

omit [Lax] in
theorem opD_congr {call : CallF} {e e' : E} {op : Op} {h : H} (hx : ∀ x ∈ op.operands, e'.eval x = e.eval x) : opD T call e' op h = opD T call e op h := by
  cases op <;> simp only [Op.operands] at hx <;> simp only [opD]
  case build t ps => rw [E.parts_congr fun x hm => hx x (by simpa using hm)]
  case buildSlice t n ps => rw [E.parts_congr fun x hm => hx x (by simpa using hm)]
  case makeFunc fn first caps => cases fn <;> simp only; rw [E.all_congr fun x hm => hx x (by simp at hm; simp [hm])]
  case makeMap t r => cases r <;> rfl
  case slice t x lo hi mx =>
    rw [hx x (by simp), E.opt_congr (x := lo) fun y hy => hx y (by simp [hy]), E.opt_congr (x := hi) fun y hy => hx y (by simp [hy]), E.opt_congr (x := mx) fun y hy => hx y (by simp [hy])]
  case call c =>
    obtain ⟨callee, args, argTypes⟩ := c
    simp only [Call.operands] at hx
    cases callee with
    | builtin b => simp only; rw [E.all_congr fun x hm => hx x (by simp at hm; simp [hm])]
    | value f => simp only; rw [hx f (by simp), E.all_congr fun x hm => hx x (by simp at hm; simp [hm])]
    | invoke r n => simp only; rw [hx r (by simp), E.all_congr fun x hm => hx x (by simp at hm; simp [hm])]
  all_goals (first | rfl | (simp_all; done))

end
end Go.D
