/-
  D's maps are the model's: a lookup, a store.
-/
import Derived.Test.YtfphfbfjmpbohaaGreatDY
import Derived.MapKept
namespace Go.D
variable [Lax]

section
variable {P : Program} {T : TT} (ok : TTok P T) {σ : Nat → Option SE}
include ok

omit [Lax] in
theorem check_ok (em : Bool) : ∀ (n : Nat) {t : TypeId} {k : DV} {k' : Value}, checkD T n t k = true → VR σ k k' → ∀ w, (Instr.checkKey em n t k').run P w = .ok () w
  | 0, t, k, k', h, _, w => by simp [checkD] at h
  | n + 1, t, k, k', h, hk, w => by
    unfold checkD at h
    unfold Instr.checkKey
    split at h
    · rename_i fs cs hu
      simp only [VR] at hk
      obtain ⟨a, rfl, ha⟩ := hk
      simp only [Sem.run_bind, run_underlying (und_ok ok hu), Result.andThen_ok]
      rw [← Array.forIn_toList]
      rw [List.all_eq_true] at h
      generalize fs.toList = l at h
      induction l with
      | nil => simp
      | cons f l ih =>
        have hf := h f (by simp)
        split at hf
        · rename_i x hx
          obtain ⟨v, hv, hr⟩ := part_ok ok hx ha
          simp only [List.forIn_cons, Sem.run_bind]
          by_cases hn : f.name ≠ "_"
          · simp only [hn, ne_eq, not_false_eq_true, if_true, Sem.run_bind, hv, Result.andThen_ok, check_ok em n hf hr, Sem.run_pure]
            exact ih (fun y hy => h y (by simp [hy]))
          · simp only [hn, if_false, Sem.run_pure, Result.andThen_ok]
            exact ih (fun y hy => h y (by simp [hy]))
        · cases hf
    · cases h
    · cases h
    · cases h
    · rename_i d h2 h3 h4 hu h5
      simp only [Sem.run_bind, run_underlying (und_ok ok hu), Result.andThen_ok]
      cases d <;> first | (simp; done) | exact (h2 _ rfl).elim | exact (h3 _ _ rfl).elim | exact (h4 _ rfl).elim
    · cases h

/-- An answer of a search. -/
def AR (σ : Nat → Option SE) (i : Nat) : Option (Nat × DV) → Option (Nat × Value) → Prop
  | none, r => r = none
  | some (j, d), r => ∃ v, r = some (i + j, v) ∧ VR σ d v

omit [Lax] in
theorem asking_ok {t : TypeId} {k : DV} {k' : Value} (hk : VR σ k k') : ∀ {es : List (DV × DV)} {l : List MapEntry} {a : Option (Nat × DV)} (i : Nat), findD T t k es = some a → MR σ es l →
    ∀ w, ∃ r, (Instr.findAsking t k' l i).run P w = .ok r w ∧ AR σ i a r
  | [], l, a, i, h, hm, w => by
    simp [MR] at hm; simp [findD] at h; subst hm; subst h
    exact ⟨none, by simp [Instr.findAsking], rfl⟩
  | e :: es, l, a, i, h, hm, w => by
    simp only [MR] at hm
    obtain ⟨x, xs, rfl, h1, h2, h3⟩ := hm
    unfold findD at h
    split at h
    · rename_i he
      injection h with h; subst h
      have := eq_ok ok _ he hk h1
      exact ⟨some (i, x.val), by simp [Instr.findAsking, Op.equal, this], x.val, by simp, h2⟩
    · rename_i he
      have heq := eq_ok ok _ he hk h1
      split at h
      · rename_i j v hf
        injection h with h; subst h
        obtain ⟨r, hr, v', rfl, hv'⟩ := asking_ok hk (i + 1) hf h3 w
        exact ⟨some (i + 1 + j, v'), by simp [Instr.findAsking, Op.equal, heq, hr], v', by simp; omega, hv'⟩
      · rename_i hf
        injection h with h; subst h
        obtain ⟨r, hr, ha⟩ := asking_ok hk (i + 1) hf h3 w
        simp only [AR] at ha
        subst ha
        exact ⟨none, by simp [Instr.findAsking, Op.equal, heq, hr], rfl⟩
      · cases h
    · cases h

omit [Lax] in
theorem sameNow_ok {t : TypeId} {d : TypeDesc} {k x : DV} {k' x' : Value} {b c : Bool} (hu : und T t = some d) (he : eqD T Op.maxDepth t k x = some b) (hk : VR σ k k') (hx : VR σ x x') (hs : Instr.sameNow d k' x' = some c) : c = b := by
  have h1 := eq_ok ok _ he hk hx
  have hu' := und_ok ok hu
  unfold Instr.sameNow at hs
  have key : ∀ w, (Op.equalIn Op.maxDepth t k' x').run P w = .ok c w := by
    intro w
    split at hs
    · rename_i q k1 a k2 b'
      split at hs
      · rename_i hk12; subst hk12
        injection hs with hs; subst hs
        exact run_equalIn_int w 9999 t k1 q a b' hu'
      · cases hs
    · rename_i p q
      injection hs with hs; subst hs
      rw [beq_toListBytes]
      exact run_equalIn_string w 9999 t p q hu'
    · rename_i p q
      injection hs with hs; subst hs
      exact run_equalIn_bool' w 9999 t p q hu'
    · cases hs
  have h2 := (h1 default).symm.trans (key default)
  injection h2 with h2
  exact h2.symm

omit [Lax] in
theorem now_ok {t : TypeId} {d : TypeDesc} {k : DV} {k' : Value} (hu : und T t = some d) (hk : VR σ k k') : ∀ {es : List (DV × DV)} {l : List MapEntry} {a : Option (Nat × DV)} {r : Option (Nat × Value)} (i : Nat), findD T t k es = some a → MR σ es l →
    Instr.findNow d k' l i = some r → AR σ i a r
  | [], l, a, r, i, h, hm, hn => by
    simp [MR] at hm; simp [findD] at h; subst hm; subst h
    simp [Instr.findNow] at hn; subst hn; rfl
  | e :: es, l, a, r, i, h, hm, hn => by
    simp only [MR] at hm
    obtain ⟨x, xs, rfl, h1, h2, h3⟩ := hm
    unfold findD at h
    unfold Instr.findNow at hn
    split at h
    · rename_i he
      injection h with h; subst h
      split at hn
      · injection hn with hn; subst hn
        exact ⟨x.val, by simp, h2⟩
      · rename_i hs
        have := sameNow_ok ok hu he hk h1 hs
        cases this
      · cases hn
    · rename_i he
      split at hn
      · rename_i hs
        have := sameNow_ok ok hu he hk h1 hs
        cases this
      · split at h
        · rename_i j v hf
          injection h with h; subst h
          obtain ⟨v', rfl, hv'⟩ := now_ok hu hk (i + 1) hf h3 hn
          exact ⟨v', by simp; omega, hv'⟩
        · rename_i hf
          injection h with h; subst h
          have ha := now_ok hu hk (i + 1) hf h3 hn
          exact ha
        · cases h
      · cases hn
    · cases h

omit [Lax] in
theorem find_ok {t : TypeId} {d : TypeDesc} {k : DV} {k' : Value} (hu : und T t = some d) (hk : VR σ k k') {es : List (DV × DV)} {l : List MapEntry} {a : Option (Nat × DV)} (h : findD T t k es = some a) (hm : MR σ es l) (w : World) :
    ∃ r, (Instr.findKey t k' l).run P w = .ok r w ∧ AR σ 0 a r := by
  unfold Instr.findKey
  simp only [Sem.run_bind, run_underlying (und_ok ok hu), Result.andThen_ok]
  cases hn : Instr.findNow d k' l 0 with
  | some r => exact ⟨r, by simp, now_ok ok hu hk 0 h hm hn⟩
  | none => exact asking_ok ok hk 0 h hm w

end

section
variable {P : Program} {T : TT} (ok : TTok P T) {B : Bd} {S : Sg} {h : H} {w : World}

omit [Lax] in
theorem gob {b : Nat} {w : World} {en : Array MapEntry} {cl : Nat} (h : w.heap[b]? = some (.map en cl)) : (getObj b).run P w = .ok (.map en cl) w := by
  simp [getObj, Sem.run, h]
omit [Lax] in
theorem sob {b : Nat} {w : World} {en : Array MapEntry} {cl : Nat} {o : Obj} (h : w.heap[b]? = some (.map en cl)) : (setObj b o).run P w = .ok () { w with heap := w.heap.setIfInBounds b o } := by
  simp [setObj, Sem.run, h]

omit [Lax] in
mutual
theorem DV.same_eq : ∀ {a b : DV}, DV.same a b = true → a = b
  | .bool a, b, h => by cases b <;> simp [DV.same] at h; subst h; rfl
  | .int j a, b, h => by cases b <;> simp [DV.same] at h; obtain ⟨rfl, rfl⟩ := h; rfl
  | .str a, b, h => by cases b <;> simp [DV.same] at h; subst h; rfl
  | .agg a, b, h => by
    cases b <;> simp only [DV.same, Bool.false_eq_true] at h
    rw [DV.sames_eq h]
  | .ptr _, b, h => by cases b <;> simp [DV.same] at h
  | .slice _ _ _ _, b, h => by cases b <;> simp [DV.same] at h
  | .map _, b, h => by cases b <;> simp [DV.same] at h
  | .func _ _, b, h => by cases b <;> simp [DV.same] at h
  | .nilFunc, b, h => by cases b <;> simp [DV.same] at h
  | .iface _ _, b, h => by cases b <;> simp [DV.same] at h
  | .nilIface, b, h => by cases b <;> simp [DV.same] at h
  | .tup _, b, h => by cases b <;> simp [DV.same] at h
theorem DV.sames_eq : ∀ {a b : List DV}, DV.sames a b = true → a = b
  | [], b, h => by cases b <;> simp [DV.sames] at h; rfl
  | x :: a, b, h => by
    cases b with
    | nil => simp [DV.sames] at h
    | cons y b =>
      simp only [DV.sames, Bool.and_eq_true] at h
      rw [DV.same_eq h.1, DV.sames_eq h.2]
end

theorem stays_ok {old new : Value} {w : World} : ∃ key w1, (Instr.keyThatStays old new).run P w = .ok key w1 ∧ Same w w1 ∧ (key = old ∨ key = new) := by
  unfold Instr.keyThatStays
  by_cases h : Instr.sameBits 10000 old new = true
  · exact ⟨new, w, by simp [h], Same.refl w, .inr rfl⟩
  · simp only [h, Bool.false_eq_true, if_false, Sem.run_bind, run_choose, Question.forced]
    by_cases q : (Question.extern "map.whichKeyStays" 2).cut (w.tape w.drawn (.extern "map.whichKeyStays" 2)) = 0
    · exact ⟨new, { w with drawn := w.drawn + 1 }, by simp [q], ⟨rfl, ⟨rfl, .inr (Nat.le_succ _)⟩, rfl, rfl⟩, .inr rfl⟩
    · exact ⟨old, { w with drawn := w.drawn + 1 }, by simp [q], ⟨rfl, ⟨rfl, .inr (Nat.le_succ _)⟩, rfl, rfl⟩, .inl rfl⟩

omit [Lax] in
theorem MR.get {σ : Nat → Option SE} : ∀ {es : List (DV × DV)} {l : List MapEntry}, MR σ es l → ∀ {i : Nat} {e : DV × DV}, es[i]? = some e → ∃ x, l[i]? = some x ∧ VR σ e.1 x.key ∧ VR σ e.2 x.val
  | [], l, h, i, e, hi => by simp at hi
  | e' :: es, l, h, i, e, hi => by
    simp only [MR] at h
    obtain ⟨x, xs, rfl, h1, h2, h3⟩ := h
    cases i with
    | zero => simp at hi; subst hi; exact ⟨x, rfl, h1, h2⟩
    | succ i => simp at hi ⊢; exact MR.get h3 hi

omit [Lax] in
theorem MR.length {σ : Nat → Option SE} : ∀ {es : List (DV × DV)} {l : List MapEntry}, MR σ es l → es.length = l.length
  | [], l, h => by simp [MR] at h; subst h; rfl
  | e :: es, l, h => by
    simp only [MR] at h
    obtain ⟨x, xs, rfl, _, _, h3⟩ := h
    simp [MR.length h3]

omit [Lax] in
theorem MR.set {σ : Nat → Option SE} : ∀ {es : List (DV × DV)} {l : List MapEntry} (i : Nat) {e : DV × DV} {x : MapEntry}, MR σ es l → VR σ e.1 x.key → VR σ e.2 x.val → MR σ (es.set i e) (l.set i x)
  | [], l, i, e, x, h, _, _ => by simp [MR] at h; subst h; simp [MR]
  | e' :: es, l, i, e, x, h, h1, h2 => by
    simp only [MR] at h
    obtain ⟨y, ys, rfl, g1, g2, g3⟩ := h
    cases i with
    | zero => simp only [List.set_cons_zero, MR]; exact ⟨x, ys, rfl, h1, h2, g3⟩
    | succ i => simp only [List.set_cons_succ, MR]; exact ⟨y, _, rfl, g1, g2, MR.set i g3 h1 h2⟩

omit [Lax] in
theorem MR.append {σ : Nat → Option SE} : ∀ {es fs : List (DV × DV)} {l m : List MapEntry}, MR σ es l → MR σ fs m → MR σ (es ++ fs) (l ++ m)
  | [], fs, l, m, h, k => by simp [MR] at h; subst h; exact k
  | e :: es, fs, l, m, h, k => by
    simp only [MR] at h
    obtain ⟨x, xs, rfl, h1, h2, h3⟩ := h
    simp only [List.cons_append, MR]
    exact ⟨x, _, rfl, h1, h2, MR.append h3 k⟩

include ok

omit [Lax] in
theorem lookup_ok {t : TypeId} {x k d : DV} {x' k' : Value} {c : Bool} (hat : ∀ i, ObjAt B S h w i) (hl : lookupD T t x k c h = some d) (hx : VR S.m x x') (hk : VR S.m k k') :
    ∃ v, (Instr.lookup t x' k' c).run P w = .ok v w ∧ VR S.m d v := by
  unfold lookupD at hl
  split at hl
  · rename_i kt et r hu
    split at hl
    · rename_i es z hes hz
      obtain ⟨i, zv, _, _, hzr, hzv⟩ := tzero_ok (σ := S.m) ok hz
      split at hl
      · rename_i hck
        -- the entries
        have hent : ∃ en : Array MapEntry, MR S.m es en.toList ∧ ((x' = .map none ∧ en = #[]) ∨ ∃ b cl, x' = .map (some b) ∧ w.heap[b]? = some (.map en cl)) := by
          cases r with
          | none =>
            simp at hes; subst hes
            simp only [VR] at hx; subst hx
            exact ⟨#[], by simp [MR], .inl ⟨rfl, rfl⟩⟩
          | some r =>
            simp only [VR] at hx; obtain ⟨se, hse, rfl⟩ := hx
            simp only [mapOf] at hes
            split at hes
            · rename_i es' hg
              injection hes with hes; subst hes
              obtain ⟨⟨h0, en, cl, h1, h2, _⟩, _⟩ := hat r se _ hse hg
              exact ⟨en, h2, .inr ⟨_, cl, rfl, h1⟩⟩
            · cases hes
        obtain ⟨en, hmr, hen⟩ := hent
        obtain ⟨kd, hkd⟩ : ∃ kd, und T kt = some kd := by
          unfold checkD at hck
          cases hq : und T kt with
          | none => simp [hq] at hck
          | some kd => exact ⟨kd, rfl⟩
        have hfin : ∀ (a : Option (Nat × DV)), findD T kt k es = some a → ∃ r, (Instr.findKey kt k' en.toList).run P w = .ok r w ∧ AR S.m 0 a r := fun a ha => find_ok ok hkd hk ha hmr w
        have hcheck := check_ok ok en.isEmpty 10000 hck hk w
        split at hl
        · rename_i j v hf
          injection hl with hl; subst hl
          obtain ⟨r', hr', v', rfl, hv'⟩ := hfin _ hf
          refine ⟨if c then .tuple #[v', .bool true] else v', ?_, ?_⟩
          · rcases hen with ⟨rfl, rfl⟩ | ⟨b, cl, rfl, hb⟩
            · simp only [Instr.lookup, Sem.run_bind, run_underlying (und_ok ok hu), Result.andThen_ok, hcheck, hr', Sem.run_pure]
            · simp only [Instr.lookup, Sem.run_bind, run_underlying (und_ok ok hu), Result.andThen_ok, gob hb, hcheck, hr', Sem.run_pure]
          · cases c
            · simpa using hv'
            · simp only [if_true, VR]; exact ⟨_, rfl, .cons hv' (.one (by simp [VR]))⟩
        · rename_i hf
          injection hl with hl; subst hl
          obtain ⟨r', hr', ha⟩ := hfin _ hf
          simp only [AR] at ha; subst ha
          refine ⟨if c then .tuple #[zv, .bool false] else zv, ?_, ?_⟩
          · rcases hen with ⟨rfl, rfl⟩ | ⟨b, cl, rfl, hb⟩
            · simp only [Instr.lookup, Sem.run_bind, run_underlying (und_ok ok hu), Result.andThen_ok, hcheck, hr', hzr, Sem.run_pure]
            · simp only [Instr.lookup, Sem.run_bind, run_underlying (und_ok ok hu), Result.andThen_ok, gob hb, hcheck, hr', hzr, Sem.run_pure]
          · cases c
            · simpa using hzv
            · simp only [if_true, VR]; exact ⟨_, rfl, .cons hzv (.one (by simp [VR]))⟩
        · cases hl
      · cases hl
    · cases hl
  · cases hl

omit ok in
omit [Lax] in
theorem Stamp.push {en : Array MapEntry} {cl : Nat} (h : Stamp en cl) (k v : Value) : Stamp (en.push { key := k, val := v, born := cl }) (cl + 1) := by
  obtain ⟨h1, h2⟩ := h
  refine ⟨fun x hx => ?_, ?_⟩
  · rw [Array.toList_push] at hx
    rcases List.mem_append.1 hx with hx | hx
    · exact Nat.lt_succ_of_lt (h1 x hx)
    · simp at hx; subst hx; exact Nat.lt_succ_self _
  · rw [Array.toList_push, List.map_append, List.pairwise_append]
    refine ⟨h2, by simp, fun a ha b hb => ?_⟩
    simp at hb; subst hb
    obtain ⟨x, hx, rfl⟩ := List.mem_map.1 ha
    exact Nat.ne_of_lt (h1 x hx)
omit ok in
omit [Lax] in
theorem Stamp.modify {en : Array MapEntry} {cl : Nat} (h : Stamp en cl) (i : Nat) (_k key v : Value) {x : MapEntry} (hx : en[i]? = some x) : Stamp (en.modify i fun e => { e with key := key, val := v }) cl := by
  have hm : ((en.modify i fun e => { e with key := key, val := v }).toList.map (·.born)) = en.toList.map (·.born) := by
    apply List.ext_getElem?
    intro j
    simp only [List.getElem?_map, Array.getElem?_toList, Array.getElem?_modify]
    by_cases hj : i = j
    · subst hj
      simp [hx]
    · simp [hj]
  obtain ⟨h1, h2⟩ := h
  refine ⟨fun y hy => ?_, by rw [hm]; exact h2⟩
  have : y.born ∈ en.toList.map (·.born) := by rw [← hm]; exact List.mem_map.2 ⟨y, hy, rfl⟩
  obtain ⟨z, hz, e⟩ := List.mem_map.1 this
  rw [← e]; exact h1 z hz

theorem mapUpdate_ok {t : TypeId} {x k v : DV} {x' k' v' : Value} {h' : H} (s : Sim B S h w) (hm : mapUpdateD T t x k v h = some h') (hx : VR S.m x x') (hk : VR S.m k k') (hv : VR S.m v v') :
    ∃ w', (Instr.mapUpdate t x' k' v').run P w = .ok () w' ∧ Sim B S h' w' ∧ Post S h w S h' w' := by
  unfold mapUpdateD at hm
  split at hm
  · rename_i kt et r hu
    simp only [VR] at hx; obtain ⟨se, hse, rfl⟩ := hx
    split at hm
    · rename_i es hes
      split at hm
      · rename_i hc
        obtain ⟨hck, hro⟩ := hc
        unfold mapOf at hes
        split at hes
        · rename_i es' hg
          injection hes with hes; subst hes
          obtain ⟨⟨h0, en, cl, h1, h2, hst⟩, _⟩ := s.obj r se _ hse hg
          obtain ⟨kd, hkd⟩ : ∃ kd, und T kt = some kd := by
            unfold checkD at hck
            cases hq : und T kt with
            | none => simp [hq] at hck
            | some kd => exact ⟨kd, rfl⟩
          have hcheck := check_ok ok false 10000 hck hk w
          have hlt : se.k < w.heap.size := s.wf.dom r se hse
          have put : ∀ (es2 : List (DV × DV)) (en2 : Array MapEntry) (cl2 : Nat) (w1 : World), Same w w1 → MR S.m es2 en2.toList → Stamp en2 cl2 →
              Sim B S (h.put r (.map es2)) { w1 with heap := w1.heap.setIfInBounds se.k (.map en2 cl2) } ∧ Post S h w S (h.put r (.map es2)) { w1 with heap := w1.heap.setIfInBounds se.k (.map en2 cl2) } := by
            intro es2 en2 cl2 w1 sm hmr hst2
            refine s.put hse hro hg trivial (o' := .map es2) sm.os ⟨sm.tape.eq, sm.tape.le⟩ sm.output (by simp [sm.heap]) (fun b hb => ?_) ⟨h0, en2, cl2, ?_, hmr, hst2⟩
            · simp [sm.heap, Ne.symm hb]
            · simp [sm.heap, hlt]
          split at hm
          · rename_i i vv hf
            split at hm
            · rename_i e0 he0
              split at hm
              · rename_i hsame
                injection hm with hm; subst hm
                have hek := DV.same_eq hsame
                obtain ⟨r', hr', v1, rfl, hv1⟩ := find_ok ok hkd hk hf h2 w
                rw [Nat.zero_add] at hr'
                obtain ⟨x0, hx0, hxk, hxv⟩ := h2.get he0
                have hx0' : en[i]? = some x0 := by simpa using hx0
                obtain ⟨key, w1, hkr, hsm, hkv⟩ := stays_ok (P := P) (old := x0.key) (new := k') (w := w)
                have hkvr : VR S.m k key := by
                  rcases hkv with rfl | rfl
                  · rw [← hek]; exact hxk
                  · exact hk
                have h1' : w1.heap[se.k]? = some (.map en cl) := by rw [hsm.heap]; exact h1
                have key' := put (es'.set i (k, v)) (en.modify i fun e => { e with key, val := v' }) cl w1 hsm (by
                  have : (en.modify i fun e => { e with key, val := v' }).toList = en.toList.set i { x0 with key, val := v' } := by
                    apply List.ext_getElem?
                    intro j
                    simp only [Array.getElem?_toList, Array.getElem?_modify, List.getElem?_set]
                    by_cases hj : i = j
                    · subst hj
                      obtain ⟨hlt2, hget⟩ := Array.getElem?_eq_some_iff.1 hx0'
                      simp [hlt2, hget]
                    · simp [hj]
                  rw [this]
                  exact MR.set i h2 hkvr hv) (hst.modify i k' key v' hx0')
                refine ⟨_, ?_, key'.1, key'.2⟩
                simp only [Instr.mapUpdate, Sem.run_bind, run_underlying (und_ok ok hu), Result.andThen_ok, gob h1, hcheck, hr', hx0', Option.map_some, Option.getD_some, hkr, sob h1']
              · cases hm
            · cases hm
          · rename_i hf
            injection hm with hm; subst hm
            obtain ⟨r', hr', ha⟩ := find_ok ok hkd hk hf h2 w
            simp only [AR] at ha; subst ha
            have key := put (es' ++ [(k, v)]) (en.push { key := k', val := v', born := cl }) (cl + 1) w (Same.refl w) (by
              rw [Array.toList_push]
              exact h2.append (by simp only [MR]; exact ⟨_, _, rfl, hk, hv, rfl⟩)) (hst.push _ _)
            refine ⟨_, ?_, key.1, key.2⟩
            simp only [Instr.mapUpdate, Sem.run_bind, run_underlying (und_ok ok hu), Result.andThen_ok, gob h1, hcheck, hr', sob h1]
          · cases hm
        · cases hes
      · cases hm
    · cases hm
  · cases hm

end
end Go.D
