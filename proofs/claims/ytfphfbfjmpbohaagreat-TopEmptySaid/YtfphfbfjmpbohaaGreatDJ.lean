/-
  Regions that draw: one more operation; the whole region.
-/
import Derived.Test.YtfphfbfjmpbohaaGreatDI
namespace Go.D
variable [Lax]

omit [Lax] in
theorem getD_put {a : Act} {dst : Option Nat} {v : Value} {t : Nat} (h : dst ≠ some t) : (a.put dst v).tmps.getD t undef = a.tmps.getD t undef := by
  cases dst with
  | none => rfl
  | some u =>
    have hu : u ≠ t := fun e => h (by rw [e])
    simp only [Act.put, Array.getD_eq_getD_getElem?]
    rw [Array.getElem?_setIfInBounds_ne hu]
omit [Lax] in
theorem getD_put_self {a : Act} {t : Nat} {v : Value} (h : t < a.tmps.size) : (a.put (some t) v).tmps.getD t undef = v := by
  simp [Act.put, Array.getD, h]

omit [Lax] in
theorem src_mem {op : Op} {b : Nat} (h : srcO op = some b) : Operand.tmp b ∈ op.operands := by
  cases op <;> simp only [srcO, reduceCtorEq] at h
  case load t x => cases x <;> simp only [reduceCtorEq] at h; injection h with h; subst h; simp [Op.operands]
  case call c =>
    obtain ⟨callee, args, ts⟩ := c
    cases callee with
    | value f => simp at h
    | invoke x n => simp at h
    | builtin bi =>
      cases bi <;> simp only [reduceCtorEq] at h
      split at h
      · rename_i b' hargs
        injection h with h; subst h
        have : Operand.tmp b' ∈ args := by rw [← Array.mem_toList_iff, hargs]; simp
        simp [Op.operands, Call.operands, this]
      · cases h

omit [Lax] in
/-- A length that is asked of no slice is asked of a map or the like. -/
theorem src_map {T : TT} {call : CallF} {e : E} {op : Op} {h h' : H} {d : DV} (hop : opD T call e op h = some (d, h')) (hk : ¬ kindOf op ≤ 1) {b : Nat} (hs : srcO op = some b) :
    ∃ v, e.get b = some v ∧ (∀ r, v ≠ .ptr (some r)) ∧ v ≠ .tup [] := by
  cases op <;> simp only [srcO, reduceCtorEq] at hs
  case load t x => simp [kindOf, isCall, writes] at hk
  case call c =>
    obtain ⟨callee, args, ts⟩ := c
    cases callee with
    | value f => simp at hs
    | invoke x n => simp at hs
    | builtin bi =>
      cases bi <;> simp only [reduceCtorEq] at hs
      split at hs
      · rename_i b' hargs
        injection hs with hs; subst hs
        simp only [opD, hargs, E.all, E.eval] at hop
        cases hv : e.get b' with
        | none => rw [hv] at hop; simp at hop
        | some v =>
          rw [hv] at hop
          simp only at hop
          unfold builtinD at hop
          split at hop
          · rename_i t x _ hts hx
            injection hx with hx; subst hx
            simp only [Option.map_eq_some_iff] at hop
            obtain ⟨y, hy, _⟩ := hop
            refine ⟨v, rfl, ?_, ?_⟩
            · rintro r rfl
              unfold lenD at hy
              cases hu : und T t with
              | none => rw [hu] at hy; cases hy
              | some u => rw [hu] at hy; cases u <;> cases hy
            · rintro rfl
              unfold lenD at hy
              cases hu : und T t with
              | none => rw [hu] at hy; cases hy
              | some u => rw [hu] at hy; cases u <;> cases hy
          all_goals simp_all
      · cases hs

section
variable {P : Program} {T : TT} {call : CallF} {bar : List Nat} {chk : List (Nat × Nat)} {ops : Array Oper} {size : Nat} {st : Nat → E × H}
  (tr : Tra P T call bar chk ops size st)
  {B : Bd} {S0 : Sg} {w0 : World} {ds : List Deferred} {L : Nat → Prop} {S : Sg} {g : H} {a : Act} {w : World}
  (inv : Inv ops size st B S0 w0 ds L S g a w) {j : Nat} {o : Oper} (ho : ops[j]? = some o) (hnl : ¬ L j)
  (hrd : ∀ e ∈ o.after.toList, Region.binds .any e = true → L e.on)
include tr inv ho hnl

theorem Tra.simAt {gj : H} (hn : gj.next = (st j).2.next) (hr : gj.ro = (st 0).2.ro) (hw : HW gj) (f2 : ∀ i, i < (st j).2.next → S.m i ≠ none → gj.get i = g.get i) :
    Sim { B with f := (st (j + 1)).2.next } S gj w := by
  have hj : j < ops.size := (Array.getElem?_eq_some_iff.1 ho).1
  have h1 := tr.le (k := 0) (m := j) (by omega) (by omega)
  have h2 := tr.le (k := j) (m := ops.size) (by omega) (by omega)
  have hlo := inv.sim.lo
  have hgro := inv.gro
  have hro0 := inv.ro0
  refine ⟨⟨inv.sim.wf.dom, ?_, inv.sim.wf.low, inv.sim.wf.inj, inv.sim.wf.big, inv.sim.wf.dd⟩, ?_, by rw [hr, ← hgro]; exact hlo, by omega, hw⟩
  · intro i q1 q2
    refine Classical.byContradiction fun hm => hnl ?_
    exact inv.plc j i hj (by omega) q2 hm
  · intro i e p he hp
    have hi : i < (st j).2.next := by
      refine Classical.byContradiction fun q => ?_
      rw [hw i (by omega)] at hp; cases hp
    have := f2 i hi (by rw [he]; simp)
    rw [this] at hp
    exact inv.sim.obj i e p he hp

include hrd

theorem Tra.fin {gj gj' : H} {S' : Sg} {w' : World} {v : Value} {d : DV} (he : (st (j + 1)).1 = (st j).1.put o.dst d)
    (hn : gj.next = (st j).2.next) (hr : gj.ro = (st 0).2.ro) (hn' : gj'.next = (st (j + 1)).2.next)
    (f4 : ∀ i, i < (st j).2.next → S.m i ≠ none → ¬ Wr st j i → gj'.get i = g.get i)
    (f5 : ∀ i, (st j).2.next ≤ i → gj'.get i = (st (j + 1)).2.get i)
    (f3 : ∀ i, i < (st j).2.next → S.m i ≠ none → Wr st j i → gj'.get i = (st (j + 1)).2.get i ∧ Cut st ops.size L i j)
    (f6 : ∀ i, i < (st j).2.next → Wr st j i → S'.m i ≠ none)
    (hv : VR S'.m d v) (s' : Sim { B with f := (st (j + 1)).2.next } S' gj' w') (p : Post S gj w S' gj' w') :
    ∃ g', Inv ops size st B S0 w0 ds (fun x => L x ∨ x = j) S' g' (a.put o.dst v) w' := by
  have hj : j < ops.size := (Array.getElem?_eq_some_iff.1 ho).1
  have le1 : (st 0).2.next ≤ (st j).2.next := tr.le (by omega) (by omega)
  have le2 : (st j).2.next ≤ (st (j + 1)).2.next := tr.le (by omega) (by omega)
  have le3 : (st (j + 1)).2.next ≤ (st ops.size).2.next := tr.le (by omega) (by omega)
  have hgn := inv.gn
  have hgro := inv.gro
  have hro0 := inv.ro0
  have place : ∀ i, S'.m i ≠ none → S.m i = none → (st j).2.next ≤ i ∧ i < (st (j + 1)).2.next := by
    intro i h1 h2
    cases hm : S'.m i with
    | none => exact absurd hm h1
    | some e =>
      obtain ⟨q1, q2, _⟩ := p.new i e hm h2
      omega
  have keepm : ∀ i, S.m i ≠ none → S'.m i ≠ none := by
    intro i h1
    cases hm : S.m i with
    | none => exact absurd hm h1
    | some e => rw [p.ext i e hm]; simp
  have nol : ∀ i, (st j).2.next ≤ i → i < (st (j + 1)).2.next → S.m i = none → ∀ x, L x → ¬ Wr st x i := by
    intro i h1 h2 h3 x hx hw
    have hxs := inv.lt x hx
    have hxj : x ≠ j := fun e => hnl (e ▸ hx)
    have := tr.wrLt hxs hw
    by_cases q : i < (st x).2.next
    · exact inv.wrd x i hx hw q h3
    · rcases Nat.lt_or_gt_of_ne hxj with q1 | q1
      · have := tr.le (k := x + 1) (m := j) (by omega) (by omega)
        omega
      · have := tr.le (k := j + 1) (m := x) (by omega) (by omega)
        omega
  have wrIn : ∀ i, S.m i ≠ none → Wr st j i → i < (st j).2.next := by
    intro i h1 h2
    refine Classical.byContradiction fun q => hnl ?_
    exact inv.plc j i hj (by omega) (tr.wrLt hj h2) h1
  obtain ⟨g', g1, g2, g3⟩ := mkH (st ops.size).2.next (st 0).2.ro fun i => if S'.m i = none then (st 0).2.get i else if i < (st (j + 1)).2.next then gj'.get i else g.get i
  have gp : ∀ i, S'.m i ≠ none → i < (st ops.size).2.next → g'.get i = if i < (st (j + 1)).2.next then gj'.get i else g.get i := by
    intro i h1 h2
    rw [g3, if_pos h2, if_neg h1]
  have ownb : ∀ b, Owns S gj b → Owns S g b := by
    rintro b ⟨x, f, q1, q2, q3, q4, q5⟩
    exact ⟨x, f, q1, by omega, by omega, q4, q5⟩
  refine ⟨g', ?_, ?_, ?_, ?_, by rw [Act.put_size]; exact inv.size, by rw [Act.put_defers']; exact inv.defers, ?_, g1, g2, hro0, ?_, ?_, ?_, ?_, ?_⟩
  · rintro x (hx | rfl)
    · exact inv.lt x hx
    · exact hj
  · rintro x ox hox (hx | rfl) e h1 h2
    · exact .inl (inv.down x ox hox hx e h1 h2)
    · rw [ho] at hox; injection hox with hox; subst hox
      exact .inl (hrd e h1 h2)
  · intro x ox t d0 hx hox hdx hg
    by_cases hxj : x = j
    · subst hxj
      rw [ho] at hox; injection hox with hox; subst hox
      rw [tr.envKeep (x := x + 1) (by omega) (Nat.le_refl _) fun k ok h1 _ hk h2 => tr.dist ho hk (by omega) hdx h2, he, E.get_put, if_pos hdx] at hg
      injection hg with hg; subst hg
      have := (tr.row x o ho).dst t hdx
      rw [hdx, getD_put_self (by rw [inv.size]; exact this)]
      exact hv
    · rcases hx with hx | hx
      · rw [getD_put fun e => tr.dist hox ho hxj hdx e]
        exact (inv.env1 x ox t d0 hx hox hdx hg).mono p.ext
      · exact absurd hx hxj
  · intro t d0 hno hg
    rw [getD_put (hno j o (.inr rfl) ho)]
    exact (inv.env0 t d0 (fun x ox hx => hno x ox (.inl hx)) hg).mono p.ext
  · refine ⟨⟨s'.wf.dom, fun i q1 q2 => absurd q2 (by have q1 : g'.next ≤ i := q1; have q2 : i < (st ops.size).2.next := q2; omega), s'.wf.low, s'.wf.inj, s'.wf.big, s'.wf.dd⟩, ?_, by have := inv.sim.lo; show B.n ≤ g'.ro; have this : B.n ≤ g.ro := this; omega, by have := tr.le (k := 0) (m := ops.size) (by omega) (Nat.le_refl _); omega, fun i hi => by rw [g3, if_neg (by omega)]⟩
    intro i e q hS hq
    have hin : i < (st ops.size).2.next := by
      refine Classical.byContradiction fun h1 => ?_
      rw [g3, if_neg h1] at hq; cases hq
    rw [gp i (by rw [hS]; simp) hin] at hq
    split at hq
    · exact s'.obj i e q hS hq
    · rename_i hge
      have hSm : S.m i = some e := by
        cases hm : S.m i with
        | none => exact absurd (place i (by rw [hS]; simp) hm).2 hge
        | some e' => rw [p.ext i e' hm] at hS; exact hS
      obtain ⟨o1, o2⟩ := inv.sim.obj i e q hSm hq
      by_cases hl : q.live
      · have hnd := o2 hl
        have hBi : B.n ≤ i := by
          have := inv.sim.lo
          have this : B.n ≤ g.ro := this
          omega
        refine ⟨o1.mono p.ext (p.fr.blk _ (inv.sim.wf.dom i e hSm) ?_), fun _ hd => ?_⟩
        · rintro ⟨x, f, q1, q2, q3, q4, q5⟩
          have hBx : B.n ≤ x := by
            have := inv.sim.lo
            have this : B.n ≤ g.ro := this
            omega
          exact inv.sim.wf.inj x i f e q1 hSm hBx hBi q4 hnd (by omega) q5
        · rcases p.deadn i hd with h1 | ⟨_, h1, _⟩
          · exact hnd h1
          · omega
      · cases q <;> simp [DObj.live] at hl
        exact ⟨trivial, fun h => h.elim⟩
  · intro i k hS hi hk hcut
    rw [gp i hS hi]
    by_cases hSm : S.m i = none
    · obtain ⟨p1, p2⟩ := place i hS hSm
      rw [if_pos p2, f5 i p1]
      by_cases hkj : k ≤ j
      · have hnw : ¬ Wr st j i := fun hw => hcut.2 j hkj hj hw (.inr rfl)
        have e1 : (st (j + 1)).2.get i = (st j).2.get i := Classical.byContradiction hnw
        have := tr.le (k := k) (m := j) hkj (by omega)
        rw [e1, tr.hwk (k := j) (by omega) i p1, tr.hwk (k := k) hk i (by omega)]
      · refine heapKeep (x := j + 1) (by omega) fun x h1 h2 hw => ?_
        rcases hcut.1 x h2 hw with q | q
        · exact nol i p1 p2 hSm x q hw
        · omega
    · by_cases hW : Wr st j i
      · have hij := wrIn i hSm hW
        obtain ⟨q1, q2⟩ := f3 i hij hSm hW
        rw [if_pos (by omega), q1]
        have hkj : j < k := Classical.byContradiction fun q => hcut.2 j (by omega) hj hW (.inr rfl)
        refine heapKeep (x := j + 1) (by omega) fun x h1 h2 hw => ?_
        rcases hcut.1 x h2 hw with q | q
        · exact q2.2 x (by omega) (by omega) hw q
        · omega
      · have hc : Cut st ops.size L i k := by
          refine ⟨fun x hx hw => ?_, fun x h1 h2 hw hx => hcut.2 x h1 h2 hw (.inl hx)⟩
          rcases hcut.1 x hx hw with q | q
          · exact q
          · subst q; exact absurd hw hW
        rw [inv.con i k hSm hi hk hc]
        split
        · rename_i hlt
          have : i < (st j).2.next := Classical.byContradiction fun q => hnl (inv.plc j i hj (by omega) hlt hSm)
          exact (f4 i this hSm hW).symm
        · rfl
  · intro i hS hi
    by_cases hSm : S.m i = none
    · obtain ⟨p1, p2⟩ := place i hS hSm
      refine ⟨j + 1, by omega, fun x hx hw => ?_, fun x h1 h2 hw => ?_⟩
      · by_cases hxj : x = j
        · exact .inr hxj
        · have := tr.wrLt (j := x) (by omega) hw
          have := tr.le (k := x + 1) (m := j) (by omega) (by omega)
          omega
      · rintro (hx | hx)
        · exact nol i p1 p2 hSm x hx hw
        · omega
    · by_cases hW : Wr st j i
      · obtain ⟨_, q2⟩ := f3 i (wrIn i hSm hW) hSm hW
        refine ⟨j + 1, by omega, fun x hx hw => ?_, fun x h1 h2 hw => ?_⟩
        · by_cases hxj : x = j
          · exact .inr hxj
          · exact .inl (q2.1 x (by omega) hw)
        · rintro (hx | hx)
          · exact q2.2 x (by omega) h2 hw hx
          · omega
      · obtain ⟨k, hk, c1, c2⟩ := inv.cut i hSm hi
        refine ⟨k, hk, fun x hx hw => .inl (c1 x hx hw), fun x h1 h2 hw => ?_⟩
        rintro (hx | hx)
        · exact c2 x h1 h2 hw hx
        · subst hx; exact hW hw
  · intro x i hx h1 h2 hS
    by_cases hSm : S.m i = none
    · obtain ⟨p1, p2⟩ := place i hS hSm
      refine .inr (Classical.byContradiction fun hxj => ?_)
      rcases Nat.lt_or_gt_of_ne hxj with q | q
      · have := tr.le (k := x + 1) (m := j) (by omega) (by omega)
        omega
      · have := tr.le (k := j + 1) (m := x) (by omega) (by omega)
        omega
    · exact .inl (inv.plc x i hx h1 h2 hSm)
  · rintro x i (hx | rfl) hw hi
    · exact keepm i (inv.wrd x i hx hw hi)
    · exact f6 i hi hw
  · have back : ∀ b, b < w0.heap.size → Owns S gj b → Owns S0 (st 0).2 b := fun b hb ho => (ownb b ho).back inv.post hb
    refine ⟨inv.post.ext.trans p.ext, ?_, fun i e h1 h2 => inv.post.old i e h1 (by omega), fun i hi => p.deadm i (inv.post.deadm i hi), ?_, by omega, by omega, ?_, ?_⟩
    · intro i e hS hS0
      by_cases hSm : S.m i = none
      · obtain ⟨p1, p2⟩ := place i (by rw [hS]; simp) hSm
        obtain ⟨_, _, q⟩ := p.new i e hS hSm
        refine ⟨by omega, by omega, ?_⟩
        by_cases hb : e.k < w0.heap.size
        · rcases q with q | q
          · have := inv.post.fr.size; omega
          · exact .inr (back _ hb q)
        · exact .inl (by omega)
      · cases hm : S.m i with
        | none => exact absurd hm hSm
        | some e' =>
          have := p.ext i e' hm
          rw [hS] at this
          injection this with this; subst this
          obtain ⟨q1, q2, q3⟩ := inv.post.new i e hm hS0
          exact ⟨q1, by omega, q3⟩
    · intro i hi
      rcases p.deadn i hi with q | ⟨q1, q2, q3⟩
      · rcases inv.post.deadn i q with q | ⟨q1, q2, q3⟩
        · exact .inl q
        · exact .inr ⟨q1, by omega, keepm i q3⟩
      · exact .inr ⟨by omega, by omega, q3⟩
    · exact ⟨p.fr.os.trans inv.post.fr.os, p.fr.tape.trans inv.post.fr.tape, p.fr.output.trans inv.post.fr.output, Nat.le_trans inv.post.fr.size p.fr.size, fun b hb hno =>
        (p.fr.blk b (Nat.lt_of_lt_of_le hb inv.post.fr.size) (fun q => hno (back b hb q))).trans (inv.post.fr.blk b hb hno)⟩
    · intro i hi hne hm
      apply hne
      rw [g3, if_pos (by omega), if_pos hm]

theorem Tra.one {K : Act → World → Prop} {Q : Exit → Act → World → Prop}
    (hK : ∀ S' g' a' w', Inv ops size st B S0 w0 ds (fun x => L x ∨ x = j) S' g' a' w' → K a' w') : wpOp P ops Q j K a w := by
  have hj : j < ops.size := (Array.getElem?_eq_some_iff.1 ho).1
  have hlk := tr.look inv ho hnl hrd
  unfold wpOp
  simp only [ho]
  have hwant : ∀ b, wantedD ops.toList o (st j).1 = some b → Region.wanted o (yielded ops a.tmps) = b := fun b hw => wanted_ok hw fun jj want t d hg hb hget =>
    hlk t (by simp [Oper.looksAt, hg, hb]) d hget
  have hro := tr.rok (k := j) (by omega)
  have hwj := tr.hwk (k := j) (by omega)
  rcases stepD_cases (e' := (st (j + 1)).1) (h' := (st (j + 1)).2) (tr.stp j o ho) with ⟨hw, d, hop, he⟩ | ⟨hw, he, hh⟩
  · rw [if_pos (hwant true hw)]
    left
    -- only the slots that are looked at
    obtain ⟨e', hER, hev⟩ : ∃ e' : E, ER S.m e' a ∧ ∀ x ∈ o.op.operands, e'.eval x = (st j).1.eval x := by
      have hmk : ∀ l : List Nat, ∃ e' : E, ∀ t, e'.get t = if t ∈ l then (st j).1.get t else none := by
        intro l
        induction l with
        | nil => exact ⟨⟨[], []⟩, fun t => by simp [E.get, assoc]⟩
        | cons u l ih =>
          obtain ⟨e', he'⟩ := ih
          cases hu : (st j).1.get u with
          | none =>
            refine ⟨e', fun t => ?_⟩
            rw [he']
            by_cases htu : t = u
            · subst htu; simp [hu]
            · simp [htu]
          | some v =>
            refine ⟨e'.put (some u) v, fun t => ?_⟩
            rw [E.get_put, he']
            by_cases htu : t = u
            · subst htu; simp [hu]
            · have : u ≠ t := fun e => htu e.symm
              simp [htu, this]
      obtain ⟨e', he'⟩ := hmk (o.looksAt ops)
      refine ⟨e', fun t d ht => ?_, fun x hx => ?_⟩
      · rw [he'] at ht
        split at ht
        · rename_i hm; exact hlk t hm d ht
        · cases ht
      · cases x with
        | tmp t =>
          have : t ∈ o.looksAt ops := List.mem_append_left _ (List.mem_filterMap.2 ⟨.tmp t, by simpa using hx, rfl⟩)
          simp only [E.eval]
          rw [he', if_pos this]
        | _ => rfl
    rw [← opD_congr hev] at hop
    by_cases hk : kindOf o.op ≤ 1
    · -- no memory, or one load
      obtain ⟨gj, n1, n2, n3⟩ := mkH (st j).2.next (st 0).2.ro g.get
      have hgw : HW gj := fun i hi => by rw [n3, if_neg (by omega)]
      have hsim := tr.simAt inv ho hnl n1 n2 hgw (fun i hi _ => by rw [n3, if_pos hi])
      have hbl := blank_ok (call' := callOf call (quiet call) bar o) hop hk (g := gj) n1 (fun t x r hop1 hx => by
        -- the load's object
        have hx' : (st j).1.eval x = some (.ptr (some r)) := by rw [← hev x (by rw [hop1]; simp [Op.operands])]; exact hx
        have hvr := eval_ok hER hx
        simp only [VR] at hvr
        obtain ⟨se, hse, _⟩ := hvr
        have hrm : S.m r.1 ≠ none := by rw [hse]; simp
        by_cases hr : r.1 < (st j).2.next
        · have hcut := tr.cutAt inv ho hnl hrd (by simp [rdO, hop1, kindOf, isCall, writes]) hrm hr (fun b hb => by
            rw [hop1] at hb
            cases x <;> simp only [srcO, reduceCtorEq] at hb
            injection hb with hb
            subst hb
            exact ⟨_, hx', fun u hu => hits_ptr hu⟩)
          rw [n3, if_pos hr]
          exact (inv.con r.1 j hrm (by have := tr.le (k := j) (m := ops.size) (by omega) (Nat.le_refl _); omega) (by omega) hcut).symm
        · rw [n3, if_neg hr]; exact (hwj _ (by omega)).symm)
      have nowr : ∀ i, i < (st j).2.next → ¬ Wr st j i := fun i hi hw => hw (prim_old hop (by omega) i hi)
      have key : ∀ gj' : H, opD T (callOf call (quiet call) bar o) e' o.op gj = some (d, gj') → gj'.next = (st (j + 1)).2.next → (∀ i, i < (st j).2.next → gj'.get i = gj.get i) →
          (∀ i, (st j).2.next ≤ i → gj'.get i = (st (j + 1)).2.get i) → o.wp P a w K Q := by
        intro gj' q1 q2 q3 q4
        refine exec_ok tr.ok (callOf_ok tr.hc bar o) hsim (show gj'.next ≤ (st (j + 1)).2.next by omega) hER q1 ?_
        intro v S' w' hv s' p
        obtain ⟨g', hi⟩ := tr.fin inv ho hnl hrd he n1 n2 q2 (fun i hi _ _ => by rw [q3 i hi, n3, if_pos hi]) q4 (fun i hi _ hw => absurd hw (nowr i hi)) (fun i hi hw => absurd hw (nowr i hi)) hv s' p
        exact hK S' g' _ w' hi
      rcases hbl with ⟨b1, b2⟩ | ⟨ob, b1, b2⟩
      · exact key gj b2 (by rw [b1]; exact n1) (fun _ _ => rfl) (fun i hi => by rw [b1, hwj i hi, n3, if_neg (by omega)])
      · refine key _ b2 (by rw [b1]; simp [n1]) (fun i hi => by rw [H.get_new, if_neg (by omega)]) (fun i hi => ?_)
        rw [b1, H.get_new, H.get_new, n1, n3, hwj i hi]
        by_cases q : (st j).2.next = i
        · rw [if_pos q, if_pos q]
        · rw [if_neg q, if_neg q, if_neg (by omega)]
    by_cases hq : ∃ b v, srcO o.op = some b ∧ e'.get b = some v ∧ isSq v = true
    · -- the length of a slice
      obtain ⟨b, v0, hb, hv0, hsq⟩ := hq
      obtain ⟨gj, n1, n2, n3⟩ := mkH (st j).2.next (st 0).2.ro g.get
      have hgw : HW gj := fun i hi => by rw [n3, if_neg (by omega)]
      have hsim := tr.simAt inv ho hnl n1 n2 hgw (fun i hi _ => by rw [n3, if_pos hi])
      obtain ⟨b1, b2⟩ := len_blank (call' := callOf call (quiet call) bar o) hop hk hb hv0 hsq (g := gj)
      have nowr : ∀ i, ¬ Wr st j i := fun i hw => hw (by rw [b1])
      refine exec_ok tr.ok (callOf_ok tr.hc bar o) hsim (show gj.next ≤ (st (j + 1)).2.next by rw [b1]; omega) hER b2 ?_
      intro v S' w' hv s' p
      obtain ⟨g', hi⟩ := tr.fin inv ho hnl hrd he n1 n2 (by rw [b1]; exact n1) (fun i hi _ _ => by rw [n3, if_pos hi]) (fun i hi => by rw [b1, hwj i hi, n3, if_neg (by omega)]) (fun i hi _ hw => absurd hw (nowr i)) (fun i hi hw => absurd hw (nowr i)) hv s' p
      exact hK S' g' _ w' hi
    · -- it reads or writes
      have hrdo : rdO o = true := by simp only [rdO, Nat.ble_eq]; omega
      have nload : ∀ i b, srcO o.op = some b → ∃ v, (st j).1.get b = some v ∧ ∀ u, apartV u v = true → ¬ hits u i := by
        intro i b hb
        obtain ⟨v, hv, hmap⟩ := src_map hop hk hb
        have hbv : (st j).1.get b = some v := by
          have := hev (.tmp b) (src_mem hb)
          simp only [E.eval] at this
          rw [← this]; exact hv
        refine ⟨v, hbv, fun u hu => hits_other hu ?_ ?_ ?_ i⟩
        · rintro r rfl; exact hmap.1 r rfl
        · cases hsq : isSq v with
          | false => rfl
          | true => exact absurd ⟨b, v, hb, hv, hsq⟩ hq
        · exact hmap.2
      have hcut : ∀ i, i < (st j).2.next → S.m i ≠ none → Cut st ops.size L i j := fun i hi hm =>
        tr.cutAt inv ho hnl hrd hrdo hm hi (nload i)
      have f2 : ∀ i, i < (st j).2.next → S.m i ≠ none → (st j).2.get i = g.get i := fun i hi hm =>
        inv.con i j hm (by have := tr.le (k := j) (m := ops.size) (by omega) (Nat.le_refl _); omega) (by omega) (hcut i hi hm)
      have hsim := tr.simAt inv ho hnl rfl hro hwj f2
      refine exec_ok tr.ok (callOf_ok tr.hc bar o) hsim (Nat.le_refl _) hER hop ?_
      intro v S' w' hv s' p
      obtain ⟨g', hi⟩ := tr.fin inv ho hnl hrd he rfl hro rfl (fun i hi hm hw => by
          have : (st (j + 1)).2.get i = (st j).2.get i := Classical.byContradiction hw
          rw [this]; exact f2 i hi hm) (fun i _ => rfl) (fun i hi hm _ => ⟨rfl, hcut i hi hm⟩) (fun i hi hw => p.chg i hi hw) hv s' p
      exact hK S' g' _ w' hi
  · rw [if_neg (by rw [hwant false hw]; simp)]
    have f2 : ∀ i, ¬ Wr st j i := fun i hw => hw (by rw [hh])
    obtain ⟨gj, n1, n2, n3⟩ := mkH (st j).2.next (st 0).2.ro g.get
    have hgw : HW gj := fun i hi => by rw [n3, if_neg (by omega)]
    have hsim := tr.simAt inv ho hnl n1 n2 hgw (fun i hi _ => by rw [n3, if_pos hi])
    obtain ⟨g', hi⟩ := tr.fin inv ho hnl hrd he n1 n2 (by rw [n1, hh]) (fun i hi _ _ => by rw [n3, if_pos hi]) (fun i hi => by rw [hh, hwj i hi, n3, if_neg (by omega)]) (fun i _ _ hw => absurd hw (f2 i)) (fun i _ hw => absurd hw (f2 i))
      (undef_ok S.m) hsim (Post.refl S gj w)
    exact hK S g' _ w hi

end
end Go.D
