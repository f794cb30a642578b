/-
  A whole region, drawn or in the text's order.
-/
import Derived.Test.YtfphfbfjmpbohaaGreatDJ
namespace Go.D
variable [Lax]

/-- How many are not yet listed. -/
def unl (n : Nat) (listed : Array Bool) : Nat := (List.range n).countP fun i => !listed.getD i true

omit [Lax] in
theorem countP_flip {f g : Nat → Bool} {i : Nat} (hne : ∀ x, x ≠ i → f x = g x) (hf : f i = true) (hg : g i = false) : ∀ n, i < n → (List.range n).countP f = (List.range n).countP g + 1
  | 0, h => by omega
  | n + 1, h => by
    rw [List.range_succ, List.countP_append, List.countP_append]
    by_cases hi : i = n
    · subst hi
      have : (List.range i).countP f = (List.range i).countP g := by
        apply List.countP_congr
        intro x hx
        rw [hne x (by have := List.mem_range.1 hx; omega)]
      rw [this]
      simp [hf, hg]
    · have := countP_flip hne hf hg n (by omega)
      rw [this]
      simp [List.countP_cons, hne n (fun e => hi e.symm)]
      omega

omit [Lax] in
theorem ready_iff {ops : Array Oper} {listed : Array Bool} {i : Nat} : i ∈ Region.ready .any ops listed ↔
    i < ops.size ∧ listed.getD i true = false ∧ ∃ o, ops[i]? = some o ∧ ∀ e ∈ o.after.toList, Region.binds .any e = true → listed.getD e.on false = true := by
  unfold Region.ready
  rw [List.mem_filter, List.mem_range]
  constructor
  · rintro ⟨h1, h2⟩
    simp only [Bool.and_eq_true, Bool.not_eq_true'] at h2
    refine ⟨h1, h2.1, ?_⟩
    cases ho : ops[i]? with
    | none => rw [ho] at h2; simp at h2
    | some o =>
      rw [ho] at h2
      refine ⟨o, rfl, fun e he hb => ?_⟩
      have h3 := h2.2
      simp only [Option.map_some, Option.getD_some] at h3
      rw [← Array.all_toList, List.all_eq_true] at h3
      have := h3 e he
      simpa [hb] using this
  · rintro ⟨h1, h2, o, ho, h3⟩
    refine ⟨h1, ?_⟩
    simp only [Bool.and_eq_true, Bool.not_eq_true']
    refine ⟨h2, ?_⟩
    rw [ho]
    simp only [Option.map_some, Option.getD_some]
    rw [← Array.all_toList, List.all_eq_true]
    intro e he
    cases hb : Region.binds .any e with
    | false => simp
    | true => simp [h3 e he hb]

section
variable {P : Program} {T : TT} {call : CallF} {bar : List Nat} {chk : List (Nat × Nat)} {ops : Array Oper} {size : Nat} {st : Nat → E × H}
  (tr : Tra P T call bar chk ops size st)
  {B : Bd} {S0 : Sg} {w0 : World} {ds : List Deferred} {Q : Exit → Act → World → Prop}
include tr

theorem Tra.done (_hF : (st ops.size).2.next ≤ B.f) (hfree : ∀ i, (st 0).2.next ≤ i → i < B.f → S0.m i = none)
    (hQ : ∀ S' a' w', ER S'.m (st ops.size).1 a' → Sim B S' (st ops.size).2 w' → Post S0 (st 0).2 w0 S' (st ops.size).2 w' → a'.tmps.size = size → a'.defers = ds → Q .normal a' w')
    {L : Nat → Prop} {S : Sg} {g : H} {a : Act} {w : World} (inv : Inv ops size st B S0 w0 ds L S g a w) (hall : ∀ j, j < ops.size → L j) : Q .normal a w := by
  have hgn := inv.gn
  have hgro := inv.gro
  have hN := tr.le (k := 0) (m := ops.size) (by omega) (Nat.le_refl _)
  have hrn := tr.rok (k := ops.size) (Nat.le_refl _)
  have hro0 := inv.ro0
  have hcut : ∀ i, Cut st ops.size L i ops.size := fun i => ⟨fun j hj _ => hall j hj, fun j h1 h2 => by omega⟩
  refine hQ S a w ?_ ?_ ?_ inv.size inv.defers
  · intro t d ht
    by_cases hex : ∃ (j : Nat) (o : Oper), ops[j]? = some o ∧ o.dst = some t
    · obtain ⟨j, o, ho, hd⟩ := hex
      exact inv.env1 j o t d (hall j (Array.getElem?_eq_some_iff.1 ho).1) ho hd ht
    · refine inv.env0 t d (fun j o _ ho hd => hex ⟨j, o, ho, hd⟩) ?_
      rw [← tr.envKeep (Nat.zero_le ops.size) (Nat.le_refl _) fun k o _ _ hk hd => hex ⟨k, o, hk, hd⟩]
      exact ht
  · refine ⟨⟨inv.sim.wf.dom, ?_, inv.sim.wf.low, inv.sim.wf.inj, inv.sim.wf.big, inv.sim.wf.dd⟩, ?_, by have := inv.sim.lo; show B.n ≤ _; have this : B.n ≤ g.ro := this; omega, by omega, tr.hwk (Nat.le_refl _)⟩
    · intro i h1 h2
      cases hm : S.m i with
      | none => rfl
      | some e =>
        have := (inv.post.new i e hm (hfree i (by omega) h2)).2.1
        omega
    · intro i e p he hp
      have hi : i < (st ops.size).2.next := by
        refine Classical.byContradiction fun q => ?_
        rw [tr.hwk (Nat.le_refl _) i (by omega)] at hp; cases hp
      rw [inv.con i ops.size (by rw [he]; simp) hi (Nat.le_refl _) (hcut i)] at hp
      exact inv.sim.obj i e p he hp
  · refine ⟨inv.post.ext, fun i e h1 h2 => ?_, fun i e h1 h2 => inv.post.old i e h1 (by omega), inv.post.deadm, fun i hi => ?_, hN, hrn, inv.post.fr, fun i hi hne => ?_⟩
    · obtain ⟨q1, q2, q3⟩ := inv.post.new i e h1 h2
      exact ⟨q1, by omega, q3⟩
    · rcases inv.post.deadn i hi with q | ⟨q1, q2, q3⟩
      · exact .inl q
      · exact .inr ⟨q1, by omega, q3⟩
    · refine Classical.byContradiction fun hn => hne ?_
      refine heapKeep (Nat.zero_le _) fun k _ hk hw => ?_
      have := tr.le (k := 0) (m := k) (by omega) (by omega)
      exact inv.wrd k i (hall k hk) hw (by omega) (Classical.byContradiction fun q => hn q)

theorem Tra.any (hF : (st ops.size).2.next ≤ B.f) (hfree : ∀ i, (st 0).2.next ≤ i → i < B.f → S0.m i = none)
    (hQ : ∀ S' a' w', ER S'.m (st ops.size).1 a' → Sim B S' (st ops.size).2 w' → Post S0 (st 0).2 w0 S' (st ops.size).2 w' → a'.tmps.size = size → a'.defers = ds → Q .normal a' w') :
    ∀ (fuel : Nat) (listed : Array Bool) (S : Sg) (g : H) (a : Act) (w : World), listed.size = ops.size → unl ops.size listed = fuel →
      Inv ops size st B S0 w0 ds (fun x => x < ops.size ∧ listed.getD x false = true) S g a w → wpAny P .any ops Q fuel listed a w := by
  have fin : ∀ (listed : Array Bool) (S : Sg) (g : H) (a : Act) (w : World), Inv ops size st B S0 w0 ds (fun x => x < ops.size ∧ listed.getD x false = true) S g a w → listed.size = ops.size →
      Region.ready .any ops listed = [] → Q .normal a w := by
    intro listed S g a w inv hsz hr
    refine tr.done hF hfree hQ inv ?_
    intro j
    induction j using Nat.strongRecOn with
    | _ j ih =>
      intro hj
      refine ⟨hj, Classical.byContradiction fun hn => ?_⟩
      obtain ⟨o, ho⟩ := tr.opAt hj
      have : j ∈ Region.ready .any ops listed := by
        rw [ready_iff]
        refine ⟨hj, ?_, o, ho, fun e he hb => (ih e.on ((tr.row j o ho).edge e he hb) (by have := (tr.row j o ho).edge e he hb; omega)).2⟩
        simp only [Array.getD, hsz, hj, dite_true] at hn ⊢
        simpa using hn
      rw [hr] at this
      cases this
  intro fuel
  induction fuel with
  | zero =>
    intro listed S g a w hsz hu inv
    have hr : Region.ready .any ops listed = [] := by
      rw [List.eq_nil_iff_forall_not_mem]
      intro i hi
      obtain ⟨h1, h2, _⟩ := ready_iff.1 hi
      unfold unl at hu
      rw [List.countP_eq_zero] at hu
      exact hu i (List.mem_range.2 h1) (by rw [h2]; rfl)
    exact ⟨hr, fin listed S g a w inv hsz hr⟩
  | succ fuel ih =>
    intro listed S g a w hsz hu inv
    refine ⟨fin listed S g a w inv hsz, ?_⟩
    intro i hi
    obtain ⟨h1, h2, o, ho, h3⟩ := ready_iff.1 hi
    refine tr.one inv ho (fun q => ?_) (fun e he hb => ⟨?_, h3 e he hb⟩) ?_
    · have q := q.2
      simp only [Array.getD, hsz, h1, dite_true] at q h2
      rw [q] at h2; cases h2
    · have := (tr.row i o ho).edge e he hb; omega
    · intro S' g' a' w' inv'
      refine ih _ S' g' a' w' (by simp [hsz]) ?_ ?_
      · have := countP_flip (f := fun x => !listed.getD x true) (g := fun x => !(listed.setIfInBounds i true).getD x true) (i := i) (fun x hx => by
            simp only [Array.getD_eq_getD_getElem?]
            rw [Array.getElem?_setIfInBounds_ne (fun e => hx e.symm)]) (by simp [h2]) (by simp [Array.getD, hsz, h1]) ops.size h1
        unfold unl at hu ⊢
        omega
      · have : (fun x => (x < ops.size ∧ listed.getD x false = true) ∨ x = i) = fun x => x < ops.size ∧ (listed.setIfInBounds i true).getD x false = true := by
          funext x
          apply propext
          by_cases hx : x = i
          · subst hx
            simp [Array.getD, hsz, h1]
          · simp only [hx, or_false, Array.getD_eq_getD_getElem?]
            rw [Array.getElem?_setIfInBounds_ne (fun e => hx e.symm)]
        rw [this] at inv'
        exact inv'

end

omit [Lax] in
theorem ER.drop {σ : Nat → Option SE} {e : E} {a : Act} (h : ER σ e a) : ER σ { vs := e.vs, ts := [] } a := by
  intro t d ht
  refine h t d ?_
  simp only [E.get] at ht ⊢
  split at ht
  · rename_i v hv; first | exact ht | (rw [hv]; exact ht)
  · simp [assoc] at ht

/-- A region that draws. -/
theorem draw_ok {P : Program} {T : TT} (ok : TTok P T) {call : CallF} (hc : CallsOK P call) (hm : P.follows .mixedOrders = true) {m : Meta} {id : Nat} {ops : Array Oper} {size : Nat}
    (hok : drawOK (chkOf m.bars id) (chkOf m.chks id) ops size = true) {e e' : E} {h h' : H} (hD : regionD T m call id ops.toList true e h = some (e', h'))
    {B : Bd} {S : Sg} {a : Act} {w : World} {Q : Exit → Act → World → Prop} (s : Sim B S h w) (hF : h'.next ≤ B.f) (he : ER S.m e a) (hs : size ≤ a.tmps.size)
    (hQ : ∀ S' a' w', ER S'.m e' a' → Sim B S' h' w' → Post S h w S' h' w' → a'.tmps.size = a.tmps.size → a'.defers = a.defers → Q .normal a' w') : (Code.region id ops true).wp P Q a w := by
  unfold regionD at hD
  rw [if_pos rfl] at hD
  split at hD
  · rename_i e1 h1 hops
    split at hD
    · rename_i hap
      injection hD with hD; injection hD with q1 q2; subst q1; subst q2
      obtain ⟨st, st0, st1, st2⟩ := trace_of hops
      have tr : Tra P T call (chkOf m.bars id) (chkOf m.chks id) ops a.tmps.size st := ⟨ok, hc, fun y oy hy =>
        let r := drawOK_spec hok hy; ⟨fun d hd => Nat.lt_of_lt_of_le (r.dst d hd) hs, r.edge, r.dist, r.pair⟩, fun k o hk => st1 k o (by rw [Array.getElem?_toList]; exact hk),
        by rw [st0]; exact s.hw, by
          have : ops.toList.length = ops.size := by simp
          rw [this] at st2
          rw [st2]; exact hap⟩
      have hsz : ops.toList.length = ops.size := by simp
      rw [hsz] at st2
      refine wp_region_any hm ?_
      have e0 : (st 0).2 = h := by rw [st0]
      have en : (st ops.size).2 = h1 := by rw [st2]
      have hlen := tr.le (k := 0) (m := ops.size) (by omega) (Nat.le_refl _)
      have hfree : ∀ i, (st 0).2.next ≤ i → i < B.f → S.m i = none := by rw [e0]; exact s.wf.free
      refine tr.any (B := B) (S0 := S) (w0 := w) (ds := a.defers) (by rw [en]; exact hF) hfree (by rw [st2, e0]; exact hQ) ops.size _ S ?_ a _ (by simp) ?_ ?_
      · exact (mkH (st ops.size).2.next (st 0).2.ro h.get).choose
      · unfold unl
        rw [List.countP_eq_length.2]
        · simp
        · intro x hx
          have := List.mem_range.1 hx
          simp [Array.getD, this]
      · obtain ⟨g1, g2, g3⟩ := (mkH (st ops.size).2.next (st 0).2.ro h.get).choose_spec
        generalize (mkH (st ops.size).2.next (st 0).2.ro h.get).choose = g at g1 g2 g3
        have gh : ∀ i, g.get i = h.get i := by
          intro i
          rw [g3]
          split
          · rfl
          · exact (s.hw i (by rw [e0] at hlen; omega)).symm
        have nof : ∀ j, ¬ (j < ops.size ∧ (Array.replicate ops.size false).getD j false = true) := by
          rintro j ⟨q1, q2⟩
          simp [Array.getD, q1] at q2
        refine ⟨fun j hj => hj.1, fun j o _ hj => (nof j hj).elim, fun j o t d hj => (nof j hj).elim, fun t d _ ht => ?_, rfl, rfl, ?_, g1, g2, by rw [e0]; exact s.hi, ?_, ?_, ?_, fun j i hj => (nof j hj).elim, ?_⟩
        · rw [st0] at ht; exact he.drop t d ht
        · refine Sim.same (w := w) ⟨⟨s.wf.dom, fun i q1 q2 => absurd q2 (by have q1 : g.next ≤ i := q1; have q2 : i < (st ops.size).2.next := q2; omega), s.wf.low, s.wf.inj, s.wf.big, s.wf.dd⟩, ?_, by rw [g2, e0]; exact s.lo, by have := s.hi; rw [e0] at g2 hlen; omega, ?_⟩ ⟨rfl, ⟨rfl, .inr (Nat.le_succ _)⟩, rfl, rfl⟩
          · intro i e p q1 q2
            rw [gh] at q2
            exact s.obj i e p q1 q2
          · intro i hi
            rw [g3, if_neg (by omega)]
        · intro i k _ _ hk hcut
          rw [gh, ← e0]
          exact heapKeep (Nat.zero_le _) fun x _ hx hw => nof x (hcut.1 x hx hw)
        · intro i _ _
          exact ⟨0, by omega, fun j hj => by omega, fun j _ _ _ => nof j⟩
        · intro j i hj q1 q2 q3
          have := tr.le (k := 0) (m := j) (by omega) (by omega)
          have := tr.le (k := j + 1) (m := ops.size) (by omega) (by omega)
          exact absurd (hfree i (by omega) (by rw [en] at this; omega)) q3
        · refine ⟨Ext.refl _, fun i e q1 q2 => (by rw [q1] at q2; cases q2), fun i e q1 q2 => ?_, fun _ q => q, fun _ q => .inl q, by omega, by rw [g2], ⟨rfl, ⟨rfl, .inr (Nat.le_succ _)⟩, rfl, Nat.le_refl _, fun _ _ _ => rfl⟩, fun i _ q => absurd (by rw [gh, e0]) q⟩
          refine Classical.byContradiction fun hn => ?_
          have := hfree i (by omega) (by rw [g1, en] at q2; omega)
          rw [q1] at this; cases this
    · cases hD
  · cases hD

/-- Each slot that is written is there. -/
def textOK (ops : Array Oper) (size : Nat) : Bool := ops.toList.all fun o => match o.dst with
  | some d => Nat.ble (d + 1) size
  | none => true

theorem opsD_ro {P : Program} {T : TT} {callf : Oper → CallF} (hc : ∀ o, CallsOK P (callf o)) {all : List Oper} : ∀ {l : List Oper} {e e' : E} {h h' : H}, opsD T callf all l e h = some (e', h') → RoK h h'
  | [], e, e', h, h', hD => by simp [opsD] at hD; rw [hD.2]; exact RoK.refl _
  | o :: l, e, e', h, h', hD => by
    simp only [opsD] at hD
    split at hD
    · rename_i e1 h1 hs
      exact (stepD_ro (hc o) hs).trans (opsD_ro hc hD)
    · cases hD

theorem region_ro {P : Program} {T : TT} {call : CallF} (hc : CallsOK P call) {m : Meta} {id : Nat} {ops : List Oper} {draw : Bool} {e e' : E} {h h' : H} (hD : regionD T m call id ops draw e h = some (e', h')) : RoK h h' := by
  unfold regionD at hD
  split at hD
  · split at hD
    · rename_i e1 h1 hops
      split at hD
      · injection hD with hD; injection hD with q1 q2; subst q1; subst q2
        exact opsD_ro (callOf_ok hc _) hops
      · cases hD
    · cases hD
  · exact opsD_ro (fun _ => hc) hD

/-- A region in the text's order. -/
theorem text_ok {P : Program} {T : TT} (ok : TTok P T) {call : CallF} (hc : CallsOK P call) {ops : Array Oper} {size : Nat} (hok : textOK ops size = true) {B : Bd} {Q : Exit → Act → World → Prop} :
    ∀ (l : List Oper) (k : Nat) (e e' : E) (h h' : H) (S : Sg) (a : Act) (w : World), ops.toList.drop k = l → opsD T (fun _ => call) ops.toList l e h = some (e', h') → Sim B S h w → h'.next ≤ B.f → ER S.m e a → size ≤ a.tmps.size →
      (∀ S' a' w', ER S'.m e' a' → Sim B S' h' w' → Post S h w S' h' w' → a'.tmps.size = a.tmps.size → a'.defers = a.defers → Q .normal a' w') → wpOps P ops Q (List.range' k l.length) a w
  | [], k, e, e', h, h', S, a, w, hl, hD, s, hF, he, hs, hQ => by
    simp [opsD] at hD
    obtain ⟨q1, q2⟩ := hD
    subst q1; subst q2
    exact hQ S a w he s (Post.refl _ _ _) rfl rfl
  | o :: l, k, e, e', h, h', S, a, w, hl, hD, s, hF, he, hs, hQ => by
    simp only [opsD] at hD
    split at hD
    · rename_i e1 h1 hst
      have ho : ops[k]? = some o := by
        rw [← Array.getElem?_toList]
        have := congrArg (·[0]?) hl
        simpa [List.getElem?_drop] using this
      have hl' : ops.toList.drop (k + 1) = l := by
        have := congrArg List.tail hl
        simpa [List.tail_drop] using this
      have hro := opsD_ro (P := P) (fun _ => hc) hD
      have hdst : ∀ t, o.dst = some t → t < size := by
        intro t ht
        unfold textOK at hok
        rw [List.all_eq_true] at hok
        have := hok o (List.mem_of_getElem? (by rw [Array.getElem?_toList]; exact ho))
        rw [ht] at this
        exact Nat.le_of_ble_eq_true this
      rw [List.length_cons, List.range'_succ, wpOps_cons]
      unfold wpOp
      simp only [ho]
      have hwant : ∀ b, wantedD ops.toList o e = some b → Region.wanted o (yielded ops a.tmps) = b := fun b hw => wanted_ok hw fun jj want t d _ _ hget => he t d hget
      have next : ∀ (v : Value) (d : DV) (S1 : Sg) (w1 : World), e1 = e.put o.dst d → VR S1.m d v → Sim B S1 h1 w1 → Post S h w S1 h1 w1 → wpOps P ops Q (List.range' (k + 1) l.length) (a.put o.dst v) w1 := by
        intro v d S1 w1 he1 hv s1 p1
        refine text_ok ok hc hok l (k + 1) e1 e' h1 h' S1 _ w1 hl' hD s1 hF ?_ (by rw [Act.put_size]; exact hs) ?_
        · rw [he1]
          exact (he.mono p1.ext).put hv (fun t ht => Nat.lt_of_lt_of_le (hdst t ht) hs)
        · intro S' a' w' q1 q2 q3 q4 q5
          exact hQ S' a' w' q1 q2 (p1.trans q3) (by rw [q4, Act.put_size]) (by rw [q5, Act.put_defers'])
      rcases stepD_cases hst with ⟨hw, d, hop, he1⟩ | ⟨hw, he1, hh⟩
      · rw [if_pos (hwant true hw)]
        left
        refine exec_ok ok hc s (Nat.le_trans hro.2.1 hF) he hop ?_
        intro v S1 w1 hv s1 p1
        exact next v d S1 w1 he1 hv s1 p1
      · rw [if_neg (by rw [hwant false hw]; simp)]
        subst hh
        exact next undef (.tup []) S w he1 (undef_ok _) s (Post.refl _ _ _)
    · cases hD

end Go.D
