/-
  A range over a map under way: which entries have come. Keys of whatever type. No program is named here.
-/
import Derived.Test.YtfphfbfjmpbohaaGreatDS
import Derived.RangeFuncGives
import Derived.Maps.RangeRun
import Derived.Sort.MapsRangeIn
namespace Go.D
open Go.RowKit
open Go.ChangeMaps (setBlock)

theorem Stamp.nodup {es : Array MapEntry} {cl : Nat} (h : Stamp es cl) : (es.toList.map (·.born)).Nodup := h.2

theorem born_inj {l : List MapEntry} (h : (l.map (·.born)).Nodup) {x y : MapEntry} (hx : x ∈ l) (hy : y ∈ l) (e : x.born = y.born) : x = y := by
  induction l with
  | nil => cases hx
  | cons a l ih =>
    simp only [List.map_cons, List.nodup_cons] at h
    rcases List.mem_cons.1 hx with h1 | h1
    · rcases List.mem_cons.1 hy with h2 | h2
      · exact h1.trans h2.symm
      · subst h1; exact absurd (List.mem_map.2 ⟨y, h2, e.symm⟩) h.1
    · rcases List.mem_cons.1 hy with h2 | h2
      · subst h2; exact absurd (List.mem_map.2 ⟨x, h1, e⟩) h.1
      · exact ih h.2 h1 h2

theorem nodup_of_map {l : List MapEntry} (h : (l.map (·.born)).Nodup) : l.Nodup := by
  induction l with
  | nil => simp
  | cons a l ih =>
    simp only [List.map_cons, List.nodup_cons] at h ⊢
    exact ⟨fun hm => h.1 (List.mem_map.2 ⟨a, hm, rfl⟩), ih h.2⟩

theorem length_le_of_nodup : ∀ {l m : List Nat}, l.Nodup → (∀ x ∈ l, x ∈ m) → l.length ≤ m.length
  | [], _, _, _ => Nat.zero_le _
  | x :: l, m, h, hs => by
    have hx := hs x (by simp)
    simp only [List.nodup_cons] at h
    have h1 := length_le_of_nodup (m := m.erase x) h.2 fun y hy => (List.mem_erase_of_ne (by intro e; subst e; exact h.1 hy)).2 (hs y (by simp [hy]))
    rw [List.length_erase_of_mem hx] at h1
    have := List.length_pos_of_mem hx
    simp only [List.length_cons]
    omega

/-- Block b is a map, block r an iterator over it; these entries have come. -/
structure Rng (b r : Nat) (es : Array MapEntry) (clock : Nat) (done : List MapEntry) (W : World) : Prop where
  map : W.heap[b]? = some (.map es clock)
  it : ∃ seen, W.heap[r]? = some (.mapIter (some b) clock seen clock) ∧ seen.toList = done.map (·.born)
  sub : ∀ x ∈ done, x ∈ es.toList
  nd : (done.map (·.born)).Nodup

section
variable {b r : Nat} {es : Array MapEntry} {clock : Nat} {done : List MapEntry} {W W' : World}

theorem Rng.walk (h : Rng b r es clock done W) : ∃ o : Obj, W.heap[r]? = some o ∧ o.isWalk = true := by
  obtain ⟨seen, h1, _⟩ := h.it
  exact ⟨_, h1, rfl⟩

theorem Rng.of_walks (h : Rng b r es clock done W) (k : KeepsWalks W W') : Rng b r es clock done W' := by
  obtain ⟨seen, h1, h2⟩ := h.it
  exact ⟨k.same b _ h.map rfl, ⟨seen, k.same r _ h1 rfl, h2⟩, h.sub, h.nd⟩

theorem Rng.same_left (h : Rng b r es clock done W) (k : KeepsWalks W W') : W'.rangeLeft b r = W.rangeLeft b r := by
  obtain ⟨seen, h1, h2⟩ := h.it
  simp only [World.rangeLeft, h.map, h1, k.same b _ h.map rfl, k.same r _ h1 rfl]

theorem Rng.start {P : Program} {t k e : TypeId} (hb : W.heap[b]? = some (.map es clock)) (ht : P.underlying t = some (.map k e)) :
    ∃ W', (Instr.range t (.map (some b))).run P W = .ok (.pointer (some ⟨W.heap.size, 0, none⟩)) W' ∧ Rng b W.heap.size es clock [] W' ∧ W.grownBy W' none ∧ W'.heap.size = W.heap.size + 1 := by
  have hlt : b < W.heap.size := (Array.getElem?_eq_some_iff.1 hb).1
  refine ⟨_, run_range_map W t k e b es clock ht hb, ⟨((MapKept.heap_alloc W _).2 b hlt).trans hb, ⟨#[], (MapKept.heap_alloc W _).1, rfl⟩, by simp, by simp⟩, World.grownBy_alloc W _ none, by simp⟩

theorem Rng.next {P : Program} (h : Rng b r es clock done W) (st : Stamp es clock) (ty : TypeId) :
    (done.Perm es.toList ∧ (Instr.next (.pointer (some ⟨r, 0, none⟩)) false ty).run P W = .ok (.tuple #[.bool false]) W) ∨
    ∃ e W', e ∈ es.toList ∧ (Instr.next (.pointer (some ⟨r, 0, none⟩)) false ty).run P W = .ok (.tuple #[.bool true, e.key, e.val]) W' ∧ Rng b r es clock (done ++ [e]) W' ∧
      W'.rangeLeft b r < W.rangeLeft b r ∧ W.grownBy W' (some r) ∧ W'.heap.size = W.heap.size ∧ done.length < es.size := by
  obtain ⟨seen, hr, hs⟩ := h.it
  have hne : r ≠ b := by intro e; rw [e, h.map] at hr; cases hr
  have hseen : ∀ x : MapEntry, seen.contains x.born = true ↔ x.born ∈ done.map (·.born) := by
    intro x
    rw [Array.contains_iff_mem, ← Array.mem_toList_iff, hs]
  rcases run_next_at (P := P) W ty r b clock clock seen es clock hr h.map st.1 (Nat.le_refl _) with ⟨h0, hrun⟩ | ⟨e, he, w1, hal, hrun⟩
  · refine .inl ⟨?_, hrun⟩
    refine (List.perm_ext_iff_of_nodup (nodup_of_map h.nd) (nodup_of_map st.nodup)).2 fun x => ⟨h.sub x, fun hx => ?_⟩
    obtain ⟨y, hy, e⟩ := List.mem_map.1 ((hseen x).1 (all_seen es seen h0 x hx))
    rw [← born_inj st.nodup (h.sub y hy) hx e]; exact hy
  · obtain ⟨hem, hes⟩ := mem_left he
    have hr1 : w1.heap[r]? = some (.mapIter (some b) clock seen clock) := by rcases hal with rfl | rfl <;> exact hr
    have hb1 : w1.heap[b]? = some (.map es clock) := by rcases hal with rfl | rfl <;> exact h.map
    have hset := MapKept.heap_set (o' := .mapIter (some b) clock (seen.push e.born) clock) hr1
    have hb' : (setBlock w1 r (.mapIter (some b) clock (seen.push e.born) clock)).heap[b]? = some (.map es clock) := (hset.2 b (fun e1 => hne e1.symm)).trans hb1
    have hnot : e.born ∉ done.map (·.born) := fun hm => by
      have := (hseen e).2 hm; rw [hes] at this; cases this
    refine .inr ⟨e, _, hem, hrun, ⟨hb', ⟨_, hset.1, by simp [hs]⟩, ?_, ?_⟩, ?_, ?_, ?_, ?_⟩
    · intro x hx
      rcases List.mem_append.1 hx with hx | hx
      · exact h.sub x hx
      · simp at hx; subst hx; exact hem
    · rw [List.map_append, List.nodup_append]
      refine ⟨h.nd, by simp, fun a ha b hb => ?_⟩
      simp at hb; subst hb
      intro e1; subst e1; exact hnot ha
    · simp only [World.rangeLeft, hb', h.map, hr]
      have : (setBlock w1 r (.mapIter (some b) clock (seen.push e.born) clock)).heap[r]? = some (.mapIter (some b) clock (seen.push e.born) clock) := hset.1
      rw [this]
      exact left_shrinks es seen e he
    · rcases hal with rfl | rfl <;> exact ⟨rfl, rfl, rfl, by simp [setBlock], fun i _ hi => hset.2 i (fun e1 => hi (by rw [e1]))⟩
    · rcases hal with rfl | rfl <;> simp [setBlock]
    · have hsub := length_le_of_nodup (l := (done ++ [e]).map (·.born)) (m := es.toList.map (·.born)) (by
          rw [List.map_append, List.nodup_append]
          refine ⟨h.nd, by simp, fun a ha b hb => ?_⟩
          simp at hb; subst hb
          intro e1; subst e1; exact hnot ha) (by
        intro x hx
        obtain ⟨y, hy, rfl⟩ := List.mem_map.1 hx
        refine List.mem_map.2 ⟨y, ?_, rfl⟩
        rcases List.mem_append.1 hy with hy | hy
        · exact h.sub y hy
        · simp at hy; subst hy; exact hem)
      simp at hsub; omega

/-- The entry that has come last. -/
theorem Rng.entry {P : Program} {e : MapEntry} (h : Rng b r es clock (done ++ [e]) W) (st : Stamp es clock) :
    (Instr.entry (.pointer (some ⟨r, 0, none⟩))).run P W = .ok (.tuple #[e.key, e.val]) W := by
  obtain ⟨seen, h1, h2⟩ := h.it
  have hs : seen = (done.map (·.born)).toArray.push e.born := by
    apply Array.ext'
    rw [h2]; simp
  rw [hs] at h1
  exact run_entry_at W r b clock _ es clock e h1 h.map (h.sub e (by simp)) st.nodup
end

section
variable {F : Fence} {n : Nat} {P : Program} (w : World) {ops : Array Oper} {rest : List Oper} {o : Oper} {a : Act} {Q : Exit → Act → World → Prop}

/-- 'range m'. -/
theorem wpListIn_range_D (hg : o.guard = none) (m : Operand) (t : TypeId) (hop : o.op = Op.range t m) (k e : TypeId) (ht : P.underlying t = some (.map k e)) (b : Nat) (es : Array MapEntry) (clock : Nat)
    (hm : a.eval m = .map (some b)) (hb : w.heap[b]? = some (.map es clock))
    (hK : ∀ w', Rng b w.heap.size es clock [] w' → w.grownBy w' none → w'.heap.size = w.heap.size + 1 → wpListIn F n P ops Q rest (a.put o.dst (.pointer (some ⟨w.heap.size, 0, none⟩))) w') :
    wpListIn F n P ops Q (o :: rest) a w := by
  refine wpListIn_plain hg fun K' hK' => ?_
  obtain ⟨w', hrun, r1, r2, r3⟩ := Rng.start hb ht
  unfold Oper.wpIn
  refine ⟨?_, ?_⟩
  · simp [Oper.about, hop]
  · rw [Oper.semAt_plain F _ _ (by rw [hop]; intro c hc'; cases hc')]
    simp [execOp, hop, hm, hrun, Result.andThen]
    exact hK' _ _ (hK w' r1 r2 r3)

/-- The step. -/
theorem wpListIn_next_D (hg : o.guard = none) (it : Operand) (hop : o.op = Op.next it false) (b r : Nat) (es : Array MapEntry) (clock : Nat) (done : List MapEntry)
    (hit : a.eval it = .pointer (some ⟨r, 0, none⟩)) (h : Rng b r es clock done w) (st : Stamp es clock)
    (hDone : done.Perm es.toList → wpListIn F n P ops Q rest (a.put o.dst (.tuple #[.bool false])) w)
    (hMore : ∀ (e : MapEntry) (w' : World), e ∈ es.toList → Rng b r es clock (done ++ [e]) w' → w'.rangeLeft b r < w.rangeLeft b r → w.grownBy w' (some r) → w'.heap.size = w.heap.size → done.length < es.size →
      wpListIn F n P ops Q rest (a.put o.dst (.tuple #[.bool true, e.key, e.val])) w') :
    wpListIn F n P ops Q (o :: rest) a w := by
  refine wpListIn_plain hg fun K' hK' => ?_
  unfold Oper.wpIn
  refine ⟨by simp [Oper.about, hop], ?_⟩
  rw [Oper.semAt_plain F _ _ (by rw [hop]; intro c hc'; cases hc')]
  rcases h.next (P := P) st o.type with ⟨hp, hrun⟩ | ⟨e, w', he, hrun, hrg, hlt, hgr, hsz, hle⟩
  · simp [execOp, hop, hit, hrun, Result.andThen]
    exact hK' _ _ (hDone hp)
  · simp [execOp, hop, hit, hrun, Result.andThen]
    exact hK' _ _ (hMore e w' he hrg hlt hgr hsz hle)
end
end Go.D
