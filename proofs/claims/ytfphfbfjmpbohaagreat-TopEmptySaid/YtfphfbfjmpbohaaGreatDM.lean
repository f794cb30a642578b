/-
  D's operations on memory are the model's: loads, stores, new rows.
-/
import Derived.Test.YtfphfbfjmpbohaaGreatDU
import Derived.Laws.MakeOwn
namespace Go.D
variable [Lax]

/-! What the stores of several cells turn. -/

omit [Lax] in
theorem setCells_block (b : Nat) : ∀ (vs : List Value) (o : Nat) (w : World) (c : Array Value) (t : TypeId) (fr : Nat × Nat), w.heap[b]? = some (.cells c t fr) → o + vs.length ≤ c.size →
    ∃ c' : Array Value, (w.setCells b o vs).heap[b]? = some (.cells c' t fr) ∧ c'.toList = c.toList.take o ++ vs ++ c.toList.drop (o + vs.length)
  | [], o, w, c, t, fr, h, _ => ⟨c, h, by simp⟩
  | v :: vs, o, w, c, t, fr, h, hl => by
    simp only [List.length_cons] at hl
    have h1 : (w.setCell ⟨b, o, none⟩ v).heap[b]? = some (.cells (c.setIfInBounds o v) t fr) := by
      simp [World.setCell, Array.getElem?_modify, h]
    obtain ⟨c', h2, h3⟩ := setCells_block b vs (o + 1) _ _ t fr h1 (by simp; omega)
    refine ⟨c', h2, ?_⟩
    rw [h3]
    have e := list_seg_step c.toList o v vs (by simp; omega)
    simp only [Array.toList_setIfInBounds, List.length_cons]
    rw [← e]

omit [Lax] in
theorem setCells_other (b : Nat) : ∀ (vs : List Value) (o : Nat) (w : World) (k : Nat), k ≠ b → (w.setCells b o vs).heap[k]? = w.heap[k]?
  | [], _, _, _, _ => rfl
  | v :: vs, o, w, k, h => by
    rw [World.setCells, setCells_other b vs (o + 1) _ k h]
    simp [World.setCell, Array.getElem?_modify, Ne.symm h]

omit [Lax] in
theorem setCells_size (b : Nat) : ∀ (vs : List Value) (o : Nat) (w : World), (w.setCells b o vs).heap.size = w.heap.size
  | [], _, _ => rfl
  | v :: vs, o, w => by rw [World.setCells, setCells_size b vs (o + 1)]; simp [World.setCell]
theorem setCells_os (b : Nat) : ∀ (vs : List Value) (o : Nat) (w : World), (w.setCells b o vs).os = w.os ∧ Tp w (w.setCells b o vs) ∧ (w.setCells b o vs).output = w.output
  | [], _, w => ⟨rfl, Tp.refl w, rfl⟩
  | v :: vs, o, w => by
    rw [World.setCells]
    obtain ⟨h1, h2, h3⟩ := setCells_os b vs (o + 1) (w.setCell ⟨b, o, none⟩ v)
    exact ⟨h1, h2.trans ⟨rfl, .inr (Nat.le_refl _)⟩, h3⟩

omit [Lax] in
theorem getElem?_splice {cs vs : List DV} {o i : Nat} (h : o + vs.length ≤ cs.length) :
    (splice cs o vs)[i]? = if o ≤ i ∧ i < o + vs.length then vs[i - o]? else cs[i]? := by
  unfold splice
  by_cases h1 : i < o
  · rw [if_neg (by omega), List.append_assoc, List.getElem?_append_left (by simp; omega)]
    simp [h1]
  · by_cases h2 : i < o + vs.length
    · rw [if_pos (by omega), List.getElem?_append_left (by simp; omega), List.getElem?_append_right (by simp; omega)]
      simp; congr 1; omega
    · rw [if_neg (by omega), List.getElem?_append_right (by simp; omega)]
      simp; congr 1; omega
omit [Lax] in
theorem length_splice {cs vs : List DV} {o : Nat} (h : o + vs.length ≤ cs.length) : (splice cs o vs).length = cs.length := by
  unfold splice; simp; omega

section
variable {P : Program} {T : TT} (ok : TTok P T) {B : Bd} {S : Sg} {h : H} {w : World}

omit [Lax] in
theorem H.cells_some {b : Nat} {cs : List DV} (e : h.cells b = some cs) : h.get b = some (.cells cs) := by
  unfold H.cells at e
  split at e
  · rename_i hg; injection e with e; subst e; exact hg
  · cases e

omit [Lax] in
/-- A cell as it lies. -/
theorem ld_at {r : Ref} {d : DV} (hat : ObjAt B S h w r.1) {e : SE} (he : S.m r.1 = some e) (hl : h.ld r = some d) : ∃ v, w.cell? ⟨e.k, e.o + r.2, none⟩ = some v ∧ VR S.m d v := by
  simp only [H.ld, Option.bind_eq_some_iff] at hl
  obtain ⟨cs, hc, hi⟩ := hl
  obtain ⟨⟨c, t, lo, hi', h1, h2, h3, h4, h5⟩, _⟩ := hat e _ he (H.cells_some hc)
  obtain ⟨v, hv, hr⟩ := h4 _ _ hi
  exact ⟨v, by simp [World.cell?, h1, hv], hr⟩

omit [Lax] in
theorem ldn_at {r : Ref} {n : Nat} {ds : List DV} (hat : ObjAt B S h w r.1) {e : SE} (he : S.m r.1 = some e) (hl : h.ldn r n = some ds) :
    ∃ vs : List Value, vs.length = n ∧ VRs S.m ds vs ∧ ∀ (j : Nat) (v : Value), vs[j]? = some v → w.cell? ⟨e.k, e.o + r.2 + j, none⟩ = some v := by
  simp only [H.ldn, Option.bind_eq_some_iff] at hl
  obtain ⟨cs, hc, hi⟩ := hl
  split at hi
  · rename_i hle
    injection hi with hi; subst hi
    obtain ⟨⟨c, t, lo, hi', h1, h2, h3, h4, h5⟩, _⟩ := hat e _ he (H.cells_some hc)
    have hcs : e.o + r.2 + n ≤ c.size := by omega
    refine ⟨(c.toList.drop (e.o + r.2)).take n, by simp; omega, ?_, ?_⟩
    · refine VRs.of_get (by simp; omega) ?_
      intro i d v hd hv
      rw [List.getElem?_take] at hd hv
      split at hd
      · rename_i hin
        rw [if_pos hin] at hv
        rw [List.getElem?_drop] at hd hv
        obtain ⟨v', hv', hr⟩ := h4 _ _ hd
        rw [← Nat.add_assoc, ← Array.getElem?_toList, hv] at hv'
        injection hv' with hv'
        subst hv'
        exact hr
      · cases hd
    · intro j v hv
      rw [List.getElem?_take] at hv
      split at hv
      · rw [List.getElem?_drop] at hv
        simp only [World.cell?, h1]
        simpa using hv
      · cases hv
  · cases hi

include ok

omit [Lax] in
theorem load_ok {t : TypeId} {a d : DV} {a' : Value} (hl : loadD T t a h = some d) (ha : VR S.m a a') (hat : ∀ r, a = .ptr (some r) → ObjAt B S h w r.1) :
    ∃ v, (Instr.loadAt t a').run P w = .ok v w ∧ VR S.m d v := by
  unfold loadD at hl
  split at hl
  · rename_i r
    simp only [VR] at ha
    obtain ⟨e, he, rfl⟩ := ha
    have hat := hat r rfl
    split at hl
    · rename_i n h1 h2
      simp only [Option.map_eq_some_iff] at hl
      obtain ⟨ds, hds, rfl⟩ := hl
      obtain ⟨vs, hn, hr, hc⟩ := ldn_at hat he hds
      have := run_loadCells_list (P := P) w ⟨e.k, e.o + r.2, none⟩ vs (fun j v hj => by rw [addr_add]; exact hc j v hj)
      rw [hn] at this
      refine ⟨.agg vs.toArray, ?_, by simp only [VR]; exact ⟨_, rfl, hr⟩⟩
      simp only [Instr.loadAt, Instr.sureAddr, Sem.run_bind, Sem.run_pure, Result.andThen_ok, loadVar, tagg_ok ok h1, tsize_ok ok h2, if_true, this]
    · rename_i h1
      obtain ⟨v, hv, hr⟩ := ld_at hat he hl
      refine ⟨v, ?_, hr⟩
      simp only [Instr.loadAt, Instr.sureAddr, Sem.run_bind, Sem.run_pure, Result.andThen_ok, loadVar, tagg_ok ok h1, Bool.false_eq_true, if_false]
      simp [hv]
    · cases hl
  · cases hl

omit ok in
/-- Stores of several cells. -/
theorem st_ok {r : Ref} {ds : List DV} {vs : List Value} {h' : H} (s : Sim B S h w) (hst : h.st r ds = some h') {e : SE} (he : S.m r.1 = some e) (hv : VRs S.m ds vs) :
    (storeCells ⟨e.k, e.o + r.2, none⟩ vs).run P w = .ok () (w.setCells e.k (e.o + r.2) vs) ∧ Sim B S h' (w.setCells e.k (e.o + r.2) vs) ∧ Post S h w S h' (w.setCells e.k (e.o + r.2) vs) ∧ h.ro ≤ r.1 := by
  simp only [H.st, Option.bind_eq_some_iff] at hst
  obtain ⟨cs, hc, hi⟩ := hst
  split at hi
  · rename_i hcond
    obtain ⟨hro, hlen, hflat⟩ := hcond
    injection hi with hi; subst hi
    have hg := H.cells_some hc
    obtain ⟨⟨c, t, lo, hi', h1, h2, h3, h4, h5⟩, hlive⟩ := s.obj r.1 e _ he hg
    have hvl := hv.length
    have hbn : B.n ≤ r.1 := Nat.le_trans s.lo hro
    obtain ⟨c', hc', hl'⟩ := setCells_block e.k vs (e.o + r.2) w c t (lo, hi') h1 (by omega)
    have hsz : c'.size = c.size := by
      have := congrArg List.length hl'
      simp at this
      omega
    have hrun := run_storeCells_cells (P := P) e.k (e.o + r.2) vs 0 w (fun j hj => by simp [World.cell?, h1]; omega) (fun j hj => by
        have := h5 hbn
        simp only [World.frozen?, h1]
        have hx : ¬ (lo ≤ e.o + r.2 + 0 + j ∧ e.o + r.2 + 0 + j < hi') := fun ⟨p, q⟩ => by
          have := this (by omega)
          omega
        simpa using hx) (VRs.one_all hv hflat)
    rw [Nat.add_zero] at hrun
    obtain ⟨o1, o2, o3⟩ := setCells_os e.k vs (e.o + r.2) w
    have key := s.put (w' := w.setCells e.k (e.o + r.2) vs) he hro hg trivial (o' := .cells (splice cs r.2 ds)) o1 o2 o3 (setCells_size _ _ _ _) (fun b hb => setCells_other _ _ _ _ _ hb) ?_
    · exact ⟨hrun, key.1, key.2, hro⟩
    · refine ⟨c', t, lo, hi', hc', by omega, by rw [length_splice hlen]; exact h3, ?_, h5⟩
      intro i d hid
      rw [getElem?_splice hlen] at hid
      have hget : ∀ i, c'[i]? = if i < e.o + r.2 then c[i]? else if i < e.o + r.2 + vs.length then vs[i - (e.o + r.2)]? else c[i]? := by
        intro i
        rw [← Array.getElem?_toList, hl']
        by_cases q1 : i < e.o + r.2
        · rw [if_pos q1, List.append_assoc, List.getElem?_append_left (by simp; omega)]
          simp [q1]
        · rw [if_neg q1]
          by_cases q2 : i < e.o + r.2 + vs.length
          · rw [if_pos q2, List.getElem?_append_left (by simp; omega), List.getElem?_append_right (by simp; omega)]
            congr 1
            simp; omega
          · rw [if_neg q2, List.getElem?_append_right (by simp; omega)]
            simp
            congr 1
            omega
      split at hid
      · rename_i hin
        obtain ⟨v, hv1, hv2⟩ := hv.get hid
        refine ⟨v, ?_, hv2⟩
        rw [hget, if_neg (by omega), if_pos (by omega)]
        rw [show e.o + i - (e.o + r.2) = i - r.2 by omega]
        exact hv1
      · rename_i hin
        obtain ⟨v, hv1, hv2⟩ := h4 _ _ hid
        refine ⟨v, ?_, hv2⟩
        rw [hget]
        split
        · exact hv1
        · rw [if_neg (by omega)]; exact hv1
  · cases hi

theorem store_ok {t : TypeId} {a d : DV} {a' v' : Value} {h' : H} (s : Sim B S h w) (hs : storeD T t a d h = some h') (ha : VR S.m a a') (hv : VR S.m d v') :
    ∃ w', (Instr.storeAt t a' v').run P w = .ok () w' ∧ Sim B S h' w' ∧ Post S h w S h' w' := by
  unfold storeD at hs
  split at hs
  · rename_i r
    simp only [VR] at ha
    obtain ⟨e, he, rfl⟩ := ha
    split at hs
    · rename_i n hn
      split at hs
      · rename_i hlen
        obtain ⟨h1, h2, h3, _⟩ := st_ok (P := P) s hs he hv.cells
        refine ⟨_, ?_, h2, h3⟩
        have hcs : v'.cells.size = n := by rw [hv.cells_size]; exact hlen
        simp only [Instr.storeAt, Instr.sureAddr, Sem.run_bind, Sem.run_pure, Result.andThen_ok, storeVar, tsize_ok ok hn, hcs, ne_eq, not_true_eq_false, if_false]
        exact h1
      · cases hs
    · cases hs
  · cases hs

omit ok in
/-- What was there stays. -/
def Keep (h : H) (w : World) (h' : H) (w' : World) : Prop := (∀ i, i < h.next → h'.get i = h.get i) ∧ ∀ b, b < w.heap.size → w'.heap[b]? = w.heap[b]?

omit ok in
omit [Lax] in
theorem Keep.new {h : H} {w w' : World} {o : DObj} {x : Obj} (e : w'.heap = w.heap.push x) : Keep h w (h.new o) w' :=
  ⟨fun i hi => by rw [H.get_new, if_neg (by omega)], fun b hb => by rw [e, Array.getElem?_push, if_neg (by omega)]⟩

omit ok in
theorem Keep.same {h : H} {w w' : World} (s : Same w w') : Keep h w h w' := ⟨fun _ _ => rfl, fun b _ => by rw [s.heap]⟩

omit ok in
/-- A new row of cells, in a world that has drawn or not. -/
theorem row_ok {w1 w' : World} (s : Sim B S h w) (hF : h.next < B.f) (sm : Same w w1) {ds : List DV} {c : Array Value} {t : TypeId} {fr : Nat × Nat} (hheap : w'.heap = w1.heap.push (.cells c t fr)) (hos : w'.os = w1.os) (htape : Tp w1 w') (hout : w'.output = w1.output)
    (hl : ds.length ≤ c.size) (hv : VRs S.m ds (c.toList.take ds.length)) (hfr : fr.1 ≠ fr.2 → c.size ≤ fr.1) :
    Sim B (S.add h.next ⟨w.heap.size, 0, c.size⟩) (h.new (.cells ds)) w' ∧ Post S h w (S.add h.next ⟨w.heap.size, 0, c.size⟩) (h.new (.cells ds)) w' ∧ Keep h w (h.new (.cells ds)) w' := by
  have hn : S.m h.next = none := s.wf.free _ (Nat.le_refl _) hF
  have hp : w'.heap = w.heap.push (.cells c t fr) := by rw [hheap, sm.heap]
  suffices key : _ ∧ _ from ⟨key.1, key.2, Keep.new hp⟩
  refine s.new hF (.cells ds) ⟨w.heap.size, 0, c.size⟩ (.cells c t fr) (hos.trans sm.os) (htape.trans sm.tape) (hout.trans sm.output) hp rfl ?_
  refine ⟨c, t, fr.1, fr.2, by rw [hheap, sm.heap]; simp, by simp, by simpa using hl, ?_, fun _ h1 => by simpa using hfr h1⟩
  intro i d hd
  obtain ⟨v, hv1, hv2⟩ := (hv.mono (Sg.add_ext (e := ⟨w.heap.size, 0, c.size⟩) hn)).get hd
  refine ⟨v, ?_, hv2⟩
  have hi : i < ds.length := (List.getElem?_eq_some_iff.1 hd).1
  rw [List.getElem?_take, if_pos hi] at hv1
  simpa using hv1

end
end Go.D
