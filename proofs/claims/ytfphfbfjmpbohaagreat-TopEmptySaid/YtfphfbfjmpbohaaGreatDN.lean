/-
  D's operations on memory are the model's: what is made; conversions of bytes; append, copy.
-/
import Derived.Test.YtfphfbfjmpbohaaGreatDM
import Derived.Laws.BytesString
import Derived.Laws.IdiomStrings
namespace Go.D
variable [Lax]

omit [Lax] in
theorem telem_ok {P : Program} {T : TT} (ok : TTok P T) {t e : TypeId} (h : telem T t = some e) : P.underlying t = some (.slice e) := by
  unfold telem at h
  split at h
  · rename_i e' hu; injection h with h; subst h; exact und_ok ok hu
  · cases h

omit [Lax] in
theorem tsize_info {P : Program} {T : TT} (ok : TTok P T) {t : TypeId} {n : Nat} (h : tsize T t = some n) : ∃ i, P.info? t = some i ∧ i.size = n := by
  simp only [tsize, Option.map_eq_some_iff] at h
  obtain ⟨i, hi, rfl⟩ := h
  exact ⟨i, ok.info t i hi, rfl⟩
omit [Lax] in
theorem tbytes_info {P : Program} {T : TT} (ok : TTok P T) {t : TypeId} {n : Nat} (h : tbytes T t = some n) : ∃ i, P.info? t = some i ∧ i.bytes = n := by
  simp only [tbytes, Option.map_eq_some_iff] at h
  obtain ⟨i, hi, rfl⟩ := h
  exact ⟨i, ok.info t i hi, rfl⟩

omit [Lax] in
theorem fillD_length {place : Nat → Option (Nat × Nat)} : ∀ {ps : List (Nat × DV)} {cs out : List DV}, fillD place cs ps = some out → out.length = cs.length
  | [], cs, out, h => by simp [fillD] at h; rw [h]
  | (i, v) :: ps, cs, out, h => by
    unfold fillD at h
    split at h
    · cases h
    · split at h
      · rename_i hc
        rw [fillD_length h, length_splice hc.2]
      · cases h

omit [Lax] in
theorem repeatD_length (z : List DV) : ∀ n, (repeatD z n).length = n * z.length
  | 0 => by simp [repeatD]
  | n + 1 => by simp [repeatD, repeatD_length z n, Nat.add_mul]; omega

omit [Lax] in
theorem repeatD_get (z : List DV) (hz : 0 < z.length) : ∀ (n i : Nat), i < n * z.length → (repeatD z n)[i]? = z[i % z.length]?
  | 0, i, h => by omega
  | n + 1, i, h => by
    simp only [repeatD]
    by_cases hi : i < z.length
    · rw [List.getElem?_append_left hi, Nat.mod_eq_of_lt hi]
    · rw [List.getElem?_append_right (by omega), repeatD_get z hz n (i - z.length) (by rw [Nat.add_mul] at h; omega)]
      congr 1
      rw [Nat.mod_eq_sub_mod (by omega : i ≥ z.length)]

omit [Lax] in
theorem VRs.repeat {σ : Nat → Option SE} {z : List DV} {c : Array Value} (h : VRs σ z c.toList) (hz : 0 < z.length) (n m : Nat) (hm : m = n * z.length) :
    VRs σ (repeatD z n) ((Array.range m).map (c[· % c.size]!)).toList := by
  have hl := h.length
  simp at hl
  refine VRs.of_get (by simp [repeatD_length, hm]) ?_
  intro i d v hd hv
  have hi : i < n * z.length := by
    have := (List.getElem?_eq_some_iff.1 hd).1
    rwa [repeatD_length] at this
  rw [repeatD_get z hz n i hi] at hd
  obtain ⟨v', hv', hr⟩ := h.get hd
  have : v = v' := by
    simp only [Array.toList_map, Array.toList_range, List.getElem?_map, List.getElem?_range (show i < m by omega), Option.map_some, Option.some.injEq] at hv
    rw [← hv, ← hl]
    have hlt : i % z.length < c.size := by rw [← hl]; exact Nat.mod_lt _ hz
    simp only [Array.getElem?_toList] at hv'
    rw [getElem!_pos c _ hlt]
    rw [getElem?_pos c _ hlt] at hv'
    injection hv'
  subst this
  exact hr

section
variable {P : Program} {T : TT} (ok : TTok P T) {B : Bd} {S : Sg} {h : H} {w : World}

/-- A new variable. -/
theorem var_ok {ds : List DV} {v : Value} {t : TypeId} (s : Sim B S h w) (hF : h.next < B.f) (hv : VRs S.m ds v.cells.toList) :
    ∃ w', (newVar t v).run P w = .ok ⟨w.heap.size, 0, none⟩ w' ∧ Sim B (S.add h.next ⟨w.heap.size, 0, v.cells.size⟩) (h.new (.cells ds)) w' ∧
      Post S h w (S.add h.next ⟨w.heap.size, 0, v.cells.size⟩) (h.new (.cells ds)) w' ∧ Keep h w (h.new (.cells ds)) w' := by
  have hl := hv.length
  simp at hl
  have key := row_ok s hF (Same.refl w) (w' := w.alloc (.cells v.cells t)) (ds := ds) (c := v.cells) (t := t) (fr := (0, 0)) rfl rfl ⟨rfl, .inr (Nat.le_refl _)⟩ rfl (by omega) (by rw [List.take_of_length_le (by simp; omega)]; exact hv) (fun h2 => absurd rfl h2)
  exact ⟨_, by simp [newVar, newRow], key⟩

omit [Lax] in
theorem VR_new {S : Sg} {n : Nat} {e : SE} (he : e.o = 0) : VR (S.add n e).m (.ptr (some (n, 0))) (.pointer (some ⟨e.k, 0, none⟩)) := by
  simp only [VR]; exact ⟨e, Sg.add_self _ _ _, by rw [he]⟩

include ok

theorem alloc_ok {t : TypeId} {z : DV} (s : Sim B S h w) (hF : h.next < B.f) (hz : tzero T t = some z) :
    ∃ v w' S', (Instr.alloc t true (.tuple #[])).run P w = .ok v w' ∧ VR S'.m (.ptr (some (h.next, 0))) v ∧ Sim B S' (h.new (.cells z.cellsOf)) w' ∧ Post S h w S' (h.new (.cells z.cellsOf)) w' ∧ Keep h w (h.new (.cells z.cellsOf)) w' := by
  obtain ⟨i, zv, _, _, hzr, hzv⟩ := tzero_ok (σ := S.m) ok hz
  obtain ⟨w', h1, h2, h3⟩ := var_ok (P := P) (t := t) s hF hzv.cells
  refine ⟨_, w', _, ?_, VR_new rfl, h2, h3⟩
  simp only [Instr.alloc, Sem.run_bind, hzr, Result.andThen_ok, h1, Sem.run_pure]

omit ok in
theorem box_ok {t : TypeId} {d : DV} {v : Value} (s : Sim B S h w) (hF : h.next < B.f) (hv : VR S.m d v) :
    ∃ v' w' S', (Instr.box t v).run P w = .ok v' w' ∧ VR S'.m (.ptr (some (h.next, 0))) v' ∧ Sim B S' (h.new (.cells d.cellsOf)) w' ∧ Post S h w S' (h.new (.cells d.cellsOf)) w' ∧ Keep h w (h.new (.cells d.cellsOf)) w' := by
  obtain ⟨w', h1, h2, h3⟩ := var_ok (P := P) (t := t) s hF hv.cells
  refine ⟨_, w', _, ?_, VR_new rfl, h2, h3⟩
  simp only [Instr.box, Sem.run_bind, h1, Result.andThen_ok, Sem.run_pure]

theorem buildSlice_ok {t : TypeId} {len : Nat} {ps : List (Nat × DV)} {qs : Array (Nat × Value)} {d : DV} {h' : H} (s : Sim B S h w) (hF : h.next < B.f) (hb : buildSliceD T t len ps h = some (d, h')) (hp : PR S.m ps qs.toList) :
    ∃ v w' S', (Instr.buildSlice t len qs).run P w = .ok v w' ∧ VR S'.m d v ∧ Sim B S' h' w' ∧ Post S h w S' h' w' ∧ Keep h w h' w' := by
  unfold buildSliceD at hb
  split at hb
  · cases hb
  · rename_i e he
    split at hb
    · rename_i size z hs hz
      split at hb
      · rename_i hc
        obtain ⟨hzl, hpos, hlim⟩ := hc
        split at hb
        · rename_i cells hf
          injection hb with hb
          injection hb with h1 h2
          subst h1; subst h2
          obtain ⟨i, zv, hi, _, hzr, hzv⟩ := tzero_ok (σ := S.m) ok hz
          have hzc := hzv.cells
          have hzcl := hzc.length
          simp at hzcl
          obtain ⟨b, hbf, hbr⟩ := fill_ok hf hp (VRs.repeat hzc (by omega) len (len * size) (by rw [hzl]))
          have hbl := hbr.length
          simp at hbl
          have key := row_ok s hF (Same.refl w) (w' := w.alloc (.cells b e)) (ds := cells) (c := b) (t := e) (fr := (0, 0)) rfl rfl ⟨rfl, .inr (Nat.le_refl _)⟩ rfl (by omega) (by rw [List.take_of_length_le (by simp; omega)]; exact hbr) (fun h2 => absurd rfl h2)
          refine ⟨.slice (some ⟨w.heap.size, 0, none⟩) len len, _, _, ?_, ?_, key⟩
          · by_cases h0 : len * size = 0
            · have : (Array.range 0).map (fun x => zv.cells[x % zv.cells.size]!) = (Array.range 0).map (fun x => (#[] : Array Value)[x % (#[] : Array Value).size]!) := by
                apply Array.ext'
                simp only [Array.toList_map, Array.toList_range, List.range_zero, List.map_nil]
              rw [h0, this] at hbf
              simp only [Instr.buildSlice, Sem.run_bind, run_underlying (telem_ok ok he), Result.andThen_ok, tsize_ok ok hs, h0, Nat.not_lt_zero, gt_iff_lt, if_false, if_true, Sem.run_pure, hbf]
              simp [newRow]
            · simp only [Instr.buildSlice, Sem.run_bind, run_underlying (telem_ok ok he), Result.andThen_ok, tsize_ok ok hs, if_neg (show ¬ len * size > 2 ^ 24 by omega), h0, if_false, hzr, Sem.run_pure, hbf]
              simp [newRow]
          · simp only [VR]
            refine ⟨⟨w.heap.size, 0, b.size⟩, 0, len, Sg.add_self _ _ _, rfl, Nat.le_refl _, by simp, by simp, ?_⟩
            have hfl := fillD_length hf
            rw [repeatD_length, hzl] at hfl
            simp; omega
        · cases hb
      · cases hb
    · cases hb

theorem makeSlice_ok {t : TypeId} {l c d : DV} {l' c' : Value} {h' : H} (s : Sim B S h w) (hF : h.next < B.f) (hm : makeSliceD T t l c h = some (d, h')) (hl : VR S.m l l') (hc : VR S.m c c') :
    ∃ v w' S', (Instr.makeSlice t l' c').run P w = .ok v w' ∧ VR S'.m d v ∧ Sim B S' h' w' ∧ Post S h w S' h' w' ∧ Keep h w h' w' := by
  unfold makeSliceD at hm
  split at hm
  · rename_i e k1 l k2 c he
    simp only [VR] at hl hc
    subst hl; subst hc
    split at hm
    · rename_i size bytes z hs hby hz
      split at hm
      · rename_i hcond
        obtain ⟨h0, hlc, hb, hcm, hzl, hpos⟩ := hcond
        injection hm with hm
        injection hm with h1 h2
        subst h1; subst h2
        obtain ⟨i, zv, hi, hzi, hzr, hzv⟩ := tzero_ok (σ := S.m) ok hz
        obtain ⟨i1, hi1, rfl⟩ := tsize_info ok hs
        obtain ⟨i2, hi2, rfl⟩ := tbytes_info ok hby
        rw [hi] at hi1 hi2
        injection hi1 with hi1; subst hi1
        injection hi2 with hi2; subst hi2
        have hmost : most = 1099511627776 := by decide
        have hb' : c.toNat * i.bytes ≤ 1099511627776 := hmost ▸ hb
        have hcm' : c.toNat ≤ 1099511627776 := by have := hmost ▸ hcm; omega
        clear hb hcm
        have hcnn : 0 ≤ c := by omega
        have hbb : (i.bytes : Int) * c ≤ 281474976710656 := by
          have h1 : ((c.toNat * i.bytes : Nat) : Int) ≤ 1099511627776 := Int.ofNat_le.2 hb'
          rw [Int.natCast_mul, Int.toNat_of_nonneg hcnn, Int.mul_comm] at h1
          omega
        have hr := run_make (P := P) w t e i zv (telem_ok ok he) hi hzi k1 k2 l c h0 hlc hbb (by omega)
        have hzc := hzv.cells
        have hrep : VRs S.m (repeatD z.cellsOf c.toNat) (madeCells zv.cells (c.toNat * i.size)).toList := VRs.repeat hzc (by omega) _ _ (by rw [hzl])
        have hrl := hrep.length
        simp at hrl
        have key := row_ok s hF (Same.refl w) (w' := w.alloc (.cells (madeCells zv.cells (c.toNat * i.size)) e)) (ds := repeatD z.cellsOf c.toNat) (c := madeCells zv.cells (c.toNat * i.size)) (t := e) (fr := (0, 0)) rfl rfl ⟨rfl, .inr (Nat.le_refl _)⟩ rfl (by omega) (by rw [List.take_of_length_le (by simp; omega)]; exact hrep) (fun h2 => absurd rfl h2)
        refine ⟨_, _, _, hr, ?_, key⟩
        simp only [VR]
        refine ⟨⟨w.heap.size, 0, (madeCells zv.cells (c.toNat * i.size)).size⟩, 0, c.toNat, Sg.add_self _ _ _, rfl, by omega, by simp, by simp, ?_⟩
        simp [size_madeCells]
      · cases hm
    · cases hm
  · cases hm

omit ok in
theorem makeMap_ok (s : Sim B S h w) (hF : h.next < B.f) (t : TypeId) :
    ∃ v w' S', (Instr.makeMap t none).run P w = .ok v w' ∧ VR S'.m (.map (some h.next)) v ∧ Sim B S' (h.new (.map [])) w' ∧ Post S h w S' (h.new (.map [])) w' ∧ Keep h w (h.new (.map [])) w' := by
  have key := s.new hF (.map []) ⟨w.heap.size, 0, 0⟩ (.map #[] 0) (w' := w.alloc (.map #[] 0)) rfl ⟨rfl, .inr (Nat.le_refl _)⟩ rfl rfl rfl (by
    refine ⟨rfl, #[], 0, ?_, by simp [MR], by simp [Stamp]⟩
    show (w.heap.push _)[w.heap.size]? = _
    simp)
  refine ⟨.map (some w.heap.size), _, _, ?_, ?_, key.1, key.2, Keep.new rfl⟩
  · simp [Instr.makeMap, newObj]
    rfl
  · simp only [VR]; exact ⟨_, Sg.add_self _ _ _, rfl⟩

end
end Go.D
