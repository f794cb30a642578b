/-
  D's operations that touch no memory are the model's: places, parts, building, slices, assertions, lengths.
-/
import Derived.Test.YtfphfbfjmpbohaaGreatDQ
namespace Go.D
variable [Lax]

omit [Lax] in
theorem addr_add (k o n : Nat) : (⟨k, o, none⟩ : Addr).add n = ⟨k, o + n, none⟩ := by
  unfold Addr.add
  split
  · rename_i h; subst h; rfl
  · rfl

omit [Lax] in
theorem VRs.splice {σ : Nat → Option SE} {cs vs : List DV} {l ws : List Value} (h : VRs σ cs l) (k : VRs σ vs ws) (o : Nat) :
    VRs σ (splice cs o vs) (l.take o ++ ws ++ l.drop (o + ws.length)) := by
  unfold Go.D.splice
  rw [← k.length]
  exact ((h.take o).append k).append (h.drop _)

omit [Lax] in
theorem foldl_set : ∀ (vs : List Value) (off j : Nat) (cs : Array Value), off + j + vs.length ≤ cs.size →
    ((vs.zipIdx j).foldl (fun cs (x : Value × Nat) => cs.setIfInBounds (off + x.2) x.1) cs).toList = cs.toList.take (off + j) ++ vs ++ cs.toList.drop (off + j + vs.length)
  | [], off, j, cs, _ => by simp
  | v :: vs, off, j, cs, h => by
    simp only [List.zipIdx_cons, List.foldl_cons]
    simp only [List.length_cons] at h
    rw [foldl_set vs off (j + 1) _ (by simp; omega)]
    have e := list_seg_step cs.toList (off + j) v vs (by simp; omega)
    simp only [Array.toList_setIfInBounds, List.length_cons]
    rw [← e]
    simp only [Nat.add_assoc, Nat.add_comm 1 vs.length]

/-- Parts, numbered alike. -/
def PR (σ : Nat → Option SE) : List (Nat × DV) → List (Nat × Value) → Prop
  | [], l => l = []
  | p :: ps, l => ∃ x xs, l = (p.1, x) :: xs ∧ VR σ p.2 x ∧ PR σ ps xs

section
variable {P : Program} {T : TT} (ok : TTok P T) {σ : Nat → Option SE}

omit [Lax] in
theorem fill_ok {place : Nat → Option (Nat × Nat)} : ∀ {ps : List (Nat × DV)} {qs : List (Nat × Value)} {cs out : List DV} {a : Array Value},
    fillD place cs ps = some out → PR σ ps qs → VRs σ cs a.toList → ∃ b, Instr.fill place a qs = some b ∧ VRs σ out b.toList
  | [], qs, cs, out, a, h, hp, ha => by
    simp [PR] at hp; subst hp
    simp [fillD] at h; subst h
    exact ⟨a, by simp [Instr.fill], ha⟩
  | (i, d) :: ps, qs, cs, out, a, h, hp, ha => by
    simp only [PR] at hp
    obtain ⟨x, xs, rfl, hx, hxs⟩ := hp
    unfold fillD at h
    split at h
    · cases h
    · rename_i off size hpl
      split at h
      · rename_i hc
        obtain ⟨h1, h2⟩ := hc
        have hcs : x.cells.size = d.cellsOf.length := hx.cells_size
        have hal : cs.length = a.size := by simpa using ha.length
        have hs := (VRs.splice ha hx.cells off)
        have hf := foldl_set x.cells.toList off 0 a (by simp; omega)
        have : ∃ a' : Array Value, (x.cells.zipIdx.foldl (fun cs (c : Value × Nat) => cs.setIfInBounds (off + c.2) c.1) a) = a' ∧ VRs σ (splice cs off d.cellsOf) a'.toList := by
          refine ⟨_, rfl, ?_⟩
          rw [← Array.foldl_toList, Array.toList_zipIdx, hf]
          simpa using hs
        obtain ⟨a', e, hr⟩ := this
        obtain ⟨b, hb, hbr⟩ := fill_ok h hxs hr
        refine ⟨b, ?_, hbr⟩
        unfold Instr.fill
        rw [hpl]
        simp only
        rw [if_neg (by simp; omega), ← hb, ← e]
      · cases h

omit [Lax] in
theorem run_mapM_list {α β : Type} {g : α → Sem β} {f : α → β} {w : World} : ∀ (l : List α), (∀ x ∈ l, (g x).run P w = .ok (f x) w) → (l.mapM g).run P w = .ok (l.map f) w
  | [], _ => by simp [Sem.run_pure]
  | x :: l, h => by
    rw [List.mapM_cons]
    simp only [Sem.run_bind, h x (by simp), Result.andThen_ok, run_mapM_list l (fun y hy => h y (by simp [hy])), Sem.run_pure, List.map_cons]

omit [Lax] in
theorem run_mapM_array {α β : Type} {g : α → Sem β} {f : α → β} {w : World} (l : Array α) (h : ∀ x ∈ l, (g x).run P w = .ok (f x) w) : (l.mapM g).run P w = .ok (l.map f) w := by
  rw [Array.mapM_eq_mapM_toList]
  show Sem.run P (List.mapM g l.toList >>= fun x => pure x.toArray) w = _
  simp only [Sem.run_bind, run_mapM_list (P := P) (f := f) l.toList (fun x hx => h x (Array.mem_toList_iff.1 hx)), Result.andThen_ok, Sem.run_pure]
  congr 1
  apply Array.ext'
  simp

include ok

omit [Lax] in
theorem build_ok {t : TypeId} {ps : List (Nat × DV)} {qs : Array (Nat × Value)} {d : DV} (h : buildD T t ps = some d) (hp : PR σ ps qs.toList) :
    ∃ v, (∀ w, (Instr.build t qs).run P w = .ok v w) ∧ VR σ d v := by
  unfold buildD at h
  split at h
  · rename_i z fs hz hu
    obtain ⟨i, zv, _, _, hzr, hzv⟩ := tzero_ok (σ := σ) ok hz
    split at h
    · rename_i hall
      simp only [Option.map_eq_some_iff] at h
      obtain ⟨out, hf, rfl⟩ := h
      have hsz : ∀ f ∈ fs, ∃ n, tsize T f.type = some n := fun f hf => by
        have := List.all_eq_true.1 hall f (Array.mem_toList_iff.2 hf)
        exact Option.isSome_iff_exists.1 this
      have hm : ∀ w, (fs.mapM fun (f : Field) => do pure (f.offset, ← sizeOf f.type)).run P w = .ok (fs.map fun (f : Field) => (f.offset, (tsize T f.type).getD 0)) w := fun w =>
        run_mapM_array fs fun f hf => by
          obtain ⟨n, hn⟩ := hsz f hf
          simp [tsize_ok ok hn, hn]
      have hplace : structPlace T fs = fun i => (fs.map fun (f : Field) => (f.offset, (tsize T f.type).getD 0))[i]? := by
        funext i
        unfold structPlace
        rw [Array.getElem?_map]
        cases hfi : fs[i]? with
        | none => rfl
        | some f =>
          obtain ⟨n, hn⟩ := hsz f (Array.mem_of_getElem? hfi)
          simp [hn]
      rw [hplace] at hf
      obtain ⟨b, hb, hr⟩ := fill_ok hf hp hzv.cells
      refine ⟨.agg b, fun w => ?_, by simp only [VR]; exact ⟨b, rfl, hr⟩⟩
      simp only [Instr.build, Sem.run_bind, hzr, Result.andThen_ok, run_underlying (und_ok ok hu), hm, hb, Sem.run_pure]
    · cases h
  · rename_i z n e hz hu
    obtain ⟨i, zv, _, _, hzr, hzv⟩ := tzero_ok (σ := σ) ok hz
    split at h
    · rename_i size hs
      simp only [Option.map_eq_some_iff] at h
      obtain ⟨out, hf, rfl⟩ := h
      obtain ⟨b, hb, hr⟩ := fill_ok hf hp hzv.cells
      refine ⟨.agg b, fun w => ?_, by simp only [VR]; exact ⟨b, rfl, hr⟩⟩
      simp only [Instr.build, Sem.run_bind, hzr, Result.andThen_ok, run_underlying (und_ok ok hu), tsize_ok ok hs, hb, Sem.run_pure]
    · cases h
  · cases h

omit [Lax] in
theorem fieldAddr_ok {s : TypeId} {x d : DV} {f : Nat} {x' : Value} (h : fieldAddrD T s x f = some d) (hx : VR σ x x') : ∃ v, (∀ w, (Instr.fieldAt s x' f).run P w = .ok v w) ∧ VR σ d v := by
  unfold fieldAddrD at h
  split at h
  · rename_i fd r hf
    split at h
    · rename_i n hn
      injection h with h; subst h
      simp only [VR] at hx
      obtain ⟨e, he, rfl⟩ := hx
      unfold tfield at hf
      split at hf
      · rename_i fs hu
        refine ⟨.pointer (some ⟨e.k, e.o + r.2 + fd.offset, none⟩), fun w => ?_, by simp only [VR]; exact ⟨e, he, by rw [Nat.add_assoc]⟩⟩
        simp [Instr.fieldAt, run_underlying (und_ok ok hu), hf, Instr.sureAddr, fieldPlace, tsize_ok ok hn, addr_add]
      · cases hf
    · cases h
  · cases h

omit [Lax] in
theorem field_ok {s : TypeId} {x d : DV} {f : Nat} {x' : Value} (h : fieldD T s x f = some d) (hx : VR σ x x') : ∃ v, (∀ w, (Instr.field s x' f).run P w = .ok v w) ∧ VR σ d v := by
  unfold fieldD at h
  split at h
  · rename_i fd cs hf
    simp only [VR] at hx
    obtain ⟨a, rfl, ha⟩ := hx
    obtain ⟨v, hv, hr⟩ := part_ok ok h ha
    unfold tfield at hf
    split at hf
    · rename_i fs hu
      exact ⟨v, fun w => by simp [Instr.field, run_underlying (und_ok ok hu), hf, asAgg, hv], hr⟩
    · cases hf
  · cases h

omit [Lax] in
theorem indexAddr_ok {t : TypeId} {x i d : DV} {x' i' : Value} (h : indexAddrD T t x i = some d) (hx : VR σ x x') (hi : VR σ i i') : ∃ v, (∀ w, (Instr.indexAt t x' i').run P w = .ok v w) ∧ VR σ d v := by
  unfold indexAddrD at h
  split at h
  · rename_i e r len cap sz k i hu
    split at h
    · rename_i size hs
      split at h
      · rename_i hb
        injection h with h; subst h
        simp only [VR] at hx hi
        obtain ⟨se, off', cap', he, rfl, hl, hc, ho, hroom⟩ := hx
        subst hi
        have hoff : off' = r.2 := ho (by omega)
        subst hoff
        refine ⟨.pointer (some ⟨se.k, se.o + r.2 + i.toNat * size, none⟩), fun w => ?_, by simp only [VR]; exact ⟨se, he, by rw [Nat.add_assoc]⟩⟩
        simp [Instr.indexAt, asIntOf, run_underlying (und_ok ok hu), hb, tsize_ok ok hs, addr_add]
      · cases h
    · cases h
  · rename_i len e r k i hu
    split at h
    · rename_i size hs
      split at h
      · rename_i hb
        injection h with h; subst h
        simp only [VR] at hx hi
        obtain ⟨se, he, rfl⟩ := hx
        subst hi
        refine ⟨.pointer (some ⟨se.k, se.o + r.2 + i.toNat * size, none⟩), fun w => ?_, by simp only [VR]; exact ⟨se, he, by rw [Nat.add_assoc]⟩⟩
        simp [Instr.indexAt, asIntOf, run_underlying (und_ok ok hu), Instr.sureAddr, hb, tsize_ok ok hs, addr_add]
      · cases h
    · cases h
  · cases h

omit [Lax] in
theorem index_ok {t : TypeId} {x i d : DV} {x' i' : Value} (h : indexD T t x i = some d) (hx : VR σ x x') (hi : VR σ i i') : ∃ v, (∀ w, (Instr.index t x' i').run P w = .ok v w) ∧ VR σ d v := by
  unfold indexD at h
  split at h
  · rename_i len e cs k i hu
    split at h
    · rename_i size hs
      split at h
      · rename_i hb
        simp only [VR] at hx hi
        obtain ⟨a, rfl, ha⟩ := hx
        subst hi
        obtain ⟨v, hv, hr⟩ := part_ok ok h ha
        exact ⟨v, fun w => by simp [Instr.index, asIntOf, run_underlying (und_ok ok hu), hb, tsize_ok ok hs, hv], hr⟩
      · cases h
    · cases h
  · rename_i s k i hu
    split at h
    · rename_i hb
      simp only [Option.map_eq_some_iff] at h
      obtain ⟨b, hbi, rfl⟩ := h
      simp only [VR] at hx hi
      obtain ⟨p, rfl, rfl⟩ := hx
      subst hi
      refine ⟨.int .u8 b.toNat, fun w => ?_, by simp [VR]⟩
      have hlt : i.toNat < p.size := by
        have := (List.getElem?_eq_some_iff.1 hbi).1
        rw [Array.length_toList] at this
        exact this
      have hg : p[i.toNat]? = some b := by
        rw [getElem?_pos p i.toNat hlt]
        have h2 := (List.getElem?_eq_some_iff.1 hbi).2
        rw [← h2]
        rfl
      simp [Instr.index, asIntOf, run_underlying (und_ok ok hu), hb, hg]
    · cases h
  · cases h

end
end Go.D
