/-
  D's operations on memory are the model's: conversions of bytes, append, copy.
-/
import Derived.Test.YtfphfbfjmpbohaaGreatDN
namespace Go.D
variable [Lax]

theorem drew_same (w : World) : Same w w.drew := ⟨rfl, ⟨rfl, .inr (Nat.le_succ _)⟩, rfl, rfl⟩

omit [Lax] in
theorem bytesOf_ok {σ : Nat → Option SE} : ∀ {ds : List DV} {s : List UInt8} {vs : List Value}, bytesOf ds = some s → VRs σ ds vs → ∃ ns : List Int, vs = ns.map (Value.int .u8) ∧ s = ns.map fun n => UInt8.ofNat n.toNat
  | [], s, vs, h, hv => by
    simp [bytesOf] at h; simp [VRs] at hv; subst h; subst hv; exact ⟨[], rfl, rfl⟩
  | d :: ds, s, vs, h, hv => by
    cases d with
    | int k n =>
      cases k <;> simp only [bytesOf, reduceCtorEq, Option.map_eq_some_iff] at h
      obtain ⟨s', h1, rfl⟩ := h
      simp only [VRs, VR] at hv
      obtain ⟨x, xs, rfl, rfl, hxs⟩ := hv
      obtain ⟨ns, rfl, rfl⟩ := bytesOf_ok h1 hxs
      exact ⟨n :: ns, rfl, rfl⟩
    | _ => simp [bytesOf] at h

omit [Lax] in
theorem foldl_push : ∀ (ns : List Int) (r : ByteArray), (ns.foldl (fun r n => r.push (UInt8.ofNat n.toNat)) r).data.toList = r.data.toList ++ ns.map fun n => UInt8.ofNat n.toNat
  | [], r => by simp
  | n :: ns, r => by
    simp only [List.foldl_cons, List.map_cons]
    rw [foldl_push ns]
    simp [ByteArray.push]

omit [Lax] in
theorem VRs.ofBytes (σ : Nat → Option SE) (s : List UInt8) : VRs σ (ofBytes s) (s.map fun b => Value.int .u8 b.toNat) := by
  induction s with
  | nil => simp [Go.D.ofBytes, VRs]
  | cons b s ih => exact .cons (by simp [VR]) ih

section
variable {P : Program} {T : TT} (ok : TTok P T) {B : Bd} {S : Sg} {h : H} {w : World}
include ok

theorem conv_ok {src dst : TypeId} {x d : DV} {x' : Value} {h' : H} (s : Sim B S h w) (hF : h'.next ≤ B.f) (hc : convD T src dst x h = some (d, h')) (hx : VR S.m x x') :
    ∃ v w' S', (convert src dst x').run P w = .ok v w' ∧ VR S'.m d v ∧ Sim B S' h' w' ∧ Post S h w S' h' w' := by
  unfold convD at hc
  split at hc
  · rename_i u k k' n h1 h2
    injection hc with hc; injection hc with e1 e2; subst e1; subst e2
    simp only [VR] at hx; subst hx
    refine ⟨.int k (k.wrap n), w, S, ?_, by simp [VR], s, Post.refl _ _ _⟩
    simp [convert, run_underlying (und_ok ok h1), run_underlying (und_ok ok h2), Conv.intToInt]
  · rename_i u q h1 h2
    injection hc with hc; injection hc with e1 e2; subst e1; subst e2
    have hx' := hx
    simp only [VR] at hx; obtain ⟨p, rfl, _⟩ := hx
    refine ⟨.string p, w, S, ?_, hx', s, Post.refl _ _ _⟩
    simp [convert, run_underlying (und_ok ok h1), run_underlying (und_ok ok h2)]
  · rename_i e l c z h1 h2
    split at hc
    · rename_i he
      injection hc with hc; injection hc with e1 e2; subst e1; subst e2
      simp only [VR] at hx; obtain ⟨_, _, rfl⟩ := hx
      refine ⟨.string .empty, w, S, ?_, by simp only [VR]; exact ⟨_, rfl, rfl⟩, s, Post.refl _ _ _⟩
      simp [convert, run_underlying (und_ok ok h1), run_underlying (und_ok ok h2), run_underlying (und_ok ok he), Conv.bytesToString]
    · cases hc
  · rename_i e r n c z h1 h2
    split at hc
    · rename_i he
      split at hc
      · rename_i cs hcs
        simp only [Option.map_eq_some_iff] at hc
        obtain ⟨bs, hbs, hc⟩ := hc
        injection hc with e1 e2; subst e1; subst e2
        simp only [VR] at hx; obtain ⟨se, off', cap', hse, rfl, hl, hcc, ho, hroom⟩ := hx
        obtain ⟨vs, hn, hr, hcell⟩ := ldn_at (s.obj r.1) hse hcs
        obtain ⟨ns, rfl, rfl⟩ := bytesOf_ok hbs hr
        have hload : (loadCells ⟨se.k, se.o + off', none⟩ n).run P w = .ok (ns.map (Value.int .u8)).toArray w := by
          rw [← hn]
          refine run_loadCells_list w _ _ (fun j v hj => ?_)
          have : 0 < n := by rw [← hn]; exact Nat.lt_of_le_of_lt (Nat.zero_le _) (List.getElem?_eq_some_iff.1 hj).1
          rw [addr_add, ho (by omega)]
          exact hcell j v hj
        refine ⟨.string (ns.foldl (fun r n => r.push (UInt8.ofNat n.toNat)) ByteArray.empty), w, S, ?_, ?_, s, Post.refl _ _ _⟩
        · rw [run_convert_bytes_string w src dst e _ n cap' (und_ok ok h1) (und_ok ok he) (und_ok ok h2)]
          exact run_bytesToString w _ n cap' ns hload
        · simp only [VR]
          exact ⟨_, rfl, by rw [foldl_push]; rfl⟩
      · cases hc
    · cases hc
  · rename_i e' e r n c z h1 h2
    split at hc
    · rename_i he
      split at hc
      · rename_i hcond
        obtain ⟨hsd, hro, hcs⟩ := hcond
        injection hc with hc; injection hc with e1 e2; subst e1; subst e2
        have hx' := hx
        simp only [VR] at hx; obtain ⟨se, off', cap', hse, rfl, hl, hcc, ho, hroom⟩ := hx
        obtain ⟨cs, hcs⟩ := Option.isSome_iff_exists.1 hcs
        have hg := H.cells_some hcs
        obtain ⟨⟨c', t, lo, hi', q1, q2, q3, q4, q5⟩, hlive⟩ := s.obj r.1 se _ hse hg
        have hlt := s.wf.dom r.1 se hse
        let fr : Nat × Nat := if lo == hi' then (c'.size, c'.size + 1) else (min lo c'.size, max hi' (c'.size + 1))
        have hshape : w.shape? se.k = some (t, c'.size) := by unfold World.shape?; rw [q1]
        have hfz : (w.freeze ⟨se.k, c'.size, none⟩ 1).heap[se.k]? = some (.cells c' t fr) := by
          unfold World.freeze
          rw [if_neg (by decide)]
          simp [Array.getElem?_modify, q1, fr]
        have hoth : ∀ b, b ≠ se.k → (w.freeze ⟨se.k, c'.size, none⟩ 1).heap[b]? = w.heap[b]? := by
          intro b hb
          unfold World.freeze
          rw [if_neg (by decide)]
          simp [Array.getElem?_modify, Ne.symm hb]
        have hrun : (convert src dst (.slice (some ⟨se.k, se.o + off', none⟩) n cap')).run P w = .ok (.slice (some ⟨se.k, se.o + off', none⟩) n cap') (w.freeze ⟨se.k, c'.size, none⟩ 1) := by
          subst hsd
          have hee : e' = e := by
            rw [h1] at h2; injection h2 with h2; injection h2
          subst hee
          simp [convert, run_underlying (und_ok ok h1), run_underlying (und_ok ok he), markStringish, hshape]
        have key := s.put (w' := w.freeze ⟨se.k, c'.size, none⟩ 1) hse hro hg trivial (o' := .cells cs) (by unfold World.freeze; split <;> rfl) (by unfold World.freeze; split <;> exact ⟨rfl, .inr (Nat.le_refl _)⟩) (by unfold World.freeze; split <;> rfl)
          (by unfold World.freeze; split <;> simp) hoth ⟨c', t, fr.1, fr.2, hfz, q2, q3, q4, fun hb hne => ?_⟩
        · have hget : ∀ i, h.get i = (h.put r.1 (.cells cs)).get i := by
            intro i
            rw [H.get_put]
            split
            · rename_i hi; subst hi; exact hg
            · rfl
          exact ⟨_, _, S, hrun, hx', key.1.read hget rfl rfl, key.2.read hget rfl rfl⟩
        · have := q5 hb
          simp only [fr] at hne ⊢
          split
          · exact q2
          · rename_i hne'
            have : lo ≠ hi' := by simpa using hne'
            have := q5 hb this
            simp only [Nat.le_min]
            omega
      · cases hc
    · cases hc
  · rename_i q u e hne h1 h2
    split at hc
    · rename_i he hs
      split at hc
      · rename_i hlen
        injection hc with hc; injection hc with e1 e2; subst e1; subst e2
        simp only [VR] at hx; obtain ⟨p, rfl, rfl⟩ := hx
        have hps : p.data.toList.length = p.size := by rw [Array.length_toList]; rfl
        have hgc := grownCap_ge w p.size 0 e
        have hsrc : ∃ u', P.underlying src = some u' := ⟨_, und_ok ok h1⟩
        have hbr : (bytesRow p (grownCap w p.size 0 e)).size = grownCap w p.size 0 e := by
          simp only [bytesRow, Array.size_append, Array.size_map, Array.size_replicate]
          have : p.data.size = p.size := rfl
          omega
        have hrun : (convert src dst (.string p)).run P w = .ok (.slice (some ⟨w.heap.size, 0, none⟩) p.size (grownCap w p.size 0 e))
            (w.drew.alloc (.cells (bytesRow p (grownCap w p.size 0 e)) e ((bytesRow p (grownCap w p.size 0 e)).size, (bytesRow p (grownCap w p.size 0 e)).size + 1))) := by
          have h3 : (convert src dst (.string p)).run P w = (Conv.stringToBytes e p).run P w := by
            cases u <;> simp [convert, run_underlying (und_ok ok h1), run_underlying (und_ok ok h2), run_underlying (und_ok ok he)]
          rw [h3]
          have hsh : ∀ (C : Array Value), (w.drew.alloc (.cells C e)).shape? w.heap.size = some (e, C.size) := fun C => by
            have : (w.drew.alloc (.cells C e)).heap[w.heap.size]? = some (.cells C e) := by
              show (w.heap.push (.cells C e))[w.heap.size]? = _
              simp
            unfold World.shape?
            rw [this]
          have hfr : ∀ (C : Array Value) (n : Nat), (w.drew.alloc (.cells C e)).freeze ⟨w.heap.size, n, none⟩ 1 = w.drew.alloc (.cells C e (n, n + 1)) := fun C n => by
            have hm : ∀ (a : Array Obj) (x : Obj) (f : Obj → Obj), (a.push x).modify a.size f = a.push (f x) := by
              intro a x f
              apply Array.ext
              · simp
              · intro i h1 h2
                simp only [Array.getElem_modify, Array.getElem_push]
                by_cases h : a.size = i
                · subst h
                  simp
                · have hi : i < a.size := by simp at h1; omega
                  simp [h, hi]
            unfold World.freeze
            rw [if_neg (by decide)]
            show ({ w.drew.alloc (.cells C e) with heap := (w.heap.push (.cells C e)).modify w.heap.size _ } : World) = _
            rw [hm]
            rfl
          simp [Conv.stringToBytes, Question.forced, newRow, markStringish, hsh, grownCap, bytesRow]
          exact hfr _ _
        have key := row_ok s (show h.next < B.f from hF) (drew_same w) (w' := w.drew.alloc (.cells (bytesRow p (grownCap w p.size 0 e)) e ((bytesRow p (grownCap w p.size 0 e)).size, (bytesRow p (grownCap w p.size 0 e)).size + 1)))
          (ds := ofBytes p.data.toList) (c := bytesRow p (grownCap w p.size 0 e)) (t := e) (fr := ((bytesRow p (grownCap w p.size 0 e)).size, (bytesRow p (grownCap w p.size 0 e)).size + 1)) rfl rfl ⟨rfl, .inr (Nat.le_refl _)⟩ rfl
          (by rw [hbr]; simp [ofBytes]; exact hgc) (by
            have hv := VRs.ofBytes S.m p.data.toList
            have : (bytesRow p (grownCap w p.size 0 e)).toList.take (ofBytes p.data.toList).length = p.data.toList.map fun b => Value.int .u8 b.toNat := by
              simp only [bytesRow, Array.toList_append, Array.toList_map]
              exact List.take_left' (by simp [ofBytes])
            rw [this]; exact hv) (fun _ => Nat.le_refl _)
        refine ⟨_, _, _, hrun, ?_, key.1, key.2.1⟩
        simp only [VR]
        refine ⟨_, 0, grownCap w p.size 0 e, Sg.add_self _ _ _, by rw [hps], by omega, by simp, by simp, ?_⟩
        show 0 + grownCap w p.size 0 e * 1 ≤ (bytesRow p (grownCap w p.size 0 e)).size
        rw [hbr]; omega
      · cases hc
    · cases hc
  · cases hc

end
end Go.D
