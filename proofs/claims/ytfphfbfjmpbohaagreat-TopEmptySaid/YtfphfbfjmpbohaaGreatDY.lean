/-
  D's append, copy, len are the model's.
-/
import Derived.Test.YtfphfbfjmpbohaaGreatDX
namespace Go.D
variable [Lax]

section
variable {P : Program}

omit [Lax] in
theorem isSeq_cases {u : TypeDesc} (h : isSeq u = true) : (∃ q, u = .slice q) ∨ u = .string := by
  cases u <;> simp [isSeq] at h
  · exact .inr rfl
  · exact .inl ⟨_, rfl⟩

omit [Lax] in
/-- append: there is room. -/
theorem run_app_room {t xt ty e : TypeId} {u : TypeDesc} {i : TypeInfo} {w w2 : World} {base : Option Addr} {len cap n : Nat} {x : Value} {news : Array Value} (hT : P.underlying t = some (.slice e)) (hX : P.underlying xt = some u) (hq : isSeq u = true)
    (hi : P.info? e = some i) (hlen : (Builtin.lenOf x).run P w = .ok n w) (hfirst : (Builtin.firstCells i.size n x).run P w = .ok news w) (hroom : len + n ≤ cap)
    (hst : ∀ a, base = some a → (storeCells (a.add (len * i.size)) news.toList).run P w = .ok () w2) (hn : base = none → w2 = w) :
    (Builtin.append_ #[t, xt] ty #[.slice base len cap, x]).run P w = .ok (.slice base (len + n) cap) w2 := by
  rcases isSeq_cases hq with ⟨q, rfl⟩ | rfl
  all_goals
    cases base with
    | none => obtain rfl := hn rfl; simp [Builtin.append_, run_underlying hT, run_underlying hX, sizeOf, typeInfo, hi, hlen, hfirst, hroom]
    | some a => simp [Builtin.append_, run_underlying hT, run_underlying hX, sizeOf, typeInfo, hi, hlen, hfirst, hroom, hst a rfl]

omit [Lax] in
/-- append: there is none. -/
theorem run_app_grow {t xt ty e : TypeId} {u : TypeDesc} {i : TypeInfo} {z : Value} {w : World} {base : Option Addr} {len cap n : Nat} {x : Value} {olds news : Array Value} (hT : P.underlying t = some (.slice e)) (hX : P.underlying xt = some u) (hq : isSeq u = true)
    (hi : P.info? e = some i) (hz : i.zero = some z) (hlen : (Builtin.lenOf x).run P w = .ok n w) (hfirst : (Builtin.firstCells i.size n x).run P w.drew = .ok news w.drew)
    (hold : (Builtin.firstCells i.size len (.slice base len cap)).run P w.drew = .ok olds w.drew) (hg : cap < len + n) (h63 : ¬ (9223372036854775807 < ((len : Int) + (n : Int)))) (hfit : Builtin.nextslicecap (len + n) cap * i.bytes ≤ 281474976710656) :
    (Builtin.append_ #[t, xt] ty #[.slice base len cap, x]).run P w = .ok (.slice (some ⟨w.heap.size, 0, none⟩) (len + n) (grownCap w (len + n) cap e))
      (w.drew.alloc (.cells (olds ++ news ++ Builtin.zeroCells z.cells (grownCap w (len + n) cap e - (len + n))) e)) := by
  have hn' : ¬ (len + n ≤ cap) := by omega
  have h48 : ¬ (281474976710656 < Builtin.nextslicecap (len + n) cap * i.bytes) := by omega
  rcases isSeq_cases hq with ⟨q, rfl⟩ | rfl
  all_goals
    simp [Builtin.append_, run_underlying hT, run_underlying hX, sizeOf, typeInfo, zeroValue, hi, hz, hlen, hn', h63, h48, Question.forced, hfirst, hold, newRow, grownCap]

end

section
variable {P : Program} {T : TT} (ok : TTok P T) {B : Bd} {S : Sg} {h : H} {w : World}

omit [Lax] in
/-- What is appended or copied: its first m elements. -/
theorem src_ok {x : DV} {x' : Value} {n m sz : Nat} {new : List DV} (hat : ∀ i, ObjAt B S h w i) (hx : VR S.m x x') (hn : srcLen x = some n) (hm : m ≤ n) (h0 : 0 < m) (hc : srcCells h sz m x = some new) :
    (∀ w1, (Builtin.lenOf x').run P w1 = .ok n w1) ∧ ∃ news : List Value, VRs S.m new news ∧ ∀ w1 : World, w1.heap = w.heap → (Builtin.firstCells sz m x').run P w1 = .ok news.toArray w1 := by
  unfold srcLen at hn
  split at hn
  · rename_i base len cap z
    injection hn with hn; subst hn
    cases base with
    | none =>
      simp only [VR] at hx
      omega
    | some r =>
      simp only [VR] at hx
      obtain ⟨e, off', cap', he, rfl, hl, hcc, ho, hroom⟩ := hx
      simp only [srcCells] at hc
      obtain ⟨vs, hvn, hr, hcell⟩ := ldn_at (hat r.1) he hc
      refine ⟨fun w1 => by simp [Builtin.lenOf], vs, hr, fun w1 hw1 => ?_⟩
      refine run_firstCells_some w1 sz m _ _ _ vs hvn (fun j v hj => ?_)
      rw [addr_add, ho (by omega)]
      have := hcell j v hj
      simpa [World.cell?, hw1] using this
  · rename_i s
    injection hn with hn; subst hn
    have hx' := hx
    simp only [VR] at hx
    obtain ⟨p, rfl, rfl⟩ := hx
    have hps : p.data.toList.length = p.size := by rw [Array.length_toList]; rfl
    simp only [srcCells, Option.some.injEq] at hc
    subst hc
    refine ⟨fun w1 => by simp [Builtin.lenOf, hps], _, VRs.ofBytes S.m _, fun w1 _ => ?_⟩
    simp only [Builtin.firstCells, Sem.run_pure]
    congr 1
    apply Array.ext'
    simp only [Array.toList_map, ByteArray.data_extract, Array.toList_extract]
    simp [List.extract]
  · cases hn

omit [Lax] in
theorem src0_ok {x : DV} {x' : Value} {sz : Nat} (hx : VR S.m x x') (hn : srcLen x = some 0) :
    (∀ w1, (Builtin.lenOf x').run P w1 = .ok 0 w1) ∧ ∀ w1, (Builtin.firstCells sz 0 x').run P w1 = .ok #[] w1 := by
  unfold srcLen at hn
  split at hn
  · rename_i b l c q
    injection hn with hn; subst hn
    cases b with
    | none => simp only [VR] at hx; obtain ⟨_, _, rfl⟩ := hx; exact ⟨fun w1 => by simp [Builtin.lenOf], fun w1 => by simp [Builtin.firstCells]⟩
    | some r =>
      simp only [VR] at hx; obtain ⟨e, o, c', _, rfl, _⟩ := hx
      refine ⟨fun w1 => by simp [Builtin.lenOf], fun w1 => ?_⟩
      have := run_loadCells_list (P := P) w1 ⟨e.k, e.o + o, none⟩ [] (by simp)
      simpa [Builtin.firstCells] using this
  · rename_i q
    injection hn with hn
    simp only [VR] at hx; obtain ⟨p, rfl, rfl⟩ := hx
    have hps : p.data.toList.length = p.size := by rw [Array.length_toList]; rfl
    refine ⟨fun w1 => by simp [Builtin.lenOf, ← hps, hn], fun w1 => ?_⟩
    simp only [Builtin.firstCells, Sem.run_pure]
    congr 1
    apply Array.ext'
    simp only [Array.toList_map, ByteArray.data_extract, Array.toList_extract]
    simp [List.extract]
  · cases hn

include ok

theorem append_ok {t xt ty : TypeId} {s x d : DV} {s' x' : Value} {h' : H} (sim : Sim B S h w) (hF : h'.next ≤ B.f) (ha : appendD T t xt s x h = some (d, h')) (hs : VR S.m s s') (hx : VR S.m x x') :
    ∃ v w' S', (Builtin.append_ #[t, xt] ty #[s', x']).run P w = .ok v w' ∧ VR S'.m d v ∧ Sim B S' h' w' ∧ Post S h w S' h' w' ∧ (∀ l c z, s = .slice none l c z → Keep h w h' w') := by
  unfold appendD at ha
  split at ha
  · rename_i e u base len cap sz he hu
    have hT := telem_ok ok he
    have hX := und_ok ok hu
    split at ha
    · rename_i size bytes n z hsz hby hn hz
      obtain ⟨i, zv, hi, hzi, hzr, hzv⟩ := tzero_ok (σ := S.m) ok hz
      obtain ⟨i1, hi1, hsize⟩ := tsize_info ok hsz
      obtain ⟨i2, hi2, hbytes⟩ := tbytes_info ok hby
      rw [hi] at hi1 hi2
      injection hi1 with hi1; subst hi1
      injection hi2 with hi2; subst hi2
      split at ha
      · cases ha
      · rename_i hq
        have hq : isSeq u = true := by simpa using hq
        split at ha
        · -- nothing is appended
          rename_i h0
          injection ha with ha; injection ha with e1 e2; subst e1; subst e2; subst h0
          obtain ⟨hlen, hfirst⟩ := src0_ok (P := P) (sz := i.size) hx hn
          refine ⟨s', w, S, ?_, hs, sim, Post.refl _ _ _, fun _ _ _ _ => Keep.same (Same.refl w)⟩
          cases base with
          | none =>
            simp only [VR] at hs; obtain ⟨rfl, _, rfl⟩ := hs
            exact run_app_room hT hX hq hi (hlen w) (hfirst w) (Nat.le_refl _) (fun a e => by cases e) (fun _ => rfl)
          | some r =>
            simp only [VR] at hs; obtain ⟨e, o, c', _, rfl, hl, _⟩ := hs
            exact run_app_room hT hX hq hi (hlen w) (hfirst w) hl (fun a e => by simp [storeCells]) (fun _ => rfl)
        · rename_i h0
          split at ha
          · cases ha
          · rename_i hc
            simp only [Decidable.not_not] at hc
            obtain ⟨hlim1, hlim2, hzl⟩ := hc
            have hmost : most = 1099511627776 := by decide
            rw [hmost] at hlim1 hlim2
            have hzcs : zv.cells.size = size + 1 := by rw [hzv.cells_size]; exact hzl
            split at ha
            · cases ha
            · rename_i new hnew
              split at ha
              · cases ha
              · rename_i hflat
                simp only [not_or, Decidable.not_not, Bool.not_eq_false] at hflat
                obtain ⟨hflat', hnewl⟩ := hflat
                obtain ⟨hlen, news, hnr, hfirst⟩ := src_ok (P := P) sim.obj hx hn (Nat.le_refl _) (by omega) hnew
                rw [show size + 1 = i.size from hsize.symm] at hfirst
                have hnl := hnr.length
                have hneed : len + n ≤ 1099511627776 := by
                  have : (len + n) * 1 ≤ (len + n) * (size + 1) := Nat.mul_le_mul_left _ (by omega)
                  omega
                have h63 : ¬ (9223372036854775807 < ((len : Int) + (n : Int))) := by omega
                have hgc := fun c' => grownCap_ge w (len + n) c' e
                -- where there is no room
                have grow : ∀ (a : Option Addr) (c' : Nat) (olds : List Value), c' < len + n → (∀ w1 : World, w1.heap = w.heap → (Builtin.firstCells i.size len (.slice a len c')).run P w1 = .ok olds.toArray w1) →
                    (Builtin.append_ #[t, xt] ty #[.slice a len c', x']).run P w = .ok (.slice (some ⟨w.heap.size, 0, none⟩) (len + n) (grownCap w (len + n) c' e))
                      (w.drew.alloc (.cells (olds.toArray ++ news.toArray ++ Builtin.zeroCells zv.cells (grownCap w (len + n) c' e - (len + n))) e)) := by
                  intro a c' olds hg hold
                  exact run_app_grow hT hX hq hi hzi (hlen w) (hfirst w.drew rfl) (hold w.drew rfl) hg h63 (growslice_fits hg (by rw [hbytes]; show (len + n) * (bytes + 1) ≤ _; omega))
                have hnewsl : news.length = n * (size + 1) := by omega
                -- the new row
                have laid : ∀ (c' : Nat) (old : List DV) (olds : List Value), VRs S.m old olds → old.length = len * (size + 1) → ∀ (Sm : Nat → Option SE), True →
                    (olds.toArray ++ news.toArray ++ Builtin.zeroCells zv.cells (grownCap w (len + n) c' e - (len + n))).size = grownCap w (len + n) c' e * (size + 1) ∧
                    (olds.toArray ++ news.toArray ++ Builtin.zeroCells zv.cells (grownCap w (len + n) c' e - (len + n))).toList.take (old ++ new).length = olds ++ news := by
                  intro c' old olds hr hl _ _
                  have hol := hr.length
                  constructor
                  · simp only [Array.size_append, List.size_toArray, size_zeroCells, hzcs, hnewsl, ← hol, hl, ← Nat.add_mul]
                    congr 1
                    have := hgc c'
                    omega
                  · simp only [Array.toList_append]
                    exact List.take_left' (by simp; omega)
                split at ha
                · -- nil
                  split at ha
                  · rename_i hl0
                    subst hl0
                    injection ha with ha; injection ha with e1 e2; subst e1; subst e2
                    simp only [VR] at hs; obtain ⟨_, _, rfl⟩ := hs
                    have hr := grow none 0 [] (by omega) (fun w1 _ => by simp [Builtin.firstCells])
                    obtain ⟨hsz1, htk⟩ := laid 0 [] [] .nil (by simp) S.m trivial
                    have key := row_ok sim (show h.next < B.f from hF) (drew_same w) (w' := w.drew.alloc (.cells ((([] : List Value).toArray) ++ news.toArray ++ Builtin.zeroCells zv.cells (grownCap w (0 + n) 0 e - (0 + n))) e)) (ds := new)
                      (c := (([] : List Value).toArray) ++ news.toArray ++ Builtin.zeroCells zv.cells (grownCap w (0 + n) 0 e - (0 + n))) (t := e) (fr := (0, 0)) rfl rfl ⟨rfl, .inr (Nat.le_refl _)⟩ rfl (by simp; omega)
                      (by rw [List.nil_append] at htk; rw [htk]; exact hnr) (fun h2 => absurd rfl h2)
                    refine ⟨_, _, _, hr, ?_, key.1, key.2.1, fun _ _ _ _ => key.2.2⟩
                    simp only [VR]
                    refine ⟨_, 0, grownCap w (0 + n) 0 e, Sg.add_self _ _ _, by simp, by have := hgc 0; omega, by simp, by simp, ?_⟩
                    show 0 + _ * (size + 1) ≤ _
                    simp only []
                    rw [hsz1]; omega
                  · cases ha
                · rename_i r
                  simp only [VR] at hs; obtain ⟨se, off', cap', hse, rfl, hl, hcc, ho, hroom⟩ := hs
                  split at ha
                  · cases ha
                  · rename_i hszne
                    have hszeq : sz = size + 1 := by simpa using hszne
                    subst hszeq
                    -- the elder cells
                    have elder : ∀ {old : List DV}, h.ldn r (len * (size + 1)) = some old → ∃ olds : List Value, VRs S.m old olds ∧ old.length = len * (size + 1) ∧
                        (∀ w1 : World, w1.heap = w.heap → (Builtin.firstCells i.size len (.slice (some ⟨se.k, se.o + off', none⟩) len cap')).run P w1 = .ok olds.toArray w1) ∧
                        (0 < len → ∀ (j : Nat) (v : Value), olds[j]? = some v → w.cell? ⟨se.k, se.o + r.2 + j, none⟩ = some v) := by
                      intro old hold
                      obtain ⟨olds, hvn, hr, hcell⟩ := ldn_at (sim.obj r.1) hse hold
                      refine ⟨olds, hr, by rw [hr.length]; exact hvn, fun w1 hw1 => ?_, fun _ => hcell⟩
                      rw [hsize]
                      refine run_firstCells_some w1 (size + 1) len _ _ _ olds hvn (fun j v hj => ?_)
                      have hj' : j < len * (size + 1) := by rw [← hvn]; exact (List.getElem?_eq_some_iff.1 hj).1
                      have : 0 < len := by
                        cases len with
                        | zero => simp at hj'
                        | succ _ => omega
                      rw [addr_add, ho (by omega)]
                      have := hcell j v hj
                      simpa [World.cell?, hw1] using this
                    split at ha
                    · rename_i c
                      obtain rfl : c = cap' := hcc c rfl
                      split at ha
                      · -- in place
                        rename_i hfits
                        simp only [Option.map_eq_some_iff] at ha
                        obtain ⟨h2, hst, ha⟩ := ha
                        injection ha with e1 e2; subst e1; subst e2
                        have hoff : off' = r.2 := ho (by omega)
                        subst hoff
                        obtain ⟨k1, k2, k3, _⟩ := st_ok (P := P) (r := (r.1, r.2 + len * (size + 1))) sim hst hse hnr
                        refine ⟨.slice (some ⟨se.k, se.o + r.2, none⟩) (len + n) c, _, S, run_app_room hT hX hq hi (hlen w) (hfirst w rfl) hfits (fun a ea => ?_) (fun e => by cases e), ?_, k2, k3, fun _ _ _ e => by cases e⟩
                        · injection ea with ea; subst ea
                          rw [addr_add, hsize, Nat.add_assoc]
                          exact k1
                        · simp only [VR]
                          exact ⟨se, r.2, c, hse, rfl, hfits, by simp, fun _ => rfl, hroom⟩
                      · -- a new row; the elder one stays
                        rename_i hfits
                        split at ha
                        · rename_i old hold
                          injection ha with ha; injection ha with e1 e2; subst e1; subst e2
                          obtain ⟨olds, hor, hol, hofirst, _⟩ := elder hold
                          have hr := grow _ c olds (by omega) hofirst
                          obtain ⟨hsz1, htk⟩ := laid c old olds hor hol S.m trivial
                          have key := row_ok sim (show h.next < B.f from hF) (drew_same w) (w' := w.drew.alloc (.cells (olds.toArray ++ news.toArray ++ Builtin.zeroCells zv.cells (grownCap w (len + n) c e - (len + n))) e)) (ds := old ++ new)
                            (c := olds.toArray ++ news.toArray ++ Builtin.zeroCells zv.cells (grownCap w (len + n) c e - (len + n))) (t := e) (fr := (0, 0)) rfl rfl ⟨rfl, .inr (Nat.le_refl _)⟩ rfl (by have := hor.length; simp; omega)
                            (by rw [htk]; exact hor.append hnr) (fun h2 => absurd rfl h2)
                          refine ⟨_, _, _, hr, ?_, key.1, key.2.1, fun _ _ _ e => by cases e⟩
                          simp only [VR]
                          refine ⟨_, 0, grownCap w (len + n) c e, Sg.add_self _ _ _, by simp, hgc c, by simp, by simp, ?_⟩
                          show 0 + _ * (size + 1) ≤ _
                          simp only []
                          rw [hsz1]; omega
                        · cases ha
                    · -- the capacity is not known
                      split at ha
                      · rename_i hro
                        split at ha
                        · rename_i old hold
                          injection ha with ha; injection ha with e1 e2; subst e1; subst e2
                          obtain ⟨olds, hor, hol, hofirst, hocell⟩ := elder hold
                          have hcells := hold
                          simp only [H.ldn, Option.bind_eq_some_iff] at hcells
                          obtain ⟨cs, hcs, _⟩ := hcells
                          have hg := H.cells_some hcs
                          by_cases hfits : len + n ≤ cap'
                          · -- there was room
                            have hoff : off' = r.2 := ho (by omega)
                            subst hoff
                            obtain ⟨⟨c, tt, lo, hi', q1, q2, q3, q4, q5⟩, hlive⟩ := sim.obj r.1 se _ hse hg
                            have hbn : B.n ≤ r.1 := Nat.le_trans sim.lo hro
                            have hmul : (len + n) * (size + 1) ≤ cap' * (size + 1) := Nat.mul_le_mul_right _ hfits
                            have hadd : (len + n) * (size + 1) = len * (size + 1) + n * (size + 1) := Nat.add_mul _ _ _
                            obtain ⟨c', hc', hl'⟩ := setCells_block se.k news (se.o + r.2 + len * (size + 1)) w c tt (lo, hi') q1 (by omega)
                            have hcsz : c'.size = c.size := by
                              have := congrArg List.length hl'
                              simp at this
                              omega
                            have hrun := run_storeCells_cells (P := P) se.k (se.o + r.2 + len * (size + 1)) news 0 w (fun j hj => by simp [World.cell?, q1]; omega) (fun j hj => by
                                have := q5 hbn
                                simp only [World.frozen?, q1]
                                have hx : ¬ (lo ≤ se.o + r.2 + len * (size + 1) + 0 + j ∧ se.o + r.2 + len * (size + 1) + 0 + j < hi') := fun ⟨p, q⟩ => by
                                  have := this (by omega)
                                  omega
                                simpa using hx) (VRs.one_all hnr hflat')
                            rw [Nat.add_zero] at hrun
                            obtain ⟨o1, o2, o3⟩ := setCells_os se.k news (se.o + r.2 + len * (size + 1)) w
                            have hdom := sim.wf.dom r.1 se hse
                            have hxx : Ext S.m (S.move h.next ⟨se.k, se.o + r.2, se.r - r.2⟩ r.1).m := Sg.add_ext (S := S) (e := ⟨se.k, se.o + r.2, se.r - r.2⟩) (sim.wf.free _ (Nat.le_refl _) (show h.next < B.f from hF))
                            have key := sim.move (show h.next < B.f from hF) (w' := w.setCells se.k (se.o + r.2 + len * (size + 1)) news) hse hro hg trivial (.cells (old ++ new)) ⟨se.k, se.o + r.2, se.r - r.2⟩ o1 o2 o3 (by rw [setCells_size]; exact Nat.le_refl _)
                              (by rw [setCells_size]; exact hdom) (.inl ⟨rfl, fun b hb => setCells_other _ _ _ _ _ hb⟩) (by
                                refine ⟨c', tt, lo, hi', hc', by simp; omega, by simp; omega, ?_, fun _ h1 => by have := q5 hbn h1; simp; omega⟩
                                intro j d hd
                                obtain ⟨v, hv1, hv2⟩ := ((hor.append hnr).mono hxx).get hd
                                refine ⟨v, ?_, hv2⟩
                                have hoL := hor.length
                                have hjl : j < (len + n) * (size + 1) := by
                                  have := (List.getElem?_eq_some_iff.1 hv1).1
                                  simp at this
                                  omega
                                show c'[se.o + r.2 + j]? = some v
                                rw [← Array.getElem?_toList, hl']
                                by_cases q : j < len * (size + 1)
                                · rw [List.append_assoc, List.getElem?_append_left (by simp; omega)]
                                  rw [List.getElem?_append_left (by omega)] at hv1
                                  have hlen0 : 0 < len := by
                                    cases len with
                                    | zero => simp at q
                                    | succ _ => omega
                                  have := hocell hlen0 j v hv1
                                  simp only [World.cell?, q1] at this
                                  rw [List.getElem?_take, if_pos (by omega)]
                                  simpa using this
                                · rw [List.getElem?_append_right (by omega)] at hv1
                                  rw [List.getElem?_append_left (by simp; omega), List.getElem?_append_right (by simp; omega)]
                                  rw [← hv1]
                                  congr 1
                                  simp; omega)
                            refine ⟨.slice (some ⟨se.k, se.o + r.2, none⟩) (len + n) cap', _, _, run_app_room hT hX hq hi (hlen w) (hfirst w rfl) hfits (fun a ea => ?_) (fun e => by cases e), ?_, key.1, key.2, fun _ _ _ e => by cases e⟩
                            · injection ea with ea; subst ea
                              rw [addr_add, hsize]
                              exact hrun
                            · simp only [VR]
                              refine ⟨⟨se.k, se.o + r.2, se.r - r.2⟩, 0, cap', by simp [Sg.move], rfl, hfits, by simp, by simp, ?_⟩
                              show 0 + cap' * (size + 1) ≤ se.r - r.2
                              omega
                          · -- there was none
                            have hr := grow _ cap' olds (by omega) hofirst
                            obtain ⟨hsz1, htk⟩ := laid cap' old olds hor hol S.m trivial
                            have hxx : Ext S.m (S.move h.next ⟨w.heap.size, 0, grownCap w (len + n) cap' e * (size + 1)⟩ r.1).m := Sg.add_ext (S := S) (e := ⟨w.heap.size, 0, grownCap w (len + n) cap' e * (size + 1)⟩) (sim.wf.free _ (Nat.le_refl _) (show h.next < B.f from hF))
                            have hpush : (w.drew.alloc (.cells (olds.toArray ++ news.toArray ++ Builtin.zeroCells zv.cells (grownCap w (len + n) cap' e - (len + n))) e)).heap = w.heap.push (.cells (olds.toArray ++ news.toArray ++ Builtin.zeroCells zv.cells (grownCap w (len + n) cap' e - (len + n))) e) := rfl
                            have key := sim.move (show h.next < B.f from hF) (w' := w.drew.alloc (.cells (olds.toArray ++ news.toArray ++ Builtin.zeroCells zv.cells (grownCap w (len + n) cap' e - (len + n))) e)) hse hro hg trivial (.cells (old ++ new)) ⟨w.heap.size, 0, grownCap w (len + n) cap' e * (size + 1)⟩ rfl ⟨rfl, .inr (Nat.le_succ _)⟩ rfl
                              (by rw [hpush]; simp) (by rw [hpush]; simp) (.inr ⟨rfl, fun b hb => by rw [hpush, Array.getElem?_push, if_neg (by omega)]⟩) (by
                                refine ⟨olds.toArray ++ news.toArray ++ Builtin.zeroCells zv.cells (grownCap w (len + n) cap' e - (len + n)), e, 0, 0, by rw [hpush, Array.getElem?_push, if_pos rfl], by simp only []; rw [hsz1]; omega, ?_, ?_, fun _ h1 => absurd rfl h1⟩
                                · have h1 := hor.length
                                  have h2 : (len + n) * (size + 1) ≤ grownCap w (len + n) cap' e * (size + 1) := Nat.mul_le_mul_right _ (hgc cap')
                                  rw [Nat.add_mul] at h2
                                  simp; omega
                                · intro j d hd
                                  obtain ⟨v, hv1, hv2⟩ := ((hor.append hnr).mono hxx).get hd
                                  refine ⟨v, ?_, hv2⟩
                                  rw [← htk, List.getElem?_take] at hv1
                                  split at hv1
                                  · rw [Nat.zero_add, ← Array.getElem?_toList]; exact hv1
                                  · cases hv1)
                            refine ⟨_, _, _, hr, ?_, key.1, key.2, fun _ _ _ e => by cases e⟩
                            simp only [VR]
                            refine ⟨⟨w.heap.size, 0, grownCap w (len + n) cap' e * (size + 1)⟩, 0, grownCap w (len + n) cap' e, by simp [Sg.move], by simp, hgc cap', by simp, by simp, ?_⟩
                            show 0 + grownCap w (len + n) cap' e * (size + 1) ≤ grownCap w (len + n) cap' e * (size + 1)
                            omega
                        · cases ha
                      · cases ha
    · cases ha
  · cases ha

theorem copy_ok {t xt ty : TypeId} {s x d : DV} {s' x' : Value} {h' : H} (sim : Sim B S h w) (ha : copyD T t s x h = some (d, h')) (hs : VR S.m s s') (hx : VR S.m x x') :
    ∃ v w' S', (Builtin.copy_ #[t, xt] ty #[s', x']).run P w = .ok v w' ∧ VR S'.m d v ∧ Sim B S' h' w' ∧ Post S h w S' h' w' := by
  unfold copyD at ha
  split at ha
  · rename_i e base dl cap sz n he hn
    have hT := run_underlying (telem_ok ok he)
    split at ha
    · rename_i size hsz
      split at ha
      · rename_i h0
        injection ha with ha; injection ha with e1 e2; subst e1; subst e2
        refine ⟨.int .i64 0, w, S, ?_, by simp [VR], sim, Post.refl _ _ _⟩
        have hlen : ∀ w1, (Builtin.lenOf x').run P w1 = .ok n w1 := fun w1 => by
          unfold srcLen at hn
          split at hn
          · rename_i b l c q
            injection hn with hn; subst hn
            cases b with
            | none => simp only [VR] at hx; obtain ⟨rfl, _, rfl⟩ := hx; simp [Builtin.lenOf]
            | some r => simp only [VR] at hx; obtain ⟨e, o, c', _, rfl, _⟩ := hx; simp [Builtin.lenOf]
          · rename_i q
            injection hn with hn; subst hn
            simp only [VR] at hx; obtain ⟨p, rfl, rfl⟩ := hx
            have hps : p.data.toList.length = p.size := by rw [Array.length_toList]; rfl
            simp [Builtin.lenOf, hps]
          · cases hn
        have hfirst : ∀ w1, (Builtin.firstCells size 0 x').run P w1 = .ok #[] w1 := fun w1 => by
          unfold srcLen at hn
          split at hn
          · rename_i b l c q
            cases b with
            | none => simp only [VR] at hx; obtain ⟨_, _, rfl⟩ := hx; simp [Builtin.firstCells]
            | some r =>
              simp only [VR] at hx; obtain ⟨e, o, c', _, rfl, _⟩ := hx
              have := run_loadCells_list (P := P) w1 ⟨e.k, e.o + o, none⟩ [] (by simp)
              simpa [Builtin.firstCells] using this
          · simp only [VR] at hx; obtain ⟨p, rfl, rfl⟩ := hx
            simp only [Builtin.firstCells, Sem.run_pure]
            congr 1
            apply Array.ext'
            simp only [Array.toList_map, ByteArray.data_extract, Array.toList_extract]
            simp [List.extract]
          · cases hn
        have hmin : n.min dl = 0 := h0
        cases base with
        | none =>
          simp only [VR] at hs; obtain ⟨rfl, _, rfl⟩ := hs
          simp [Builtin.copy_, hT, tsize_ok ok hsz, hlen, hfirst, goInt]
        | some r =>
          simp only [VR] at hs; obtain ⟨e, o, c', _, rfl, hl, _⟩ := hs
          simp [Builtin.copy_, hT, tsize_ok ok hsz, hlen, hfirst, hmin, goInt, storeCells]
      · rename_i h0
        split at ha
        · rename_i cs r hcs
          simp only [Option.map_eq_some_iff] at ha
          obtain ⟨h2, hst, ha⟩ := ha
          injection ha with e1 e2; subst e1; subst e2
          have hmn : min n dl ≤ n := Nat.min_le_left _ _
          have hmd : min n dl ≤ dl := Nat.min_le_right _ _
          obtain ⟨hlen, news, hnr, hfirst⟩ := src_ok (P := P) sim.obj hx hn hmn (by omega) hcs
          simp only [VR] at hs; obtain ⟨se, off', cap', hse, rfl, hl, hcc, ho, hroom⟩ := hs
          have hoff : off' = r.2 := ho (by omega)
          subst hoff
          obtain ⟨k1, k2, k3, _⟩ := st_ok (P := P) sim hst hse hnr
          have hf := hfirst w rfl
          have hmin : n.min dl = min n dl := rfl
          refine ⟨.int .i64 (min n dl : Nat), _, S, ?_, by simp [VR], k2, k3⟩
          simp [Builtin.copy_, hT, tsize_ok ok hsz, hlen, hmin, hf, k1, goInt]
        · cases ha
    · cases ha
  · cases ha

omit [Lax] in
theorem len_ok {t ty : TypeId} {x d : DV} {x' : Value} (hat : ∀ i, ObjAt B S h w i) (hl : lenD T t x h = some d) (hx : VR S.m x x') :
    ∃ v, (Builtin.len_ #[t] ty #[x']).run P w = .ok v w ∧ VR S.m d v := by
  unfold lenD at hl
  split at hl
  · rename_i s hu
    injection hl with hl; subst hl
    simp only [VR] at hx; obtain ⟨p, rfl, rfl⟩ := hx
    have hps : p.data.toList.length = p.size := by rw [Array.length_toList]; rfl
    exact ⟨goInt p.size, by simp [Builtin.len_, run_underlying (und_ok ok hu)], by simp [VR, goInt, hps]⟩
  · rename_i n _ cs hu
    injection hl with hl; subst hl
    exact ⟨goInt n, by simp [Builtin.len_, run_underlying (und_ok ok hu)], by simp [VR, goInt]⟩
  · rename_i e a n c z hu
    injection hl with hl; subst hl
    cases a with
    | none =>
      simp only [VR] at hx; obtain ⟨rfl, _, rfl⟩ := hx
      exact ⟨goInt 0, by simp [Builtin.len_, run_underlying (und_ok ok hu)], by simp [VR, goInt]⟩
    | some r =>
      simp only [VR] at hx; obtain ⟨se, o, c', _, rfl, _⟩ := hx
      exact ⟨goInt n, by simp [Builtin.len_, run_underlying (und_ok ok hu)], by simp [VR, goInt]⟩
  · rename_i k e hu
    injection hl with hl; subst hl
    simp only [VR] at hx; subst hx
    exact ⟨goInt 0, by simp [Builtin.len_, run_underlying (und_ok ok hu)], by simp [VR, goInt]⟩
  · rename_i k e r hu
    simp only [Option.map_eq_some_iff] at hl
    obtain ⟨es, hes, rfl⟩ := hl
    simp only [VR] at hx; obtain ⟨se, hse, rfl⟩ := hx
    unfold mapOf at hes
    split at hes
    · rename_i es' hg
      injection hes with hes; subst hes
      obtain ⟨⟨h0, en, cl, h1, h2, _⟩, _⟩ := hat r se _ hse hg
      have hlen : es'.length = en.size := by
        have : ∀ (es : List (DV × DV)) (l : List MapEntry), MR S.m es l → es.length = l.length := by
          intro es
          induction es with
          | nil => intro l h; simp [MR] at h; subst h; rfl
          | cons x es ih => intro l h; simp only [MR] at h; obtain ⟨y, ys, rfl, _, _, h3⟩ := h; simp [ih _ h3]
        simpa using this _ _ h2
      refine ⟨goInt en.size, ?_, by simp [VR, goInt, hlen]⟩
      simp [Builtin.len_, run_underlying (und_ok ok hu), getObj, Sem.run, h1]
    · cases hes
  · cases hl

end
end Go.D
