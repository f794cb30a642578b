/-
  slices.SortedFunc(maps.Keys(m), row): the oracle is sound (Kw).
-/
import Derived.Test.YtfphfbfjmpbohaaGreatSAKw
import Derived.Test.YtfphfbfjmpbohaaGreatDVb
import Derived.Test.YtfphfbfjmpbohaaGreatDVc
import Derived.Test.YtfphfbfjmpbohaaGreatEB
import Derived.Test.YtfphfbfjmpbohaaGreatShelf
namespace Go.Proofs.YtfphfbfjmpbohaaGreat.Kw
open Go Go.D Go.RowKit Go.Sort Go.Shelf
set_option linter.unusedVariables false
set_option maxRecDepth 100000

def cD (x : K) : List DV := [.int .i64 x.1, .int .i64 x.2.1, .int .i64 x.2.2.1, .int .i64 x.2.2.2.1, .int .i64 x.2.2.2.2.1, .int .i64 x.2.2.2.2.2.1, .int .i64 x.2.2.2.2.2.2]
def cf (x y : K) : Int := rowK x y
abbrev lt : K → K → Bool := ltOf cf

theorem orI_lex : ∀ l m : List Int, l.length = m.length → decide (orI (List.zipWith cmpI l m) < 0) = lexI l m
  | [], [], _ => by simp [orI, lexI]
  | x :: l, y :: m, h => by
    have ih := orI_lex l m (by simpa using h)
    simp only [List.zipWith_cons_cons, orI, lexI, ← ih]
    unfold cmpI
    by_cases h1 : x < y
    · simp [h1]
    · by_cases h2 : x > y
      · have : x ≠ y := by omega
        simp [h1, h2, this]
      · have : x = y := by omega
        simp [this]

theorem lt_lex (x y : K) : lt x y = lexI ((cD x).map dint) ((cD y).map dint) := by
  unfold lt ltOf
  rw [← orI_lex _ _ (by simp [cD])]
  congr 2
  all_goals rfl

theorem len_dint (x y : K) : ((cD x).map dint).length = ((cD y).map dint).length := by simp [cD]

theorem swo : SWO lt where
  irrefl x := by rw [lt_lex]; exact lexI_irrefl _
  trans x y z h1 h2 := by rw [lt_lex] at *; exact lexI_trans _ _ _ (len_dint _ _) (len_dint _ _) h1 h2
  ntrans x y z h1 h2 := by rw [lt_lex] at *; exact lexI_ntrans _ _ _ (len_dint _ _) (len_dint _ _) h1 h2

theorem anti (x y : K) (h1 : lt x y = false) (h2 : lt y x = false) : x = y := by
  rw [lt_lex] at h1 h2
  have := lexI_antisymm _ _ (len_dint _ _) h1 h2
  obtain ⟨a, b, c, d, e, f, g⟩ := x
  obtain ⟨a', b', c', d', e', f', g'⟩ := y
  simpa [cD, dint] using this

theorem rowLe_lt (x y : K) : rowLe (cD x) (cD y) = !(lt y x) := by
  rw [lt_lex, rowLe_lex _ _ (by simp [cD]) (by simp [cD, likeC])]

theorem vr_enc (σ : Nat → Option SE) (x : K) : VRs σ (cD x) (enc x) := by
  unfold cD enc
  repeat' (first | exact VRs.nil | refine VRs.cons (by simp [VR]) ?_)
theorem vr_key (σ : Nat → Option SE) (x : K) : VR σ (.agg (cD x)) (.agg (enc x).toArray) := by
  simp only [VR]; exact ⟨_, rfl, vr_enc σ x⟩

/-- The row's calls, in whatever world. -/
theorem okT0 : @CfgOK strict Tryz.prog (cfgO fun _ => none) := @CfgOK.mk strict _ _ (@ttT_ok strict) mixedT fnT_ok (fun f g h => by cases h)

theorem cmpLays (blk off size : Nat) (w : World) : CmpLays Tryz.prog 94 #[] enc 7 cf blk off size w := by
  intro m os dk _ x y
  obtain ⟨n, v, h', hc, hv⟩ := wpCall_un (rowK_ok (ora := fun _ => none) rfl rfl rfl rfl x y h0 (Nat.le_refl 0) (fun v _ => v = .int .i64 (cf x y)) (fun _ => rfl))
  subst hv
  have he : Go.D.Enters Tryz.prog 94 := ⟨_, Tryz.func94, rfl, rfl⟩
  have hv : VRs S0.m [.agg (cD x), .agg (cD y)] (#[.agg (enc x).toArray, .agg (enc y).toArray] : Array Value).toList := .cons (vr_key _ x) (.one (vr_key _ y))
  have h1 := @lone_calls strict Tryz.prog (callD (cfgO fun _ => none) n) (@callsOK strict _ _ okT0 n) 94 he [.agg (cD x), .agg (cD y)] (.int .i64 (cf x y)) h' hc _ hv (sortWorldK enc 7 w blk off m dk os)
  show Calls Tryz.prog 94 #[.agg (enc x).toArray, .agg (enc y).toArray] _ _
  refine h1.mono ?_
  rintro e w' ⟨⟨v, σ, rfl, hvr⟩, h1, h2, h3, h4, h5⟩
  simp only [VR] at hvr
  subst hvr
  exact ⟨rfl, @grow_of strict _ _ (fun h => h) h1 h2 h3 h4 h5⟩

/-! slices.SortedFunc. -/

/-- What the row holds. -/
def Rows (w : World) (ts : List K) (v : Value) (w' : World) : Prop :=
  (v = .slice none 0 0 ∧ ts = []) ∨ ∃ g cap cur, v = .slice (some ⟨g, 0, none⟩) ts.length cap ∧ w.heap.size ≤ g ∧ w'.heap[g]? = some (.cells cur 128 (0, 0)) ∧ ts.length ≤ cap ∧ cur.size = cap * 7 ∧ cur.toList.take (ts.length * 7) = flat ts ∧ ts ≠ []

def eVd : Value → K
  | .agg ⟨[.int .i64 x0, .int .i64 x1, .int .i64 x2, .int .i64 x3, .int .i64 x4, .int .i64 x5, .int .i64 x6]⟩ => (x0, x1, x2, x3, x4, x5, x6)
  | _ => default
theorem eVd_eV (x : K) : eVd (eV x) = x := rfl

theorem enc_len (x : K) : (enc x).length = 7 := rfl
theorem enc_one (x : K) : ∀ v ∈ enc x, v.oneCell' = true := by
  intro v hv
  simp only [enc, List.mem_cons, List.not_mem_nil, or_false] at hv
  rcases hv with rfl | rfl | rfl | rfl | rfl | rfl | rfl <;> rfl

theorem sortF_run : (callD (cfgO fun _ => none) 20 143 [.slice none 0 (some 0) 0, .func 94 []] h0).map (·.1) = some (.tup []) := by kernel_rfl

theorem sortF_nil (w : World) : Calls Tryz.prog 143 #[.slice none 0 0, .func (.func 94) #[] #[]] w fun e w' => (∃ v σ, e = .returned v ∧ VR σ (.tup []) v) ∧ w'.os = w.os ∧ w'.tape = w.tape ∧ w'.output = w.output ∧ w.heap.size ≤ w'.heap.size ∧ ∀ b, b < w.heap.size → w'.heap[b]? = w.heap[b]? := by
  obtain ⟨⟨d, h'⟩, h1, h2⟩ := Option.map_eq_some_iff.1 sortF_run
  simp only at h2
  subst h2
  exact (@lone_calls strict Tryz.prog (callD (cfgO fun _ => none) 20) (@callsOK strict _ _ okT0 20) 143 ⟨_, Tryz.func143, rfl, rfl⟩ _ _ h' h1 _ (.cons (by simp [VR]) (.one (by simp [VR, VRs]))) w).mono fun e w' ⟨q1, q2, q3, q4⟩ => ⟨q1, q2, @Tp.eq strict _ _ q3, q4⟩

theorem sorted_calls (Bm oB b : Nat) (es : Array MapEntry) (clock : Nat) (st : Stamp es clock) (hk : ∀ e ∈ es.toList, ∃ x : K, e.key = eV x) (hN : es.size ≤ 1000000000) (w : World)
    (hm : w.cell? ⟨Bm, oB, none⟩ = some (.map (some b))) (hb : w.heap[b]? = some (.map es clock)) :
    Calls Tryz.prog 92 #[.func (.func 144) #[] #[.pointer (some ⟨Bm, oB, none⟩)], .func (.func 94) #[] #[]] w fun e w' => ∃ (v : Value) (ts : List K), e = .returned v ∧ (ts.map eV).Perm (es.toList.map (·.key)) ∧ ts.Pairwise (fun a b => lt b a = false) ∧
      Rows w ts v w' ∧ w'.os = w.os ∧ w'.tape = w.tape ∧ w'.output = w.output ∧ w.heap.size ≤ w'.heap.size ∧ ∀ b, b < w.heap.size → w'.heap[b]? = w.heap[b]? := by
  have hC := collect 10 Bm oB b es clock st hk (by unfold maxLen; omega) (by omega) w hm hb
  go_enter Tryz.func92, Tryz.ntmps92
  go_wp2_with (go_at_call 142; refine hC.mono ?_; rintro e w1 ⟨v, ss, rfl, hS, hrow, hnil, hbl⟩)
  have hlen : ss.length ≤ 1000000000 := by have := hS.length_eq; simp at this; omega
  rcases hrow.2 with ⟨rfl, hz⟩ | ⟨g, cap, cur, rfl, hbase, hgb, r1, r2, r3, r4⟩
  · obtain rfl : ss = [] := List.eq_nil_of_length_eq_zero hz
    have hnilc := sortF_nil w1
    go_wp2_with (go_at_call 143; refine hnilc.mono ?_; rintro e w2 ⟨⟨v, σ, rfl, hvr⟩, k1, k2, k3, k4, k5⟩)
    simp only [VR, VRs] at hvr
    obtain ⟨va, rfl, hva⟩ := hvr
    go_wp2
    go_ret
    exact ⟨_, [], rfl, hS, .nil, .inl ⟨rfl, rfl⟩, k1.trans hbl.os, k2.trans hbl.tape, k3.trans hbl.output, Nat.le_trans hbl.size k4, fun b hb => (k5 b (Nat.lt_of_lt_of_le hb hbl.size)).trans (hbl.block b hb)⟩
  · have hgl : g < w1.heap.size := (Array.getElem?_eq_some_iff.1 hgb).1
    have hfl : (flatK enc 7 ss.toArray).toList = flat ss := flatK_list enc 7 enc_len ss
    have hfs : (flatK enc 7 ss.toArray).size = ss.length * 7 := by simp
    have hH : HoldsK enc 7 w1 g 0 ss.toArray := by
      intro j hj
      have hj' : j < ss.length * 7 := by rw [← hfs]; exact hj
      refine ⟨?_, by simp [World.frozen?, hgb]⟩
      have h1 : (cur.toList.take (ss.length * 7))[j]? = ((flatK enc 7 ss.toArray).toList)[j]? := by rw [r4, hfl]
      rw [List.getElem?_take_of_lt hj'] at h1
      simp only [World.cell?, hgb, Nat.zero_add]
      simp only [Option.isSome_none, Bool.false_eq_true, if_false]
      rw [← Array.getElem?_toList, h1, Array.getElem?_toList, Array.getElem?_eq_getElem hj, getElem!_pos (flatK enc 7 ss.toArray) j hj]
      rfl
    have eg : ∀ args w, (callFunc 94 args).run Tryz.prog w = .ok (.enter 94 args) w := enters_of Tryz.func94 (by kernel_rfl) rfl
    have hcon := AnyQ.slices_SortFunc Tryz.sortKw 7 Tryz.isAgg128 Tryz.sizeOf128 enc enc_len enc_one cf swo 94 #[] g 0 cap ss.toArray w1 eg (cmpLays g 0 ss.toArray.size w1) hH hgl (by simp; omega)
    simp only [List.size_toArray] at hcon
    change Calls Tryz.prog 143 _ _ _ at hcon
    clear hH
    go_wp2_with (go_at_call 143; refine hcon.mono ?_; rintro e w2 ⟨rfl, d', n, os, hp, hs, rfl⟩)
    go_ret
    have hds : d'.size = ss.length := by have := hp.1; simpa using this
    have hdl : d'.toList.length = ss.length := by simpa using hds
    have hperm : d'.toList.Perm ss := by
      have := hp.2.2
      simp only [List.extract_toArray] at this
      rw [← hds, Array.extract_size] at this
      rw [hds] at this
      simpa using this
    have hpw : d'.toList.Pairwise (fun a b => lt b a = false) := by
      rw [List.pairwise_iff_getElem]
      intro i j hi hj hij
      have hi' : i < d'.size := by simpa using hi
      have hj' : j < d'.size := by simpa using hj
      have := hs i j (Nat.zero_le _) hij (by omega)
      rw [getElem!_pos d' i hi', getElem!_pos d' j hj'] at this
      simpa using this
    have hfd : (flatK enc 7 d').toList = flat d'.toList := by have := flatK_list enc 7 enc_len d'.toList; simpa [flat] using this
    have hfz : (flatK enc 7 d').size = ss.length * 7 := by simp [hds]
    refine ⟨_, d'.toList, rfl, (hperm.map eV).trans hS, hpw, .inr ⟨g, cap, _, by rw [hdl]; rfl, hbase, heap_putRow _ hgb, by omega, by simp [putCells, r3], ?_, ?_⟩, hbl.os, hbl.tape, hbl.output, ?_, ?_⟩
    · rw [hdl, ← hfz, take_put _ _ (by omega), hfd]
    · intro e
      have : ss = [] := List.eq_nil_of_length_eq_zero (by rw [← hdl, e]; rfl)
      have := hnil.2 this
      cases this
    · have := hbl.size
      simp [sortWorldK, putRowK, putRow, mapBlock, grow, Sort.ahead]; omega
    · intro b hb
      have := hbl.size
      exact (heap_putRow_other _ (by omega) (by omega)).trans (hbl.block b hb)

/-! The oracle. -/

theorem wf_key : ∀ {d : DV}, wfK d = true → ∃ x : K, d = .agg (cD x)
  | .agg [.int .i64 x0, .int .i64 x1, .int .i64 x2, .int .i64 x3, .int .i64 x4, .int .i64 x5, .int .i64 x6], _ => ⟨(x0, x1, x2, x3, x4, x5, x6), rfl⟩

theorem mr_keys {σ : Nat → Option SE} : ∀ {es : List (DV × DV)} {l : List MapEntry}, MR σ es l → es.all (fun e => wfK e.1) = true → ∃ xs : List K, es.map (·.1) = xs.map (fun x => .agg (cD x)) ∧ l.map (·.key) = xs.map eV
  | [], l, h, _ => by simp [MR] at h; subst h; exact ⟨[], rfl, rfl⟩
  | e :: es, l, h, hw => by
    simp only [MR] at h
    obtain ⟨y, ys, rfl, h1, _, h3⟩ := h
    simp only [List.all_cons, Bool.and_eq_true] at hw
    obtain ⟨x, hx⟩ := wf_key hw.1
    obtain ⟨xs, h4, h5⟩ := mr_keys h3 hw.2
    refine ⟨x :: xs, by simp [hx, h4], ?_⟩
    rw [hx] at h1
    have h6 := vr_key σ x
    have : y.key = eV x := by
      simp only [VR] at h1
      obtain ⟨a, ha, hs⟩ := h1
      rw [ha]
      unfold eV
      congr 1
      apply Array.ext'
      simpa [cD, VRs, VR] using hs
    simp [this, h5]

theorem vr_flat (σ : Nat → Option SE) : ∀ ts : List K, VRs σ (ts.map cD).flatten (flat ts)
  | [] => .nil
  | x :: ts => by
    simp only [flat, List.map_cons, List.flatten_cons]
    exact (vr_enc σ x).append (vr_flat σ ts)

theorem len_flat (ts : List K) : ((ts.map cD).flatten).length = ts.length * 7 := by
  have := (vr_flat (fun _ => none) ts).length
  rw [this]
  exact length_flat enc 7 enc_len ts

attribute [local instance] lax

theorem ora_ok (args : List DV) (h : H) (d : DV) (h' : H) (ho : sortedOra 144 94 7 wfK args h = some (d, h')) : @CallOK lax Tryz.prog 92 args h d h' := by
  unfold sortedOra at ho
  split at ho
  · rename_i k r c
    split at ho
    · rename_i hkc
      obtain ⟨rfl, rfl⟩ := hkc
      split at ho
      · rename_i m hld
        have key : ∀ es, mapOf h m = some es → es.all (fun e => wfK e.1) = true → es.length ≤ 1000000000 → ∀ (B : Bd) (S : Sg) (w : World) (args' : Array Value), Sim B S h w → VRs S.m [.func 144 [.ptr (some r)], .func 94 []] args'.toList →
            ∃ xs : List K, es.map (·.1) = xs.map (fun x => .agg (cD x)) ∧ Calls Tryz.prog 92 args' w fun e w' => ∃ (v : Value) (ts : List K), e = .returned v ∧ ts = isort lt xs ∧
              Rows w ts v w' ∧ w'.os = w.os ∧ w'.tape = w.tape ∧ w'.output = w.output ∧ w.heap.size ≤ w'.heap.size ∧ ∀ b, b < w.heap.size → w'.heap[b]? = w.heap[b]? := by
          intro es hes hwf hlen B S w args' s hv
          obtain ⟨v1, l1, ea, hv1, hv2⟩ := hv
          obtain ⟨v2, l2, eb, hv2, hv3⟩ := hv2
          subst eb
          simp only [VRs] at hv3
          subst hv3
          simp only [VR] at hv1 hv2
          obtain ⟨a1, rfl, hv1⟩ := hv1
          obtain ⟨a2, rfl, hv2⟩ := hv2
          obtain ⟨v3, l3, ec, hv3, hv4⟩ := hv1
          simp only [VRs] at hv4 hv2
          subst hv4
          simp only [VR] at hv3
          obtain ⟨se, hse, rfl⟩ := hv3
          obtain rfl : a1 = #[.pointer (some ⟨se.k, se.o + r.2, none⟩)] := Array.ext' ec
          obtain rfl : a2 = #[] := Array.ext' hv2
          obtain rfl : args' = #[.func (.func 144) #[] #[.pointer (some ⟨se.k, se.o + r.2, none⟩)], .func (.func 94) #[] #[]] := Array.ext' ea
          simp only [H.ld, Option.bind_eq_some_iff] at hld
          obtain ⟨cs, hcs, hcr⟩ := hld
          obtain ⟨⟨cc, ct, lo, hi, g1, g2, g3, g4, g5⟩, _⟩ := s.obj r.1 se _ hse (H.cells_some hcs)
          obtain ⟨u, hu, hur⟩ := g4 r.2 _ hcr
          simp only [VR] at hur
          obtain ⟨sm, hsm, rfl⟩ := hur
          unfold mapOf at hes
          split at hes
          · rename_i es' hgm
            injection hes with hes; subst hes
            obtain ⟨⟨h0, en, cl, h1, h2, hst⟩, _⟩ := s.obj m sm _ hsm hgm
            obtain ⟨xs, hx1, hx2⟩ := mr_keys h2 hwf
            refine ⟨xs, hx1, ?_⟩
            have hcell : w.cell? ⟨se.k, se.o + r.2, none⟩ = some (.map (some sm.k)) := by
              simp only [World.cell?, g1]
              simpa using hu
            have hkeys : ∀ e ∈ en.toList, ∃ x : K, e.key = eV x := by
              intro e he
              have : e.key ∈ xs.map eV := by rw [← hx2]; exact List.mem_map.2 ⟨e, he, rfl⟩
              obtain ⟨x, _, hx⟩ := List.mem_map.1 this
              exact ⟨x, hx.symm⟩
            have hsz : en.size ≤ 1000000000 := by
              have := congrArg List.length hx2
              have h3 := congrArg List.length hx1
              simp at this h3
              omega
            refine (sorted_calls se.k (se.o + r.2) sm.k en cl hst hkeys hsz w hcell h1).mono ?_
            rintro e w' ⟨v, ts, rfl, hp, hs, hr, k1, k2, k3, k4, k5⟩
            refine ⟨v, ts, rfl, ?_, hr, k1, k2, k3, k4, k5⟩
            have hp2 : ts.Perm xs := by
              have := (hx2 ▸ hp).map eVd
              simpa [Function.comp_def, eVd_eV] using this
            exact sorted_one anti (hp2.trans (isort_perm lt xs).symm) hs (isort_sorted swo xs)
          · cases hes
        have he : Go.D.Enters Tryz.prog 92 := ⟨_, Tryz.func92, rfl, rfl⟩
        split at ho
        · rename_i hes
          injection ho with ho; injection ho with e1 e2; subst e1; subst e2
          refine ⟨RoK.refl _, fun B S w args' s hF hv => .inl ⟨he, ?_⟩⟩
          obtain ⟨xs, hx, hc⟩ := key [] hes rfl (by simp) B S w args' s hv
          have : xs = [] := by cases xs with
            | nil => rfl
            | cons x xs => simp at hx
          subst this
          refine hc.mono ?_
          rintro e w' ⟨v, ts, rfl, hts, hr, k1, k2, k3, k4, k5⟩
          simp only [isort] at hts
          subst hts
          rcases hr with ⟨rfl, _⟩ | ⟨_, _, _, _, _, _, _, _, _, hne⟩
          · obtain ⟨q1, q2⟩ := @Sim.still lax B S h w w' s k1 (@Tp.mk lax _ _ k2 (.inl trivial)) k3 k4 k5
            exact ⟨_, rfl, S, by simp [VR], q1, q2⟩
          · exact absurd rfl hne
        · rename_i es hne hes
          split at ho
          · rename_i hw
            injection ho with ho; injection ho with e1 e2; subst e1; subst e2
            simp only [Bool.and_eq_true, Nat.ble_eq] at hw
            refine ⟨RoK.new _ _, fun B S w args' s hF hv => .inl ⟨he, ?_⟩⟩
            obtain ⟨xs, hx, hc⟩ := key es hes hw.1 hw.2 B S w args' s hv
            refine hc.mono ?_
            rintro e w' ⟨v, ts, rfl, hts, hr, k1, k2, k3, k4, k5⟩
            have hlen : es.length = ts.length := by
              have h3 := congrArg List.length hx
              have h4 := (isort_perm lt xs).length_eq
              rw [← hts] at h4
              simp at h3; omega
            have hcells : (sortD (es.map (·.1.cellsOf))).flatten = (ts.map cD).flatten := by
              have : es.map (·.1.cellsOf) = xs.map cD := by
                have := congrArg (List.map DV.cellsOf) hx
                simpa [Function.comp_def, DV.cellsOf] using this
              rw [this, sortD_eq rowLe_lt, ← hts]
            rw [hcells]
            rcases hr with ⟨_, h0⟩ | ⟨g, cap, cur, rfl, hbase, hgb, r1, r3, r4, _⟩
            · subst h0
              simp at hlen
              exact absurd hlen hne
            · have hg : g < w'.heap.size := (Array.getElem?_eq_some_iff.1 hgb).1
              obtain ⟨q1, q2⟩ := @Sim.adopt lax B S h w w' s hF (.cells (ts.map cD).flatten) ⟨g, 0, cap * 7⟩ k1 (@Tp.mk lax _ _ k2 (.inl trivial)) k3 k4 k5 hbase hg
                ⟨cur, 128, 0, 0, hgb, by simp; omega, by rw [len_flat]; simp only; omega, fun i d hi => by
                  obtain ⟨v, hv1, hv2⟩ := (vr_flat (S.add h.next ⟨g, 0, cap * 7⟩).m ts).get hi
                  refine ⟨v, ?_, hv2⟩
                  have hi' : i < ts.length * 7 := by rw [← len_flat]; exact (List.getElem?_eq_some_iff.1 hi).1
                  rw [← r4, List.getElem?_take_of_lt hi'] at hv1
                  simpa using hv1, fun _ h => absurd rfl h⟩
              refine ⟨_, rfl, _, ?_, q1, q2⟩
              simp only [VR]
              exact ⟨⟨g, 0, cap * 7⟩, 0, cap, Sg.add_self _ _ _, by rw [hlen], by omega, by simp, by simp, by simp⟩
          · cases ho
        · cases ho
      · cases ho
    · cases ho
  · cases ho

end Go.Proofs.YtfphfbfjmpbohaaGreat.Kw
