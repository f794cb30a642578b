/-
  D's operations that touch no memory are the model's: slices, assertions, lengths, keys of maps.
-/
import Derived.Test.YtfphfbfjmpbohaaGreatDT
import Derived.Lib.ConvBytes
namespace Go.D
variable [Lax]

def OR (σ : Nat → Option SE) : Option DV → Option Value → Prop
  | none, v => v = none
  | some d, v => ∃ x, v = some x ∧ VR σ d x

omit [Lax] in
theorem extract_list (s : ByteArray) (l h : Nat) : (s.extract l h).data.toList = (s.data.toList.drop l).take (h - l) := by
  rw [ByteArray.data_extract, Array.toList_extract]

section
variable {P : Program} {T : TT} (ok : TTok P T) {σ : Nat → Option SE}

omit [Lax] in
theorem bound_ok {d y r : Nat} {x : Option DV} {x' : Option Value} (h : boundD d x y = some r) (hx : OR σ x x') :
    (x' = none ∧ r = d) ∨ ∃ k i, x' = some (.int k i) ∧ 0 ≤ i ∧ i ≤ (y : Int) ∧ r = i.toNat := by
  unfold boundD at h
  split at h
  · simp [OR] at hx; simp at h; exact .inl ⟨hx, h.symm⟩
  · rename_i k i
    simp only [OR, VR] at hx
    obtain ⟨v, hv, hv'⟩ := hx
    subst hv'
    split at h
    · rename_i hb; simp at h; exact .inr ⟨k, i, hv, hb.1, hb.2, h.symm⟩
    · cases h
  · cases h

omit [Lax] in
theorem run_sliceBound {k : IntKind} {i : Int} {y : Nat} {c : BoundsCode} {w : World} (h0 : 0 ≤ i) (h1 : i ≤ (y : Int)) : (Instr.sliceBound (.int k i) y c).run P w = .ok i.toNat w := by
  simp [Instr.sliceBound, asIntOf, h0, h1]

omit [Lax] in
theorem bounds_ok {b : Bool} {len cap m h l y1 y2 : Nat} {lo hi mx : Option DV} {lo' hi' mx' : Option Value} (hlo : OR σ lo lo') (hhi : OR σ hi hi') (hmx : OR σ mx mx')
    (hm : (mx' = none ∧ m = cap) ∨ (boundD y1 mx y1 = some m ∧ mx.isSome = true ∧ y1 ≤ cap)) (hh : boundD len hi y2 = some h) (hy2 : y2 ≤ m) (hl : boundD 0 lo h = some l) (hc : hi.isNone = true → mx.isSome = true → False) :
    ∀ w, (Instr.sliceBounds b len cap lo' hi' mx').run P w = .ok (l, h, m) w := by
  intro w
  unfold Instr.sliceBounds
  have e2 := bound_ok hh hhi
  have e3 := bound_ok hl hlo
  rcases hm with ⟨rfl, rfl⟩ | ⟨hb, hs, hy⟩
  · rcases e2 with ⟨rfl, rfl⟩ | ⟨k, i, rfl, h0, h1, rfl⟩
    · rcases e3 with ⟨rfl, rfl⟩ | ⟨k3, i3, rfl, h03, h13, rfl⟩
      · simp
      · simp [run_sliceBound h03 h13]
    · have h1' : i ≤ (m : Int) := by omega
      rcases e3 with ⟨rfl, rfl⟩ | ⟨k3, i3, rfl, h03, h13, rfl⟩
      · simp [run_sliceBound h0 h1']
      · simp [run_sliceBound h0 h1', run_sliceBound h03 h13]
  · rcases bound_ok hb hmx with ⟨rfl, _⟩ | ⟨k1, i1, rfl, h01, h11, rfl⟩
    · cases mx with
      | none => simp at hs
      | some _ => simp [OR] at hmx
    · have h11' : i1 ≤ (cap : Int) := by omega
      rcases e2 with ⟨rfl, rfl⟩ | ⟨k, i, rfl, h0, h1, rfl⟩
      · cases hi with
        | none => exact (hc rfl hs).elim
        | some _ => simp [OR] at hhi
      · have h1' : i ≤ (i1.toNat : Int) := by omega
        rcases e3 with ⟨rfl, rfl⟩ | ⟨k3, i3, rfl, h03, h13, rfl⟩
        · simp [run_sliceBound h01 h11', run_sliceBound h0 h1']
        · simp [run_sliceBound h01 h11', run_sliceBound h0 h1', run_sliceBound h03 h13]

omit [Lax] in
theorem boundD_le {d y r : Nat} {x : Option DV} (h : boundD d x y = some r) (hd : d ≤ y) : r ≤ y := by
  unfold boundD at h
  split at h
  · simp at h; omega
  · split at h
    · rename_i hb; simp at h; omega
    · cases h
  · cases h

omit [Lax] in
theorem boundD_le' {d y r : Nat} {x : Option DV} (h : boundD d x y = some r) (hx : x.isSome = true) : r ≤ y := by
  unfold boundD at h
  split at h
  · simp at hx
  · split at h
    · rename_i hb; simp at h; omega
    · cases h
  · cases h

include ok

omit [Lax] in
/-- The piece of a slice. -/
theorem piece_ok {t e : TypeId} {size len cap l h m : Nat} {a : Option Ref} {capD : Option Nat} {sz : Nat} {x' : Value} {lo' hi' mx' : Option Value} (hu : und T t = some (.slice e)) (hs : tsize T e = some size)
    (hx : VR σ (.slice a len capD sz) x') (hsz : a.isSome = true → sz = size)
    (hb : ∀ cap', len ≤ cap' → (∀ c, capD = some c → c = cap') → ∃ m', (∀ w, (Instr.sliceBounds true len cap' lo' hi' mx').run P w = .ok (l, h, m') w) ∧ l ≤ h ∧ h ≤ m' ∧ m' ≤ cap' ∧
      (m' = m ∨ cap = 0)) (hcap : cap = 0 ∨ cap = 1) (hnone : a = none → m = 0 ∨ cap = 0) :
    ∃ v, (∀ w, (Instr.sliceAt t x' lo' hi' mx').run P w = .ok v w) ∧
      VR σ (.slice (a.map fun r => if cap = 1 ∧ m = l then r else (r.1, r.2 + l * size)) (h - l) (if cap = 1 then some (m - l) else none) sz) v := by
  cases a with
  | none =>
    simp only [VR] at hx
    obtain ⟨rfl, hc, rfl⟩ := hx
    obtain ⟨m', hr, h1, h2, h3, h4⟩ := hb 0 (by omega) hc
    obtain rfl : m' = 0 := by omega
    obtain rfl : h = 0 := by omega
    obtain rfl : l = 0 := by omega
    refine ⟨.slice none 0 0, fun w => ?_, ?_⟩
    · simp only [Instr.sliceAt, Sem.run_bind, run_underlying (und_ok ok hu), Result.andThen_ok, Instr.slice, hr, tsize_ok ok hs, Sem.run_pure]
      simp
    · simp only [Option.map_none, VR, Nat.sub_self, true_and]
      refine ⟨fun c hc' => ?_, trivial⟩
      rcases hcap with rfl | rfl
      · simp at hc'
      · simp at hc'; omega
  | some r =>
    simp only [VR] at hx
    obtain ⟨e', off', cap', he, rfl, hl, hc, ho, hroom⟩ := hx
    obtain rfl := hsz rfl
    obtain ⟨m', hr, h1, h2, h3, h4⟩ := hb cap' hl hc
    have harith : r.2 + l * sz + (cap' - l) * sz ≤ e'.r := by
      rw [Nat.sub_mul]
      have : l * sz ≤ cap' * sz := Nat.mul_le_mul_right _ (by omega)
      omega
    have hm' : (m' - l) * sz ≤ (cap' - l) * sz := Nat.mul_le_mul_right _ (by omega)
    refine ⟨.slice (if m' = l then some ⟨e'.k, e'.o + off', none⟩ else some ⟨e'.k, e'.o + off' + l * sz, none⟩) (h - l) (m' - l), fun w => ?_, ?_⟩
    · simp only [Instr.sliceAt, Sem.run_bind, run_underlying (und_ok ok hu), Result.andThen_ok, Instr.slice, hr, tsize_ok ok hs, Sem.run_pure, Option.map_some, addr_add]
    · rcases hcap with rfl | rfl
      · simp only [Option.map_some, Nat.zero_ne_one, false_and, if_false, VR]
        refine ⟨e', if m' = l then off' else off' + l * sz, m' - l, he, ?_, by omega, by simp, ?_, by omega⟩
        · split <;> simp [Nat.add_assoc]
        · intro h0
          rw [if_neg (by omega), ho (by omega)]
      · obtain rfl : m' = m := by omega
        simp only [Option.map_some, true_and, if_true, VR]
        by_cases hml : m' = l
        · simp only [if_pos hml]
          refine ⟨e', off', m' - l, he, rfl, by omega, by simp, by omega, ?_⟩
          have : (m' - l) * sz = 0 := by rw [hml]; simp
          have : 0 ≤ cap' * sz := Nat.zero_le _
          omega
        · simp only [if_neg hml]
          refine ⟨e', off' + l * sz, m' - l, he, by simp [Nat.add_assoc], by omega, by simp, ?_, by omega⟩
          intro h0
          rw [ho (by omega)]

omit [Lax] in
theorem slice_ok {t : TypeId} {x d : DV} {lo hi mx : Option DV} {x' : Value} {lo' hi' mx' : Option Value} (h : sliceD T t x lo hi mx = some d) (hx : VR σ x x') (hlo : OR σ lo lo') (hhi : OR σ hi hi') (hmx : OR σ mx mx') :
    ∃ v, (∀ w, (Instr.sliceAt t x' lo' hi' mx').run P w = .ok v w) ∧ VR σ d v := by
  unfold sliceD at h
  split at h
  · rename_i s hu
    split at h
    · cases h
    · rename_i hms
      have hmx0 : mx = none := by cases mx with | none => rfl | some _ => simp at hms
      subst hmx0
      obtain rfl : mx' = none := hmx
      split at h
      · cases h
      · rename_i hh heh
        split at h
        · cases h
        · rename_i l hel
          injection h with h; subst h
          simp only [VR] at hx
          obtain ⟨p, rfl, rfl⟩ := hx
          have hlen : p.data.toList.length = p.size := by rw [Array.length_toList]; rfl
          rw [hlen] at heh
          have hb := bounds_ok (P := P) (b := false) (y1 := 0) (mx := none) (mx' := none) hlo hhi rfl (m := p.size) (.inl ⟨rfl, rfl⟩) heh (Nat.le_refl _) hel (fun _ e => by cases e)
          refine ⟨.string (p.extract l hh), fun w => ?_, by simp only [VR]; exact ⟨_, rfl, extract_list _ _ _⟩⟩
          simp [Instr.sliceAt, run_underlying (und_ok ok hu), Instr.slice, hb]
  · rename_i e a len cap sz hu
    split at h
    · cases h
    · rename_i size hs
      split at h
      · cases h
      · rename_i hsz
        have hsz' : a.isSome = true → sz = size := fun ha => by simpa [ha] using hsz
        split at h
        · rename_i c
          split at h
          · cases h
          · rename_i m hm
            split at h
            · cases h
            · rename_i hc
              split at h
              · cases h
              · rename_i hh heh
                split at h
                · cases h
                · rename_i l hel
                  injection h with h; subst h
                  have hmc : m ≤ c := boundD_le hm (Nat.le_refl _)
                  have := piece_ok (σ := σ) ok (cap := 1) (m := m) (l := l) (h := hh) (lo' := lo') (hi' := hi') (mx' := mx') hu hs hx hsz' (fun cap' hl hcc => by
                    obtain rfl := hcc c rfl
                    have hhm : hh ≤ m := by
                      cases hi with
                      | none =>
                        cases mx with
                        | none => simp [boundD] at hm heh; omega
                        | some _ => simp at hc
                      | some v => exact boundD_le' heh rfl
                    refine ⟨m, bounds_ok (y1 := c) hlo hhi hmx ?_ heh (Nat.le_refl _) hel (fun h1 h2 => by simp [h1, h2] at hc), boundD_le hel (Nat.zero_le _), hhm, hmc, .inl rfl⟩
                    cases mx with
                    | none => left; exact ⟨hmx, by simpa [boundD] using hm.symm⟩
                    | some _ => right; exact ⟨hm, rfl, Nat.le_refl _⟩) (.inr rfl) (fun ha => by
                    subst ha
                    simp only [VR] at hx
                    have := hx.2.1 c rfl
                    omega)
                  simpa using this
        · split at h
          · split at h
            · cases h
            · rename_i hh heh
              split at h
              · cases h
              · rename_i l hel
                injection h with h; subst h
                have := piece_ok (σ := σ) ok (cap := 0) (m := 0) (l := l) (h := hh) (lo' := lo') (hi' := hi') (mx' := mx') hu hs hx hsz' (fun cap' hl _ => by
                  have h1 := boundD_le heh (Nat.le_refl _)
                  exact ⟨cap', bounds_ok (y1 := 0) (m := cap') hlo hhi hmx (.inl ⟨hmx, rfl⟩) heh hl hel (fun _ e => by cases e), boundD_le hel (Nat.zero_le _), by omega, Nat.le_refl _, .inr rfl⟩) (.inl rfl) (fun _ => .inr rfl)
                simpa using this
          · rename_i mv
            split at h
            · cases h
            · rename_i m hm
              split at h
              · cases h
              · rename_i hc
                split at h
                · cases h
                · rename_i hh heh
                  split at h
                  · cases h
                  · rename_i l hel
                    injection h with h; subst h
                    have hmc : m ≤ len := boundD_le hm (Nat.le_refl _)
                    have := piece_ok (σ := σ) ok (cap := 1) (m := m) (l := l) (h := hh) (lo' := lo') (hi' := hi') (mx' := mx') hu hs hx hsz' (fun cap' hl _ => by
                      have hhm : hh ≤ m := by
                        cases hi with
                        | none => simp at hc
                        | some v => exact boundD_le' heh rfl
                      exact ⟨m, bounds_ok (y1 := len) hlo hhi hmx (.inr ⟨hm, rfl, hl⟩) heh (Nat.le_refl _) hel (fun h1 _ => by simp [h1] at hc), boundD_le hel (Nat.zero_le _), hhm, by omega, .inl rfl⟩) (.inr rfl) (fun ha => by
                      subst ha
                      simp only [VR] at hx
                      omega)
                    simpa using this
  · cases h

omit [Lax] in
theorem assert_ok {x d : DV} {t xt : TypeId} {c : Bool} {x' : Value} (h : assertD T x t c = some d) (hx : VR σ x x') : ∃ v, (∀ w, (Instr.typeAssert x' xt t c).run P w = .ok v w) ∧ VR σ d v := by
  unfold assertD at h
  split at h
  · cases h
  · cases h
  · rename_i ty hne hu
    have hu' := run_underlying (und_ok ok hu)
    split at h
    · rename_i u y
      simp only [VR] at hx
      obtain ⟨z, rfl, hz⟩ := hx
      split at h
      · rename_i he; subst he
        injection h with h; subst h
        refine ⟨if c then .tuple #[z, .bool true] else z, fun w => ?_, ?_⟩
        · cases ty <;> simp_all [Instr.typeAssert]
        · cases c
          · simpa using hz
          · simp only [if_true, VR]; exact ⟨_, rfl, .cons hz (.one (by simp [VR]))⟩
      · rename_i hne'
        split at h
        · rename_i hc; subst hc
          simp only [Option.map_eq_some_iff] at h
          obtain ⟨zd, hzd, rfl⟩ := h
          obtain ⟨i, zv, _, _, hzr, hzv⟩ := tzero_ok (σ := σ) ok hzd
          refine ⟨.tuple #[zv, .bool false], fun w => ?_, by simp only [VR]; exact ⟨_, rfl, .cons hzv (.one (by simp [VR]))⟩⟩
          cases ty <;> simp_all [Instr.typeAssert]
        · cases h
    · simp only [VR] at hx; subst hx
      split at h
      · rename_i hc; subst hc
        simp only [Option.map_eq_some_iff] at h
        obtain ⟨zd, hzd, rfl⟩ := h
        obtain ⟨i, zv, _, _, hzr, hzv⟩ := tzero_ok (σ := σ) ok hzd
        refine ⟨.tuple #[zv, .bool false], fun w => ?_, by simp only [VR]; exact ⟨_, rfl, .cons hzv (.one (by simp [VR]))⟩⟩
        cases ty <;> simp_all [Instr.typeAssert]
      · cases h
    · cases h

end
end Go.D
