/-
  D's operations that touch no memory are the model's: types, parts, comparison, arithmetic.
-/
import Derived.Test.YtfphfbfjmpbohaaGreatDS
import Derived.Laws.StructEq
namespace Go.D
variable [Lax]

structure TTok (P : Program) (T : TT) : Prop where
  info : ∀ t i, T.info t = some i → P.info? t = some i
  cmp : ∀ t, T.cmp t = true → P.stoodInHeld t = false ∧ P.eqGuardType P.depth t = false

section
variable {P : Program} {T : TT} (ok : TTok P T) {σ : Nat → Option SE}
include ok

omit [Lax] in
theorem und_ok {t : TypeId} {d : TypeDesc} (h : und T t = some d) : P.underlying t = some d := by
  unfold und at h
  unfold Program.underlying
  split at h
  · rename_i i hi
    rw [ok.info t i hi]
    obtain ⟨desc, x1, x2, x3, x4, x5, x6, x7, x8, x9⟩ := i
    cases desc
    case named n u =>
      simp only [Option.map_eq_some_iff] at h ⊢
      obtain ⟨j, hj, hd⟩ := h
      exact ⟨j, ok.info u j hj, hd⟩
    all_goals exact h
  · cases h

omit [Lax] in
theorem tsize_ok {t : TypeId} {n : Nat} (h : tsize T t = some n) (w : World) : (sizeOf t).run P w = .ok n w := by
  simp only [tsize, Option.map_eq_some_iff] at h
  obtain ⟨i, hi, rfl⟩ := h
  simp [sizeOf, typeInfo, ok.info t i hi]

omit [Lax] in
theorem tagg_ok {t : TypeId} {b : Bool} (h : tagg T t = some b) (w : World) : (isAgg t).run P w = .ok b w := by
  unfold tagg at h
  split at h
  · rename_i fs hu; simp at h; subst h; simp [isAgg, run_underlying (und_ok ok hu)]
  · rename_i n e hu; simp at h; subst h; simp [isAgg, run_underlying (und_ok ok hu)]
  · rename_i d h1 h2 hu
    simp at h; subst h
    simp only [isAgg, Sem.run_bind, run_underlying (und_ok ok hu), Result.andThen_ok]
    cases d <;> simp_all
  · cases h

omit [Lax] in
theorem tzero_ok {t : TypeId} {z : DV} (h : tzero T t = some z) : ∃ i v, P.info? t = some i ∧ i.zero = some v ∧ (∀ w, (zeroValue t).run P w = .ok v w) ∧ VR σ z v := by
  unfold tzero at h
  split at h
  · rename_i i hi
    simp only [Option.bind_eq_some_iff] at h
    obtain ⟨v, hv, hc⟩ := h
    exact ⟨i, v, ok.info t i hi, hv, fun w => by simp [zeroValue, typeInfo, ok.info t i hi, hv], cv_ok σ hc⟩
  · cases h

omit [Lax] in
theorem part_ok {t : TypeId} {cs : List DV} {a : Array Value} {off : Nat} {d : DV} (h : partD T t cs off = some d) (hv : VRs σ cs a.toList) :
    ∃ v, (∀ w, (part t a off).run P w = .ok v w) ∧ VR σ d v := by
  unfold partD at h
  split at h
  · rename_i n h1 h2
    injection h with h
    subst h
    refine ⟨.agg (a.extract off (off + n)), fun w => by simp [part, tagg_ok ok h1, tsize_ok ok h2], ?_⟩
    simp only [VR]
    refine ⟨_, rfl, ?_⟩
    rw [Array.toList_extract]
    have := VRs.take n (VRs.drop off hv)
    simpa [List.extract] using this
  · rename_i h1
    obtain ⟨v, hv, hr⟩ := VRs.get hv h
    refine ⟨v, fun w => ?_, hr⟩
    have : a[off]? = some v := by simpa using hv
    simp [part, tagg_ok ok h1, this]
  · cases h

omit ok in
omit [Lax] in
theorem bytes_eq (a b : ByteArray) : (a.toList == b.toList) = (a.data.toList == b.data.toList) := by
  rw [ByteArray.toList_eq, ByteArray.toList_eq]

omit [Lax] in
theorem eqFields_ok {d : Nat} {eq : TypeId → DV → DV → Option Bool} (IH : ∀ t x y b x' y', eq t x y = some b → VR σ x x' → VR σ y y' → ∀ w, (Op.equalIn d t x' y').run P w = .ok b w)
    {xs ys : List DV} {ax ay : Array Value} (hx : VRs σ xs ax.toList) (hy : VRs σ ys ay.toList) : ∀ (fs : List Field) (b : Bool), eqFields T eq xs ys fs = some b → ∀ w, (Op.eqFields d ax ay fs).run P w = .ok b w
  | [], b, h, w => by simp [eqFields] at h; subst h; simp [Op.eqFields]
  | f :: fs, b, h, w => by
    unfold eqFields at h
    unfold Op.eqFields
    by_cases hn : f.name ≠ "_"
    · rw [if_pos hn] at h ⊢
      split at h
      · rename_i x y h1 h2
        obtain ⟨vx, r1, e1⟩ := part_ok ok h1 hx
        obtain ⟨vy, r2, e2⟩ := part_ok ok h2 hy
        split at h
        · rename_i h3
          simp [r1, r2, IH _ _ _ _ _ _ h3 e1 e2, eqFields_ok IH hx hy fs b h]
        · rename_i h3
          injection h with h; subst h
          simp [r1, r2, IH _ _ _ _ _ _ h3 e1 e2]
        · cases h
      · cases h
    · rw [if_neg hn] at h ⊢
      exact eqFields_ok IH hx hy fs b h w

omit [Lax] in
theorem eq_ok : ∀ (n : Nat) {t : TypeId} {x y : DV} {b : Bool} {x' y' : Value}, eqD T n t x y = some b → VR σ x x' → VR σ y y' → ∀ w, (Op.equalIn n t x' y').run P w = .ok b w
  | 0, t, x, y, b, x', y', h, _, _, w => by simp [eqD] at h
  | n + 1, t, x, y, b, x', y', h, hx, hy, w => by
    unfold eqD at h
    split at h
    · rename_i a c hu; simp only [VR] at hx hy; subst hx; subst hy; injection h with h; subst h
      simp [Op.equalIn, run_underlying (und_ok ok hu)]
    · rename_i q k a k' c hu; simp only [VR] at hx hy; subst hx; subst hy
      split at h
      · rename_i hk; subst hk; injection h with h; subst h; simp [Op.equalIn, run_underlying (und_ok ok hu)]
      · cases h
    · rename_i a c hu; simp only [VR] at hx hy; obtain ⟨p, rfl, rfl⟩ := hx; obtain ⟨q, rfl, rfl⟩ := hy; injection h with h; subst h
      rw [← bytes_eq]
      rw [run_equalIn_string w n t p q (und_ok ok hu)]
    · rename_i q c hu; simp only [VR] at hx; subst hx; injection h with h; subst h
      cases c with
      | none => simp only [VR] at hy; subst hy; simp [Op.equalIn, run_underlying (und_ok ok hu)]
      | some r => simp only [VR] at hy; obtain ⟨e, he, rfl⟩ := hy; simp [Op.equalIn, run_underlying (und_ok ok hu)]
    · rename_i q c hu; simp only [VR] at hx hy; obtain ⟨e, he, rfl⟩ := hx; subst hy; injection h with h; subst h
      simp [Op.equalIn, run_underlying (und_ok ok hu)]
    · rename_i q l1 c1 s1 c l2 c2 s2 hu; simp only [VR] at hx; obtain ⟨_, _, rfl⟩ := hx; injection h with h; subst h
      cases c with
      | none => simp only [VR] at hy; obtain ⟨_, _, rfl⟩ := hy; simp [Op.equalIn, run_underlying (und_ok ok hu)]
      | some r => simp only [VR] at hy; obtain ⟨e, o, c', he, rfl, _⟩ := hy; simp [Op.equalIn, run_underlying (und_ok ok hu)]
    · rename_i q l1 c1 s1 c l2 c2 s2 hu; simp only [VR] at hx hy; obtain ⟨e, o, c', he, rfl, _⟩ := hx; obtain ⟨_, _, rfl⟩ := hy; injection h with h; subst h
      simp [Op.equalIn, run_underlying (und_ok ok hu)]
    · rename_i q1 q2 c hu; simp only [VR] at hx; subst hx; injection h with h; subst h
      cases c with
      | none => simp only [VR] at hy; subst hy; simp [Op.equalIn, run_underlying (und_ok ok hu)]
      | some r => simp only [VR] at hy; obtain ⟨e, he, rfl⟩ := hy; simp [Op.equalIn, run_underlying (und_ok ok hu)]
    · rename_i q1 q2 c hu; simp only [VR] at hx hy; obtain ⟨e, he, rfl⟩ := hx; subst hy; injection h with h; subst h
      simp [Op.equalIn, run_underlying (und_ok ok hu)]
    · rename_i q hu; simp only [VR] at hx hy; subst hx; subst hy; injection h with h; subst h
      simp [Op.equalIn, run_underlying (und_ok ok hu)]
    · rename_i q c hu; simp only [VR] at hx hy; subst hx; obtain ⟨z, rfl, _⟩ := hy; injection h with h; subst h
      simp [Op.equalIn, run_underlying (und_ok ok hu)]
    · rename_i q c hu; simp only [VR] at hx hy; subst hy; obtain ⟨z, rfl, _⟩ := hx; injection h with h; subst h
      simp [Op.equalIn, run_underlying (und_ok ok hu)]
    · rename_i q tx vx ty vy hu; simp only [VR] at hx hy; obtain ⟨p, rfl, hp⟩ := hx; obtain ⟨r, rfl, hr⟩ := hy
      split at h
      · rename_i hne; injection h with h; subst h
        simp [Op.equalIn, run_underlying (und_ok ok hu), hne]
      · rename_i he; simp at he; subst he
        split at h
        · rename_i i hi
          split at h
          · rename_i hc
            simp [Op.equalIn, run_underlying (und_ok ok hu), typeInfo, ok.info _ i hi, hc, eq_ok n h hp hr]
          · cases h
        · cases h
    · rename_i fs xs ys hu; simp only [VR] at hx hy; obtain ⟨p, rfl, hp⟩ := hx; obtain ⟨r, rfl, hr⟩ := hy
      split at h
      · cases h
      · rename_i hc
        have hc' : T.cmp t = true := by simpa using hc
        have hfs : P.fieldsOf t = fs := by simp [Program.fieldsOf, und_ok ok hu]
        rw [run_equalIn_struct w n t p r (by rw [hfs]; exact und_ok ok hu) (ok.cmp t hc').1, hfs]
        exact eqFields_ok ok (fun t x y b x' y' h1 h2 h3 w => eq_ok n h1 h2 h3 w) hp hr _ b h w
    · cases h

end
end Go.D
