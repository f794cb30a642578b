/-
  How D's values and heap stand to the model's: the relation, its basic laws.
-/
import Derived.Test.YtfphfbfjmpbohaaGreatDB
import Derived.Below
namespace Go.D

/-- Where an object lies: block, first cell, how many cells there are from it on. -/
structure SE where
  k : Nat
  o : Nat
  r : Nat

mutual
/-- A value of D's and one of the model's. -/
def VR (σ : Nat → Option SE) : DV → Value → Prop
  | .bool b, v => v = .bool b
  | .int k n, v => v = .int k n
  | .str s, v => ∃ b : ByteArray, v = .string b ∧ b.data.toList = s
  | .ptr none, v => v = .pointer none
  | .ptr (some r), v => ∃ e, σ r.1 = some e ∧ v = .pointer (some ⟨e.k, e.o + r.2, none⟩)
  | .slice none len cap _, v => len = 0 ∧ (∀ c, cap = some c → c = 0) ∧ v = .slice none 0 0
  | .slice (some r) len cap sz, v => ∃ e off' cap', σ r.1 = some e ∧ v = .slice (some ⟨e.k, e.o + off', none⟩) len cap' ∧ len ≤ cap' ∧
      (∀ c, cap = some c → c = cap') ∧ (0 < cap' → off' = r.2) ∧ r.2 + cap' * sz ≤ e.r
  | .map none, v => v = .map none
  | .map (some r), v => ∃ e, σ r = some e ∧ v = .map (some e.k)
  | .func f caps, v => ∃ a, v = .func (.func f) #[] a ∧ VRs σ caps a.toList
  | .nilFunc, v => v = .nilFunc
  | .iface t d, v => ∃ x, v = .iface t x ∧ VR σ d x
  | .nilIface, v => v = .nilIface
  | .agg cs, v => ∃ a, v = .agg a ∧ VRs σ cs a.toList
  | .tup cs, v => ∃ a, v = .tuple a ∧ VRs σ cs a.toList
def VRs (σ : Nat → Option SE) : List DV → List Value → Prop
  | [], l => l = []
  | d :: ds, l => ∃ x xs, l = x :: xs ∧ VR σ d x ∧ VRs σ ds xs
end

/-- More objects are placed; those that were stay where they are. -/
def Ext (σ τ : Nat → Option SE) : Prop := ∀ i e, σ i = some e → τ i = some e

theorem Ext.refl (σ : Nat → Option SE) : Ext σ σ := fun _ _ h => h
theorem Ext.trans {σ τ υ : Nat → Option SE} (h : Ext σ τ) (k : Ext τ υ) : Ext σ υ := fun i e he => k i e (h i e he)

mutual
theorem VR.mono {σ τ : Nat → Option SE} (hx : Ext σ τ) : ∀ {d : DV} {v : Value}, VR σ d v → VR τ d v
  | .bool _, _, h => h
  | .int _ _, _, h => h
  | .str _, _, h => h
  | .ptr none, _, h => h
  | .ptr (some _), _, h => by
    simp only [VR] at h ⊢
    obtain ⟨e, he, hv⟩ := h
    exact ⟨e, hx _ _ he, hv⟩
  | .slice none _ _ _, _, h => h
  | .slice (some _) _ _ _, _, h => by
    simp only [VR] at h ⊢
    obtain ⟨e, o, c, he, hv⟩ := h
    exact ⟨e, o, c, hx _ _ he, hv⟩
  | .map none, _, h => h
  | .map (some _), _, h => by
    simp only [VR] at h ⊢
    obtain ⟨e, he, hv⟩ := h
    exact ⟨e, hx _ _ he, hv⟩
  | .func _ _, _, h => by
    simp only [VR] at h ⊢
    obtain ⟨a, hv, hs⟩ := h
    exact ⟨a, hv, VRs.mono hx hs⟩
  | .nilFunc, _, h => h
  | .iface _ _, _, h => by
    simp only [VR] at h ⊢
    obtain ⟨a, hv, hs⟩ := h
    exact ⟨a, hv, VR.mono hx hs⟩
  | .nilIface, _, h => h
  | .agg _, _, h => by
    simp only [VR] at h ⊢
    obtain ⟨a, hv, hs⟩ := h
    exact ⟨a, hv, VRs.mono hx hs⟩
  | .tup _, _, h => by
    simp only [VR] at h ⊢
    obtain ⟨a, hv, hs⟩ := h
    exact ⟨a, hv, VRs.mono hx hs⟩
theorem VRs.mono {σ τ : Nat → Option SE} (hx : Ext σ τ) : ∀ {ds : List DV} {vs : List Value}, VRs σ ds vs → VRs τ ds vs
  | [], _, h => h
  | _ :: _, _, h => by
    simp only [VRs] at h ⊢
    obtain ⟨x, xs, hv, h1, h2⟩ := h
    exact ⟨x, xs, hv, VR.mono hx h1, VRs.mono hx h2⟩
end

theorem VRs.nil {σ : Nat → Option SE} : VRs σ [] [] := by simp [VRs]
theorem VRs.cons {σ : Nat → Option SE} {d : DV} {v : Value} {ds : List DV} {vs : List Value} (h : VR σ d v) (hs : VRs σ ds vs) : VRs σ (d :: ds) (v :: vs) := by
  simp only [VRs]; exact ⟨v, vs, rfl, h, hs⟩
theorem VRs.one {σ : Nat → Option SE} {d : DV} {v : Value} (h : VR σ d v) : VRs σ [d] [v] := .cons h .nil
theorem VRs.cons_iff {σ : Nat → Option SE} {d : DV} {v : Value} {ds : List DV} {vs : List Value} : VRs σ (d :: ds) (v :: vs) ↔ VR σ d v ∧ VRs σ ds vs := by
  simp only [VRs]
  constructor
  · rintro ⟨x, xs, h, h1, h2⟩
    injection h with ha hb
    subst ha; subst hb
    exact ⟨h1, h2⟩
  · rintro ⟨h1, h2⟩; exact ⟨v, vs, rfl, h1, h2⟩

theorem VRs.length {σ : Nat → Option SE} : ∀ {ds : List DV} {vs : List Value}, VRs σ ds vs → ds.length = vs.length
  | [], vs, h => by simp [VRs] at h; subst h; rfl
  | d :: ds, vs, h => by
    simp only [VRs] at h
    obtain ⟨x, xs, rfl, _, h2⟩ := h
    simp [VRs.length h2]

theorem VRs.get {σ : Nat → Option SE} : ∀ {ds : List DV} {vs : List Value}, VRs σ ds vs → ∀ {i : Nat} {d : DV}, ds[i]? = some d → ∃ v, vs[i]? = some v ∧ VR σ d v
  | [], vs, h, i, d, hi => by simp at hi
  | x :: ds, vs, h, i, d, hi => by
    simp only [VRs] at h
    obtain ⟨y, ys, rfl, h1, h2⟩ := h
    cases i with
    | zero => simp at hi; subst hi; exact ⟨y, rfl, h1⟩
    | succ i => simp at hi ⊢; exact VRs.get h2 hi

theorem VRs.of_get {σ : Nat → Option SE} : ∀ {ds : List DV} {vs : List Value}, ds.length = vs.length → (∀ (i : Nat) (d : DV) (v : Value), ds[i]? = some d → vs[i]? = some v → VR σ d v) → VRs σ ds vs
  | [], [], _, _ => .nil
  | [], _ :: _, h, _ => by simp at h
  | _ :: _, [], h, _ => by simp at h
  | d :: ds, v :: vs, h, hg => .cons (hg 0 d v rfl rfl) (VRs.of_get (by simpa using h) fun i d' v' h1 h2 => hg (i + 1) d' v' (by simpa using h1) (by simpa using h2))

theorem VRs.append {σ : Nat → Option SE} : ∀ {ds es : List DV} {vs ws : List Value}, VRs σ ds vs → VRs σ es ws → VRs σ (ds ++ es) (vs ++ ws)
  | [], es, vs, ws, h, k => by simp [VRs] at h; subst h; exact k
  | d :: ds, es, vs, ws, h, k => by
    simp only [VRs] at h
    obtain ⟨x, xs, rfl, h1, h2⟩ := h
    exact .cons h1 (VRs.append h2 k)

theorem VRs.take {σ : Nat → Option SE} : ∀ {ds : List DV} {vs : List Value} (n : Nat), VRs σ ds vs → VRs σ (ds.take n) (vs.take n)
  | [], vs, n, h => by simp [VRs] at h; subst h; simp [VRs]
  | d :: ds, vs, 0, h => by simp [VRs]
  | d :: ds, vs, n + 1, h => by
    simp only [VRs] at h
    obtain ⟨x, xs, rfl, h1, h2⟩ := h
    exact .cons h1 (VRs.take n h2)

theorem VRs.drop {σ : Nat → Option SE} : ∀ {ds : List DV} {vs : List Value} (n : Nat), VRs σ ds vs → VRs σ (ds.drop n) (vs.drop n)
  | [], vs, n, h => by simp [VRs] at h; subst h; simp [VRs]
  | d :: ds, vs, 0, h => h
  | d :: ds, vs, n + 1, h => by
    simp only [VRs] at h
    obtain ⟨x, xs, rfl, h1, h2⟩ := h
    simpa using VRs.drop n h2

mutual
theorem cv_ok (σ : Nat → Option SE) : ∀ {v : Value} {d : DV}, cv v = some d → VR σ d v
  | .bool b, d, h => by simp [cv] at h; subst h; simp [VR]
  | .int k n, d, h => by simp [cv] at h; subst h; simp [VR]
  | .string s, d, h => by simp [cv] at h; subst h; simp [VR]
  | .pointer none, d, h => by simp [cv] at h; subst h; simp [VR]
  | .pointer (some _), d, h => by simp [cv] at h
  | .slice none 0 0, d, h => by simp [cv] at h; subst h; simp [VR]
  | .slice none (n + 1) c, d, h => by simp [cv] at h
  | .slice none 0 (c + 1), d, h => by simp [cv] at h
  | .slice (some _) _ _, d, h => by simp [cv] at h
  | .map none, d, h => by simp [cv] at h; subst h; simp [VR]
  | .map (some _), d, h => by simp [cv] at h
  | .nilFunc, d, h => by simp [cv] at h; subst h; simp [VR]
  | .nilIface, d, h => by simp [cv] at h; subst h; simp [VR]
  | .agg ⟨l⟩, d, h => by
    simp only [cv, Option.map_eq_some_iff] at h
    obtain ⟨ds, h1, rfl⟩ := h
    simp only [VR]
    exact ⟨_, rfl, cvs_ok σ h1⟩
  | .tuple ⟨l⟩, d, h => by
    simp only [cv, Option.map_eq_some_iff] at h
    obtain ⟨ds, h1, rfl⟩ := h
    simp only [VR]
    exact ⟨_, rfl, cvs_ok σ h1⟩
  | .iface t v, d, h => by
    simp only [cv, Option.map_eq_some_iff] at h
    obtain ⟨x, h1, rfl⟩ := h
    simp only [VR]
    exact ⟨_, rfl, cv_ok σ h1⟩
  | .float _ _, d, h => by simp [cv] at h
  | .complex _ _ _, d, h => by simp [cv] at h
  | .chan _, d, h => by simp [cv] at h
  | .func _ _ _, d, h => by simp [cv] at h
theorem cvs_ok (σ : Nat → Option SE) : ∀ {l : List Value} {ds : List DV}, cvs l = some ds → VRs σ ds l
  | [], ds, h => by simp [cvs] at h; subst h; exact .nil
  | v :: l, ds, h => by
    simp only [cvs] at h
    split at h
    · rename_i d ds' h1 h2
      injection h with h
      subst h
      exact .cons (cv_ok σ h1) (cvs_ok σ h2)
    · cases h
end

theorem VR.cells {σ : Nat → Option SE} {d : DV} {v : Value} (h : VR σ d v) : VRs σ d.cellsOf v.cells.toList := by
  cases d with
  | agg cs => simp only [VR] at h; obtain ⟨a, rfl, hs⟩ := h; exact hs
  | bool b => simp only [VR] at h; subst h; exact .one (by simp [VR])
  | int k n => simp only [VR] at h; subst h; exact .one (by simp [VR])
  | str s => have h' := h; simp only [VR] at h; obtain ⟨b, rfl, hb⟩ := h; exact .one h'
  | ptr a => cases a with
    | none => have h' := h; simp only [VR] at h; subst h; exact .one h'
    | some r => have h' := h; simp only [VR] at h; obtain ⟨e, he, rfl⟩ := h; exact .one h'
  | slice a len cap sz => cases a with
    | none => have h' := h; simp only [VR] at h; obtain ⟨_, _, rfl⟩ := h; exact .one h'
    | some r => have h' := h; simp only [VR] at h; obtain ⟨e, o, c, he, rfl, _⟩ := h; exact .one h'
  | map r => cases r with
    | none => have h' := h; simp only [VR] at h; subst h; exact .one h'
    | some r => have h' := h; simp only [VR] at h; obtain ⟨e, he, rfl⟩ := h; exact .one h'
  | func f caps => have h' := h; simp only [VR] at h; obtain ⟨a, rfl, _⟩ := h; exact .one h'
  | nilFunc => have h' := h; simp only [VR] at h; subst h; exact .one h'
  | iface t d => have h' := h; simp only [VR] at h; obtain ⟨x, rfl, _⟩ := h; exact .one h'
  | nilIface => have h' := h; simp only [VR] at h; subst h; exact .one h'
  | tup cs => have h' := h; simp only [VR] at h; obtain ⟨a, rfl, _⟩ := h; exact .one h'

theorem VR.cells_size {σ : Nat → Option SE} {d : DV} {v : Value} (h : VR σ d v) : v.cells.size = d.cellsOf.length := by
  have := VRs.length h.cells
  simpa using this.symm

theorem VR.one {σ : Nat → Option SE} {d : DV} {v : Value} (h : VR σ d v) (hf : d.flat = true) : v.oneCell' = true := by
  cases d with
  | agg cs => simp [DV.flat] at hf
  | tup cs => simp [DV.flat] at hf
  | bool b => simp only [VR] at h; subst h; rfl
  | int k n => simp only [VR] at h; subst h; rfl
  | str s => simp only [VR] at h; obtain ⟨b, rfl, hb⟩ := h; rfl
  | ptr a => cases a with
    | none => simp only [VR] at h; subst h; rfl
    | some r => simp only [VR] at h; obtain ⟨e, he, rfl⟩ := h; rfl
  | slice a len cap sz => cases a with
    | none => simp only [VR] at h; obtain ⟨_, _, rfl⟩ := h; rfl
    | some r => simp only [VR] at h; obtain ⟨e, o, c, he, rfl, _⟩ := h; rfl
  | map r => cases r with
    | none => simp only [VR] at h; subst h; rfl
    | some r => simp only [VR] at h; obtain ⟨e, he, rfl⟩ := h; rfl
  | func f caps => simp only [VR] at h; obtain ⟨a, rfl, _⟩ := h; rfl
  | nilFunc => simp only [VR] at h; subst h; rfl
  | iface t d => simp only [VR] at h; obtain ⟨x, rfl, _⟩ := h; rfl
  | nilIface => simp only [VR] at h; subst h; rfl

theorem VRs.one_all {σ : Nat → Option SE} : ∀ {ds : List DV} {vs : List Value}, VRs σ ds vs → ds.all DV.flat = true → ∀ v ∈ vs, v.oneCell' = true
  | [], vs, h, _ => by simp [VRs] at h; subst h; simp
  | d :: ds, vs, h, hf => by
    simp only [VRs] at h
    obtain ⟨x, xs, rfl, h1, h2⟩ := h
    simp only [List.all_cons, Bool.and_eq_true] at hf
    intro v hv
    rcases List.mem_cons.1 hv with rfl | hv
    · exact h1.one hf.1
    · exact VRs.one_all h2 hf.2 v hv

/-! The heap. -/

theorem Tr.get_setF : ∀ (f : Nat) (t : Tr) (i j : Nat) (o : DObj), i < f → (t.setF f i o).get j = if i = j then some o else t.get j := by
  intro f
  induction f with
  | zero => intro t i j o h; omega
  | succ f ih =>
    intro t i j o h
    cases t with
    | leaf =>
      simp only [Tr.setF]
      by_cases hi : i = 0
      · subst hi
        simp only [if_pos, Tr.get]
        by_cases hj : j = 0
        · subst hj; simp
        · have h0 : ¬ (0 = j) := fun e => hj e.symm
          simp only [if_neg hj, if_neg h0]
          split <;> rfl
      · rw [if_neg hi]
        by_cases h2 : i % 2 = 1
        · rw [if_pos h2]
          simp only [Tr.get]
          by_cases hj : j = 0
          · subst hj; rw [if_pos rfl, if_neg hi]
          · rw [if_neg hj]
            by_cases hj2 : j % 2 = 1
            · rw [if_pos hj2, ih _ _ _ _ (by omega)]
              simp only [Tr.get]
              by_cases e : i = j
              · subst e; simp
              · rw [if_neg e, if_neg (by omega)]
            · rw [if_neg hj2, if_neg (by intro e; subst e; exact hj2 h2)]
        · rw [if_neg h2]
          simp only [Tr.get]
          by_cases hj : j = 0
          · subst hj; rw [if_pos rfl, if_neg hi]
          · rw [if_neg hj]
            by_cases hj2 : j % 2 = 1
            · rw [if_pos hj2, if_neg (by intro e; subst e; exact h2 hj2)]
            · rw [if_neg hj2, ih _ _ _ _ (by omega)]
              simp only [Tr.get]
              by_cases e : i = j
              · subst e; simp
              · rw [if_neg e, if_neg (by omega)]
    | node l v r =>
      simp only [Tr.setF]
      by_cases hi : i = 0
      · subst hi
        simp only [if_pos, Tr.get]
        by_cases hj : j = 0
        · subst hj; simp
        · have h0 : ¬ (0 = j) := fun e => hj e.symm
          simp only [if_neg hj, if_neg h0]
      · rw [if_neg hi]
        by_cases h2 : i % 2 = 1
        · rw [if_pos h2]
          simp only [Tr.get]
          by_cases hj : j = 0
          · subst hj; rw [if_pos rfl, if_neg hi, if_pos rfl]
          · rw [if_neg hj, if_neg hj]
            by_cases hj2 : j % 2 = 1
            · rw [if_pos hj2, if_pos hj2, ih _ _ _ _ (by omega)]
              by_cases e : i = j
              · subst e; simp
              · rw [if_neg e, if_neg (by omega)]
            · rw [if_neg hj2, if_neg hj2, if_neg (by intro e; subst e; exact hj2 h2)]
        · rw [if_neg h2]
          simp only [Tr.get]
          by_cases hj : j = 0
          · subst hj; rw [if_pos rfl, if_neg hi, if_pos rfl]
          · rw [if_neg hj, if_neg hj]
            by_cases hj2 : j % 2 = 1
            · rw [if_pos hj2, if_pos hj2, if_neg (by intro e; subst e; exact h2 hj2)]
            · rw [if_neg hj2, if_neg hj2, ih _ _ _ _ (by omega)]
              by_cases e : i = j
              · subst e; simp
              · rw [if_neg e, if_neg (by omega)]

theorem H.get_put (h : H) (i j : Nat) (o : DObj) : (h.put i o).get j = if i = j then some o else h.get j := Tr.get_setF _ _ _ _ _ (by omega)
theorem H.get_new (h : H) (j : Nat) (o : DObj) : (h.new o).get j = if h.next = j then some o else h.get j := Tr.get_setF _ _ _ _ _ (by omega)
@[simp] theorem H.put_next (h : H) (i : Nat) (o : DObj) : (h.put i o).next = h.next := rfl
@[simp] theorem H.put_ro (h : H) (i : Nat) (o : DObj) : (h.put i o).ro = h.ro := rfl
@[simp] theorem H.new_next (h : H) (o : DObj) : (h.new o).next = h.next + 1 := rfl
@[simp] theorem H.new_ro (h : H) (o : DObj) : (h.new o).ro = h.ro := rfl

end Go.D
