/-
  Sorted rows: an insertion sort, its one result; rows of cells, flat. No program is named here.
-/
import Derived.Test.YtfphfbfjmpbohaaGreatDO
import Derived.Shelf.SlSortCmp.WholeK
namespace Go.D
open Go.Sort

section
variable {α : Type} (lt : α → α → Bool)

def insF (x : α) : List α → List α
  | [] => [x]
  | y :: l => if lt y x = false then x :: y :: l else y :: insF x l
def isort : List α → List α
  | [] => []
  | x :: l => insF lt x (isort l)

theorem insF_perm (x : α) : ∀ l, (insF lt x l).Perm (x :: l)
  | [] => List.Perm.refl _
  | y :: l => by
    simp only [insF]
    split
    · exact List.Perm.refl _
    · exact ((insF_perm x l).cons y).trans (List.Perm.swap x y l)
theorem isort_perm : ∀ l, (isort lt l).Perm l
  | [] => List.Perm.refl _
  | x :: l => (insF_perm lt x _).trans ((isort_perm l).cons x)

variable {lt} (hO : SWO lt)
include hO
theorem SWO.asym {x y : α} (h : lt x y = true) : lt y x = false := by
  cases hb : lt y x with
  | false => rfl
  | true => have := hO.trans x y x h hb; rw [hO.irrefl] at this; cases this

theorem insF_sorted (x : α) : ∀ l, l.Pairwise (fun a b => lt b a = false) → (insF lt x l).Pairwise (fun a b => lt b a = false)
  | [], _ => by simp [insF]
  | y :: l, h => by
    simp only [insF]
    obtain ⟨h1, h2⟩ := List.pairwise_cons.1 h
    split
    · rename_i hle
      refine List.pairwise_cons.2 ⟨fun b hb => ?_, h⟩
      rcases List.mem_cons.1 hb with rfl | hb
      · exact hle
      · exact hO.ntrans _ _ _ (h1 b hb) hle
    · rename_i hgt
      refine List.pairwise_cons.2 ⟨fun b hb => ?_, insF_sorted x l h2⟩
      rcases List.mem_cons.1 ((insF_perm lt x l).mem_iff.1 hb) with rfl | hb
      · exact SWO.asym hO (by simpa using hgt)
      · exact h1 b hb
theorem isort_sorted : ∀ l, (isort lt l).Pairwise (fun a b => lt b a = false)
  | [] => List.Pairwise.nil
  | x :: l => insF_sorted hO x _ (isort_sorted l)

omit hO in
theorem sorted_one (hA : ∀ x y, lt x y = false → lt y x = false → x = y) : ∀ {l m : List α}, l.Perm m → l.Pairwise (fun a b => lt b a = false) → m.Pairwise (fun a b => lt b a = false) → l = m
  | [], m, hp, _, _ => hp.nil_eq
  | x :: l, [], hp, _, _ => by have := hp.length_eq; simp at this
  | x :: l, y :: m, hp, h1, h2 => by
    obtain ⟨a1, a2⟩ := List.pairwise_cons.1 h1
    obtain ⟨b1, b2⟩ := List.pairwise_cons.1 h2
    have hxy : x = y := by
      have hx : x ∈ y :: m := hp.mem_iff.1 (by simp)
      have hy : y ∈ x :: l := hp.mem_iff.2 (by simp)
      rcases List.mem_cons.1 hx with e | hx
      · exact e
      · rcases List.mem_cons.1 hy with e | hy
        · exact e.symm
        · exact hA _ _ (b1 x hx) (a1 y hy)
    subst hxy
    have := sorted_one hA (List.Perm.cons_inv hp) a2 b2
    rw [this]

omit hO in
theorem sortD_eq {c : α → List DV} (hc : ∀ x y, rowLe (c x) (c y) = !(lt y x)) : ∀ l : List α, sortD (l.map c) = (isort lt l).map c
  | [] => rfl
  | x :: l => by
    simp only [List.map_cons, sortD, isort, sortD_eq hc l]
    generalize isort lt l = m
    induction m with
    | nil => rfl
    | cons y m ih =>
      simp only [List.map_cons, insertD, insF, hc]
      cases lt y x <;> simp [ih]
end

/-! Rows of numbers. -/

def lexI : List Int → List Int → Bool
  | x :: xs, y :: ys => decide (x < y) || (x == y && lexI xs ys)
  | _, _ => false

theorem lexI_irrefl : ∀ x, lexI x x = false
  | [] => rfl
  | x :: xs => by simp [lexI, lexI_irrefl xs]
theorem lexI_trans : ∀ (x y z : List Int), x.length = y.length → y.length = z.length → lexI x y = true → lexI y z = true → lexI x z = true
  | [], [], _, _, _, h, _ => by simp [lexI] at h
  | x :: xs, y :: ys, [], _, h, _, _ => by simp at h
  | x :: xs, y :: ys, z :: zs, h1, h2, h3, h4 => by
    simp only [lexI, Bool.or_eq_true, decide_eq_true_eq, Bool.and_eq_true, beq_iff_eq] at h3 h4 ⊢
    rcases h3 with h3 | ⟨rfl, h3⟩
    · rcases h4 with h4 | ⟨rfl, _⟩
      · exact .inl (by omega)
      · exact .inl h3
    · rcases h4 with h4 | ⟨rfl, h4⟩
      · exact .inl h4
      · exact .inr ⟨rfl, lexI_trans xs ys zs (by simpa using h1) (by simpa using h2) h3 h4⟩
theorem lexI_ntrans : ∀ (x y z : List Int), x.length = y.length → y.length = z.length → lexI x y = false → lexI y z = false → lexI x z = false
  | [], _, _, _, _, _, _ => by simp [lexI]
  | x :: xs, y :: ys, [], _, h, _, _ => by simp at h
  | x :: xs, y :: ys, z :: zs, h1, h2, h3, h4 => by
    simp only [lexI, Bool.or_eq_false_iff, decide_eq_false_iff_not, Bool.and_eq_false_iff, beq_eq_false_iff_ne] at h3 h4 ⊢
    refine ⟨by omega, ?_⟩
    by_cases hxz : x = z
    · refine .inr (lexI_ntrans xs ys zs (by simpa using h1) (by simpa using h2) ?_ ?_)
      · rcases h3.2 with q | q
        · exact absurd (show x = y by omega) q
        · exact q
      · rcases h4.2 with q | q
        · exact absurd (show y = z by omega) q
        · exact q
    · exact .inl hxz
theorem lexI_antisymm : ∀ (x y : List Int), x.length = y.length → lexI x y = false → lexI y x = false → x = y
  | [], [], _, _, _ => rfl
  | x :: xs, y :: ys, h1, h2, h3 => by
    simp only [lexI, Bool.or_eq_false_iff, decide_eq_false_iff_not, Bool.and_eq_false_iff, beq_eq_false_iff_ne] at h2 h3
    have hxy : x = y := by omega
    subst hxy
    rw [lexI_antisymm xs ys (by simpa using h1) (h2.2.resolve_left (by simp)) (h3.2.resolve_left (by simp))]

def dint : DV → Int
  | .int _ n => n
  | .bool b => if b then 1 else 0
  | _ => 0
def likeC : DV → DV → Bool
  | .int _ _, .int _ _ => true
  | .bool _, .bool _ => true
  | _, _ => false

theorem rowLe_lex : ∀ (l m : List DV), l.length = m.length → (l.zip m).all (fun p => likeC p.1 p.2) = true → rowLe l m = !(lexI (m.map dint) (l.map dint))
  | [], [], _, _ => rfl
  | a :: l, b :: m, h1, h2 => by
    simp only [List.zip_cons_cons, List.all_cons, Bool.and_eq_true] at h2
    have ih := rowLe_lex l m (by simpa using h1) h2.2
    simp only [rowLe, ih, List.map_cons, lexI]
    have key : cellEq a b = (dint a == dint b) ∧ cellLe a b = decide (dint a ≤ dint b) := by
      have h3 := h2.1
      cases a <;> cases b <;> simp only [likeC, Bool.false_eq_true] at h3
      · rename_i x y; cases x <;> cases y <;> decide
      · exact ⟨rfl, rfl⟩
    rw [key.1, key.2]
    generalize lexI (m.map dint) (l.map dint) = t
    by_cases h : dint a = dint b
    · simp [h]
    · have h' : dint b ≠ dint a := fun e => h e.symm
      simp only [beq_eq_false_iff_ne.2 h, beq_eq_false_iff_ne.2 h', Bool.false_eq_true, if_false, Bool.false_and, Bool.or_false]
      by_cases hl : dint a ≤ dint b
      · simp [hl]
      · simp [hl]; omega

section
variable {α : Type} [Inhabited α] (enc : α → List Value) (k : Nat) (hk : ∀ x, (enc x).length = k)
include hk
theorem get_flat : ∀ (l : List α) (t : Nat), t < l.length * k → ((l.map enc).flatten)[t]? = some ((enc l[t / k]!)[t % k]!)
  | [], t, h => by simp at h
  | x :: l, t, h => by
    have k0 : 0 < k := by
      rcases Nat.eq_zero_or_pos k with e | e
      · subst e; simp at h
      · exact e
    simp only [List.map_cons, List.flatten_cons]
    by_cases ht : t < k
    · rw [List.getElem?_append_left (by rw [hk]; exact ht), Nat.div_eq_of_lt ht, Nat.mod_eq_of_lt ht]
      simp [hk, ht]
    · rw [List.getElem?_append_right (by rw [hk]; omega), hk, get_flat l (t - k) (by simp [Nat.add_mul] at h; omega)]
      have e1 : t / k = (t - k) / k + 1 := by
        rw [← Nat.add_div_right (t - k) k0, Nat.sub_add_cancel (by omega)]
      have e2 : t % k = (t - k) % k := by
        rw [← Nat.add_mod_right (t - k) k, Nat.sub_add_cancel (by omega)]
      rw [e1, e2]
      simp

omit [Inhabited α] in
theorem length_flat : ∀ l : List α, ((l.map enc).flatten).length = l.length * k
  | [] => by simp
  | x :: l => by simp [length_flat l, hk, Nat.add_mul]; omega

theorem flatK_list (l : List α) : (flatK enc k l.toArray).toList = (l.map enc).flatten := by
  apply List.ext_getElem?
  intro t
  by_cases ht : t < l.length * k
  · rw [get_flat enc k hk l t ht]
    simp [flatK, ht]
  · rw [List.getElem?_eq_none (by simp [flatK]; omega), List.getElem?_eq_none (by rw [length_flat enc k hk]; omega)]
end

theorem heap_putRow {w : World} {g n : Nat} {os : Array Obj} {cur : Array Value} {e : TypeId} {fr : Nat × Nat} (d : Array Value) (hb : w.heap[g]? = some (.cells cur e fr)) :
    (grow (putRow id (Sort.ahead w n) g 0 d) os).heap[g]? = some (.cells (putCells id 0 d cur) e fr) := by
  have hg : g < w.heap.size := (Array.getElem?_eq_some_iff.1 hb).1
  rw [heap_grow_old _ _ (by simpa using hg)]
  simp [putRow, mapBlock, Sort.ahead, Array.getElem?_modify, hb, onCells]
theorem heap_putRow_other {w : World} {g n : Nat} {os : Array Obj} (d : Array Value) {b : Nat} (hb : b < w.heap.size) (hne : b ≠ g) :
    (grow (putRow id (Sort.ahead w n) g 0 d) os).heap[b]? = w.heap[b]? := by
  rw [heap_grow_old _ _ (by simpa using hb)]
  simp [putRow, mapBlock, Sort.ahead, Array.getElem?_modify, Ne.symm hne]
theorem take_put (cur : Array Value) (ts : Array Value) (h : ts.size ≤ cur.size) : (putCells id 0 ts cur).toList.take ts.size = ts.toList := by
  apply List.ext_getElem?
  intro j
  by_cases hj : j < ts.size
  · rw [List.getElem?_take_of_lt hj, Array.getElem?_toList]
    simp [putCells, hj, show j < cur.size by omega]
  · rw [List.getElem?_take_eq_none (by omega), List.getElem?_eq_none (by simp; omega)]
end Go.D
