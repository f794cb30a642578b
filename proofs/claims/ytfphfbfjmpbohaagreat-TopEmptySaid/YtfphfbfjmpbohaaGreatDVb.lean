/-
  Blocks that the model alone makes; a block that D takes for its own; a call from nothing. No program is named here.
-/
import Derived.Test.YtfphfbfjmpbohaaGreatDL
import Derived.Sort.Grow
import Derived.Deep.Draws
namespace Go.D
variable [Lax]

section
variable {B : Bd} {S : Sg} {h : H} {w w' : World}

/-- New blocks that are none of D's. -/
theorem Sim.still (s : Sim B S h w) (hos : w'.os = w.os) (htape : Tp w w') (hout : w'.output = w.output) (hsz : w.heap.size ≤ w'.heap.size) (hold : ∀ b, b < w.heap.size → w'.heap[b]? = w.heap[b]?) :
    Sim B S h w' ∧ Post S h w S h w' := by
  refine ⟨⟨⟨fun i e he => Nat.lt_of_lt_of_le (s.wf.dom i e he) hsz, s.wf.free, s.wf.low, s.wf.inj, Nat.le_trans s.wf.big hsz, s.wf.dd⟩, ?_, s.lo, s.hi, s.hw⟩,
    ⟨Ext.refl _, fun i e h1 h2 => (by rw [h1] at h2; cases h2), fun _ _ _ h => h, fun _ h => h, fun _ h => .inl h, Nat.le_refl _, rfl, ⟨hos, htape, hout, hsz, fun b hb _ => hold b hb⟩, fun _ _ q => absurd rfl q⟩⟩
  intro i e o he ho
  obtain ⟨h1, h2⟩ := s.obj i e o he ho
  exact ⟨h1.mono (Ext.refl _) (hold _ (s.wf.dom i e he)), h2⟩

/-- A new block of the model's becomes D's. -/
theorem Sim.adopt (s : Sim B S h w) (hF : h.next < B.f) (o : DObj) (e : SE) (hos : w'.os = w.os) (htape : Tp w w') (hout : w'.output = w.output)
    (hsz : w.heap.size ≤ w'.heap.size) (hold : ∀ b, b < w.heap.size → w'.heap[b]? = w.heap[b]?) (hk : w.heap.size ≤ e.k) (hk2 : e.k < w'.heap.size)
    (ho : ObjR (S.add h.next e).m w' (B.n ≤ h.next) e o) : Sim B (S.add h.next e) (h.new o) w' ∧ Post S h w (S.add h.next e) (h.new o) w' := by
  have hn : S.m h.next = Option.none := s.wf.free _ (Nat.le_refl _) hF
  have hx := Sg.add_ext (e := e) hn
  have hd : ¬ S.dead h.next := fun hk => s.wf.dd _ hk hn
  have hlo := s.lo
  have hhi := s.hi
  have hbig := s.wf.big
  refine ⟨⟨⟨?_, ?_, ?_, ?_, by omega, ?_⟩, ?_, s.lo, Nat.le_succ_of_le s.hi, ?_⟩, ⟨hx, ?_, ?_, fun _ h => h, fun _ h => .inl h, Nat.le_succ _, rfl, ⟨hos, htape, hout, by omega, fun b hb _ => hold b hb⟩, fun i hi q => absurd (by rw [H.get_new, if_neg (by omega)]) q⟩⟩
  · intro i f hf
    simp only [Sg.add] at hf
    by_cases hi : i = h.next
    · subst hi; rw [if_pos rfl] at hf; injection hf with hf; subst hf; omega
    · rw [if_neg hi] at hf; have := s.wf.dom i f hf; omega
  · intro i h1 h2
    simp only [Sg.add]
    simp at h1
    rw [if_neg (by omega)]
    exact s.wf.free i (by omega) h2
  · intro i f hf
    simp only [Sg.add] at hf
    by_cases hi : i = h.next
    · subst hi; rw [if_pos rfl] at hf; injection hf with hf; subst hf
      constructor <;> intro <;> omega
    · rw [if_neg hi] at hf; exact s.wf.low i f hf
  · intro i j f g hf hg hbi hbj hdi hdj hij
    simp only [Sg.add] at hf hg hdi hdj
    by_cases hi : i = h.next
    · by_cases hj : j = h.next
      · omega
      · rw [if_pos hi] at hf; rw [if_neg hj] at hg
        injection hf with hf; subst hf
        have := s.wf.dom j g hg
        omega
    · by_cases hj : j = h.next
      · rw [if_neg hi] at hf; rw [if_pos hj] at hg
        injection hg with hg; subst hg
        have := s.wf.dom i f hf
        omega
      · rw [if_neg hi] at hf; rw [if_neg hj] at hg
        exact s.wf.inj i j f g hf hg hbi hbj hdi hdj hij
  · intro i hi
    cases hm : S.m i with
    | none => exact absurd hm (s.wf.dd i hi)
    | some f => rw [hx i f hm]; simp
  · intro i f p hf hp
    rw [H.get_new] at hp
    by_cases hi : i = h.next
    · subst hi
      rw [Sg.add_self] at hf
      injection hf with hf
      subst hf
      rw [if_pos rfl] at hp
      injection hp with hp
      subst hp
      exact ⟨ho, fun _ => hd⟩
    · rw [if_neg (fun e => hi e.symm)] at hp
      have hf' : S.m i = some f := by simpa [Sg.add, hi] using hf
      obtain ⟨h1, h2⟩ := s.obj i f p hf' hp
      exact ⟨h1.mono hx (hold _ (s.wf.dom i f hf')), h2⟩
  · intro i hi
    simp at hi
    rw [H.get_new, if_neg (by omega)]
    exact s.hw i (by omega)
  · intro i f hf hni
    simp only [Sg.add] at hf
    by_cases hi : i = h.next
    · subst hi; rw [if_pos rfl] at hf; injection hf with hf; subst hf; exact ⟨Nat.le_refl _, by simp, .inl (by omega)⟩
    · rw [if_neg hi, hni] at hf; cases hf
  · intro i f hf hi
    simp at hi
    have : i ≠ h.next := by rintro rfl; rw [hn] at hf; cases hf
    omega

end

/-- The number of draws never falls; it may fall. -/
@[reducible] def strict : Lax := ⟨False⟩
@[reducible] def lax : Lax := ⟨True⟩

/-! A call from nothing. -/

omit [Lax] in
theorem Gives.calls {P : Program} {f : FuncId} {args : Array Value} {w : World} {G : Value → World → Prop} (he : Enters P f) (h : Gives P f args w G) : Calls P f args w fun e w' => ∃ v, e = .returned v ∧ G v w' := by
  rcases h with ⟨_, h2⟩ | ⟨v, w', h1, _⟩
  · exact h2
  · rw [run_callFunc_enters he] at h1; cases h1

def S0 : Sg := ⟨fun _ => none, fun _ => False⟩
def h0 : H := ⟨.leaf, 0, 0⟩

omit [Lax] in
theorem sim0 (w : World) (f : Nat) : Sim ⟨0, w.heap.size, f⟩ S0 h0 w :=
  ⟨⟨fun _ _ h => (by cases h), fun _ _ _ => rfl, fun _ _ h => (by cases h), fun _ _ _ _ h => (by cases h), Nat.le_refl _, fun _ h => h.elim⟩, fun _ _ _ h => (by cases h), Nat.le_refl _, Nat.le_refl _, fun _ _ => rfl⟩

omit [Lax] in
theorem not_owns0 (b : Nat) : ¬ Owns S0 h0 b := by
  rintro ⟨j, f, h1, _⟩; cases h1

theorem lone_calls {P : Program} {call : CallF} (ok : CallsOK P call) {f : FuncId} (he : Enters P f) {args : List DV} {d : DV} {h' : H} (hc : call f args h0 = some (d, h')) {args' : Array Value}
    (hv : VRs S0.m args args'.toList) (w : World) : Calls P f args' w fun e w' => (∃ v σ, e = .returned v ∧ VR σ d v) ∧ w'.os = w.os ∧ Tp w w' ∧ w'.output = w.output ∧ w.heap.size ≤ w'.heap.size ∧ ∀ b, b < w.heap.size → w'.heap[b]? = w.heap[b]? := by
  have := (ok f args h0 d h' hc).2 ⟨0, w.heap.size, h'.next⟩ S0 w args' (sim0 w _) (Nat.le_refl _) hv
  refine (Gives.calls he this).mono ?_
  rintro e w' ⟨v, rfl, S', hvr, hs, hp⟩
  exact ⟨⟨v, _, rfl, hvr⟩, hp.fr.os, hp.fr.tape, hp.fr.output, hp.fr.size, fun b hb => hp.fr.blk b hb (not_owns0 b)⟩

theorem grow_of {w w' : World} (hL : ¬ Lax.p) (h1 : w'.os = w.os) (h2 : Tp w w') (h3 : w'.output = w.output) (h4 : w.heap.size ≤ w'.heap.size) (h5 : ∀ b, b < w.heap.size → w'.heap[b]? = w.heap[b]?) :
    ∃ q os', w' = Go.Sort.grow (w.drewN q) os' := by
  refine ⟨w'.drawn - w.drawn, w'.heap.extract w.heap.size w'.heap.size, ?_⟩
  have hh : w'.heap = w.heap ++ w'.heap.extract w.heap.size w'.heap.size := by
    apply Array.ext_getElem?
    intro i
    by_cases hi : i < w.heap.size
    · rw [h5 i hi, Array.getElem?_append_left hi]
    · rw [Array.getElem?_append_right (by omega), Array.getElem?_extract]
      by_cases hj : i < w'.heap.size
      · rw [if_pos (by simp; omega)]; congr 1; omega
      · rw [if_neg (by simp; omega), Array.getElem?_eq_none (by omega)]
  cases w; cases w'
  simp only [Go.Sort.grow, World.drewN] at *
  obtain ⟨e1, e2⟩ := h2
  replace e2 := e2.resolve_left hL
  simp only at e1 e2
  subst h1; subst e1; subst h3
  simp only [World.mk.injEq, true_and, and_true]
  exact ⟨hh, by omega⟩
end Go.D
