/-
  The table with its oracles; a call from nothing, evaluated by the kernel: the statement's walk. The result that is owed behind a call that turns nothing.
-/
import Derived.Test.YtfphfbfjmpbohaaGreatSBKe
import Derived.Test.YtfphfbfjmpbohaaGreatSBKw
import Derived.Test.YtfphfbfjmpbohaaGreatSC
import Derived.Test.YtfphfbfjmpbohaaGreatDKb
import Derived.Below
import Derived.ChangeSame
namespace Go.Proofs.YtfphfbfjmpbohaaGreat
open Go Go.D Go.RowKit Go.WideShapes Go.ChangeShapes

def oraT (f : FuncId) : Option (List DV → H → Option (DV × H)) :=
  bif Nat.beq f 78 then some (sortedOra 123 80 3 wfE) else
  bif Nat.beq f 92 then some (sortedOra 144 94 7 wfK) else
  bif Nat.beq f 191 then some indexOra else none
noncomputable abbrev cfgT : Cfg := cfgO oraT

attribute [local instance] lax

theorem okT : @CfgOK lax Tryz.prog cfgT := by
  refine @CfgOK.mk lax _ _ (@ttT_ok lax) mixedT fnT_ok ?_
  intro f g hg args h d h' ho
  simp only [oraT] at hg
  cases h1 : Nat.beq f 78 with
  | true =>
    rw [h1] at hg; simp only [cond_true, Option.some.injEq] at hg; subst hg
    rw [Nat.eq_of_beq_eq_true h1]
    exact Ke.ora_ok args h d h' ho
  | false =>
    rw [h1] at hg; simp only [cond_false] at hg
    cases h2 : Nat.beq f 92 with
    | true =>
      rw [h2] at hg; simp only [cond_true, Option.some.injEq] at hg; subst hg
      rw [Nat.eq_of_beq_eq_true h2]
      exact Kw.ora_ok args h d h' ho
    | false =>
      rw [h2] at hg; simp only [cond_false] at hg
      cases h3 : Nat.beq f 191 with
      | true =>
        rw [h3] at hg; simp only [cond_true, Option.some.injEq] at hg; subst hg
        rw [Nat.eq_of_beq_eq_true h3]
        exact index_ok args h d h' ho
      | false => rw [h3] at hg; cases hg

/-- Is an answer true? -/
def isTrue : DV → H → Bool
  | .bool b, _ => b
  | _, _ => false

/-- A call from nothing that answers true. -/
theorem true_calls {n : Nat} {f : FuncId} (he : Go.D.Enters Tryz.prog f) {args : List DV} (hk : K.call cfgT n f args h0 isTrue false = true) {args' : Array Value} (hv : VRs S0.m args args'.toList) (w : World) :
    Calls Tryz.prog f args' w fun e w' => e = .returned (.bool true) ∧ Below w.heap.size w w' := by
  obtain ⟨d, h', hc, ht⟩ := K.call_true isTrue hk
  refine (lone_calls (callsOK okT n) he hc hv w).mono ?_
  rintro e w' ⟨⟨v, σ, rfl, hvr⟩, h1, h2, h3, h4, h5⟩
  cases d with
  | bool b =>
    simp only [isTrue] at ht
    subst ht
    simp only [VR] at hvr
    subst hvr
    exact ⟨rfl, h1, h2.eq, h3, h4, h5⟩
  | _ => simp [isTrue] at ht

/-- What is owed behind a call that turns nothing of what was there. -/
theorem owed {Hh : Type} {en : TypeId × Value → Hh} {P : Program} {f : Func} {s : ChangeSpec} {apart fresh handsOn again : Bool} {W W' : World} {args : Array Value} {v : Value} {ds gs : List (DataW Hh)} {before pa pv : List MemPlace}
    (hW : DataW.Whole en P f.params.toList s.vars apart W args.toList ds gs before) (hb : Below W.heap.size W W')
    (r : ∀ (b : Nat) (sp : Nat → Bool) (hd : Bool), DataW.TrodAll en P W' b sp hd f.resultTypes.toList (v.resultList f.resultTypes.size) (s.fn Hh (ds ++ gs)).results [])
    (a : ∀ sp : Nat → Bool, (∀ p ∈ before, sp p.block = true) → DataW.TrodAll en P W' 0 sp true f.params.toList args.toList (s.fn Hh (ds ++ gs)).args pa)
    (g : ∀ sp : Nat → Bool, (∀ p ∈ before, sp p.block = true) → DataW.TrodVars en P W' sp s.vars (s.fn Hh (ds ++ gs)).vars pv) (hp : before = pa ++ pv)
    (o : ∀ (j : Nat) (t : TypeId) (x : Value), f.resultTypes[j]? = some t → (v.resultList f.resultTypes.size)[j]? = some x → Value.okWide P W' .any 0 t x) : s.post en P f apart fresh handsOn again W args v W' := by
  have below : ∀ p ∈ before, p.block < W.heap.size := fun p q => hW.lt p q
  have sp0 : ∀ p ∈ before, decide (p.block < W.heap.size) = true := fun p q => decide_eq_true (below p q)
  refine ⟨ds, gs, before, [], pa, pv, hW, r _ _ _, a (fun b => decide (b < W.heap.size)) sp0, g (fun b => decide (b < W.heap.size)) sp0, World.keptBut_mono (fun p q => ⟨q, ?_⟩) (hb.frame (· ∈ before)), fun _ => ?_⟩
  · rw [hp, List.mem_append] at q
    exact .inr q
  · obtain ⟨_, _, _, _, _, fz, nd⟩ := hW
    refine ⟨o, _, _, ([] ++ pa) ++ pv, ⟨[] ++ pa, pv, trodAll_append (a _ fun _ _ => rfl) (r _ _ _), g _ fun _ _ => rfl, rfl, fun b off q => ?_, fun q => by simpa [hp] using nd q⟩, fun p q _ => by simpa [hp] using q⟩
    have q' : MemPlace.cell b off ∈ before := by simpa [hp] using q
    rw [hb.frozen (below _ q')]
    exact fz b off q'
end Go.Proofs.YtfphfbfjmpbohaaGreat
