/-
  templetop.TopEmpty: at every input (there are four) the call returns true, and nothing that was there is turned. Without conditions.
-/
import Derived.Test.YtfphfbfjmpbohaaGreatRows
import Derived.Test.YtfphfbfjmpbohaaGreatTE0
import Derived.Test.YtfphfbfjmpbohaaGreatTE1
import Derived.Test.YtfphfbfjmpbohaaGreatTE2
import Derived.Test.YtfphfbfjmpbohaaGreatTE3
import Derived.WalkKit
import Derived.ProofKit
import Derived.OpenShut
namespace Go.Proofs.YtfphfbfjmpbohaaGreat.topEmpty
open Go.ChangeShapes Go.WideShapes Go.ChangeAt Go.RowKit Go.D
set_option linter.unusedVariables false

theorem own : ownKnob Tryz.prog.godebug = none := by kernel_rfl

attribute [local instance] lax

theorem walk (a0 : Bool) (a1 : Bool) (w : World) :
    Calls Tryz.prog 5 #[.bool a0, .bool a1] w fun e w' => e = .returned (.bool true) ∧ Go.RowKit.Below w.heap.size w w' := by
  have he : Go.D.Enters Tryz.prog 5 := ⟨_, Tryz.func5, rfl, rfl⟩
  have hv : ∀ b c : Bool, VRs S0.m [.bool b, .bool c] (#[.bool b, .bool c] : Array Value).toList := fun b c => .cons (by simp [VR]) (.one (by simp [VR]))
  cases a0 <;> cases a1
  · exact true_calls he topEmpty_0 (hv _ _) w
  · exact true_calls he topEmpty_1 (hv _ _) w
  · exact true_calls he topEmpty_2 (hv _ _) w
  · exact true_calls he topEmpty_3 (hv _ _) w

/-! ### THE ROW's STEP: WRITTEN OUT: LEAVE IT -/
set_option maxRecDepth 100000 in
theorem lifted (os : Os) (started : os.Started) (H : Type) (enc : TypeId × Value → H) :
    ReturnsInHanded {} Tryz.checked os 5 .any (Rows.topEmptySpec.pre6 enc Tryz.prog Tryz.f5 Rows.topEmptyRow.domain false) (Rows.topEmptySpec.post enc Tryz.prog Tryz.f5 false true false false) := by
  refine returnsInHanded_of_change (C := Tryz.checked) own started (by kernel_rfl) Tryz.func5
    (ChangeSpec.witness6 (enc := enc) (C := Tryz.checked) false ⟨#[], #[.bool false, .bool false], []⟩ 8 (by kernel_rfl) (by kernel_rfl) (by kernel_rfl) (by kernel_rfl)) ?_
  intro W base args ds gs before hval0 hW hcnd _
  have hval : ∀ (j : Nat) t v, Tryz.f5.params[j]? = some t → args[j]? = some v → Value.okWide Tryz.prog W .any base t v := hval0
  have hW' := hW
  obtain ⟨p, q, hA0, hV, rfl, hfz, hnd⟩ := hW
  have hA : DataW.TrodAll enc Tryz.prog W 0 (fun _ => true) true Tryz.f5.params.toList args.toList ds p := hA0
  rw [Tryz.params5] at hA hval
  obtain ⟨v0, vs0, d0, ds0, p0, q0, hargs, rfl, rfl, h0, r0⟩ := trodAll_cons hA
  obtain ⟨v1, vs1, d1, ds1, p1, q1, rfl, rfl, rfl, h1, r1⟩ := trodAll_cons r0
  obtain ⟨rfl, rfl, rfl⟩ := trodAll_nil r1
  obtain rfl : args = #[v0, v1] := by cases args; simp_all
  obtain ⟨rfl, rfl⟩ := trodVars_none hV
  obtain ⟨a0, rfl, rfl, rfl⟩ := open_bool Tryz.underlying4 (hval 0 4 v0 rfl rfl) h0
  obtain ⟨a1, rfl, rfl, rfl⟩ := open_bool Tryz.underlying4 (hval 1 4 v1 rfl rfl) h1
  clear hA0 hval0
  simp only [List.append_nil] at hW'
  refine (walk a0 a1 W).mono fun e W' ⟨he, hg⟩ => ?_
  subst he
  exact ⟨_, rfl, owed (pa := []) (pv := []) hW' hg (fun _ _ _ => (trodAll_cons_mk (shut_bool Tryz.underlying4 _) trodAll_mk0)) (fun sp _ => (trodAll_cons_mk (shut_bool Tryz.underlying4 _) (trodAll_cons_mk (shut_bool Tryz.underlying4 _) trodAll_mk0))) (fun _ _ => rfl) rfl
    (ok_one (by kernel_rfl) rfl (okWide_bool_mk Tryz.underlying4 _))⟩

theorem over : Rows.topEmptyRow.holds Tryz.pinned (OpenSpec.ofChange Rows.topEmptySpec) :=
  OpenClaim.holds_of_wide 5 Tryz.f5 rfl rfl rfl rfl rfl rfl rfl ⟨rfl, rfl, rfl, rfl, rfl⟩ rfl rfl rfl rfl rfl (by kernel_rfl) Tryz.func5 (by kernel_rfl)
    (of_decide_eq_true (by kernel_rfl)) (by unfold Func.isWrapper; first | (rw [if_pos (by decide +kernel)]; kernel_rfl) | (rw [if_neg (by decide +kernel)]; exact ⟨rfl, rfl⟩))
    (fun os started H enc _ => lifted os started H enc)

/-- ████ THE STATEMENT ████ -/
theorem proved : Rows.TopEmptySaid :=
  over
end Go.Proofs.YtfphfbfjmpbohaaGreat.topEmpty
