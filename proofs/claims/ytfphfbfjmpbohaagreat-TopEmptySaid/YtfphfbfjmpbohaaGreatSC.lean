/-
  internal/bytealg.IndexByteString: the oracle is sound.
-/
import Derived.Test.YtfphfbfjmpbohaaGreatDVb
import Derived.Test.YtfphfbfjmpbohaaGreatDO
import Derived.Test.YtfphfbfjmpbohaaGreatProg
import Derived.Lib.Bytealg
import Derived.KernelRfl
namespace Go.Proofs.YtfphfbfjmpbohaaGreat
open Go Go.D

theorem indexB_eq (c : Int) (h0 : 0 ≤ c) (h1 : c < 256) : ∀ (s : List UInt8) (i : Nat), indexB c s i = if Lib.indexByte s c.toNat.toUInt8 == -1 then -1 else i + Lib.indexByte s c.toNat.toUInt8
  | [], i => by simp [indexB, Lib.indexByte]
  | b :: l, i => by
    have hb : (b == c.toNat.toUInt8) = decide ((b.toNat : Int) = c) := by
      rw [Bool.eq_iff_iff]
      simp only [beq_iff_eq, decide_eq_true_eq]
      constructor
      · rintro rfl
        simp
        omega
      · intro h
        rw [← h]
        simp
    have hg := Lib.indexByte_ge l c.toNat.toUInt8
    simp only [indexB, Lib.indexByte, hb, indexB_eq c h0 h1 l (i + 1)]
    by_cases hc : (b.toNat : Int) = c
    · simp [hc]
    · simp only [hc, if_false, decide_false, Bool.false_eq_true]
      by_cases hm : Lib.indexByte l c.toNat.toUInt8 = -1
      · simp [hm]
      · have h2 : ¬ (Lib.indexByte l c.toNat.toUInt8 + 1 = -1) := by omega
        simp [hm, h2]; omega

attribute [local instance] lax

theorem index_ok (args : List DV) (h : H) (d : DV) (h' : H) (ho : indexOra args h = some (d, h')) : @CallOK lax Tryz.prog 191 args h d h' := by
  unfold indexOra at ho
  split at ho
  · rename_i s c
    split at ho
    · rename_i hc
      injection ho with ho; injection ho with e1 e2; subst e1; subst e2
      refine ⟨RoK.refl _, fun B S w args' si hF hv => ?_⟩
      obtain ⟨v1, l1, ea, hv1, hv2⟩ := hv
      obtain ⟨v2, l2, eb, hv2, hv3⟩ := hv2
      subst eb
      simp only [VRs] at hv3
      subst hv3
      simp only [VR] at hv1 hv2
      obtain ⟨bs, rfl, hbs⟩ := hv1
      subst hv2
      obtain rfl : args' = #[.string bs, .int .u8 c] := Array.ext' ea
      refine .inr ⟨.int .i64 (indexB c s 0), w, ?_, S, by simp [VR], si, @Post.refl lax S h w⟩
      rw [run_callFunc_extern Tryz.func191 (by kernel_rfl) rfl (by kernel_rfl) (e := Extern.BytealgIndexByte.indexByte) (by kernel_rfl), Lib.run_indexByteString, hbs, indexB_eq c hc.1 hc.2]
      simp only [Result.andThen]
      by_cases hm : Lib.indexByte s c.toNat.toUInt8 = -1
      · simp [hm]
      · simp [hm]
    · cases ho
  · cases ho
end Go.Proofs.YtfphfbfjmpbohaaGreat
