/-
  D's operations that touch no memory are the model's: operators, conversions of numbers, building, indexes, slices, assertions.
-/
import Derived.Test.YtfphfbfjmpbohaaGreatDP
namespace Go.D
variable [Lax]

def offPair : Value → Value → Prop
  | .int _ _, .int _ _ => False
  | .float _ _, .float _ _ => False
  | .complex _ _ _, .complex _ _ _ => False
  | .string _, .string _ => False
  | _, _ => True

omit [Lax] in
theorem binOp_eql {t : TypeId} {x y : Value} (h : offPair x y) : binOp .eql t x y = (do pure (.bool (← Op.equal t x y))) := by
  unfold binOp
  cases x <;> cases y <;> first | rfl | exact h.elim
omit [Lax] in
theorem binOp_neq {t : TypeId} {x y : Value} (h : offPair x y) : binOp .neq t x y = (do pure (.bool (!(← Op.equal t x y)))) := by
  unfold binOp
  cases x <;> cases y <;> first | rfl | exact h.elim

def _root_.Go.Value.tag : Value → Nat
  | .bool _ => 0 | .int _ _ => 1 | .float _ _ => 2 | .complex _ _ _ => 3 | .string _ => 4 | .pointer _ => 5 | .slice _ _ _ => 6 | .map _ => 7 | .chan _ => 8
  | .func _ _ _ => 9 | .nilFunc => 10 | .iface _ _ => 11 | .nilIface => 12 | .agg _ => 13 | .tuple _ => 14
def DV.tag : DV → Nat
  | .bool _ => 0 | .int _ _ => 1 | .str _ => 4 | .ptr _ => 5 | .slice _ _ _ _ => 6 | .map _ => 7
  | .func _ _ => 9 | .nilFunc => 10 | .iface _ _ => 11 | .nilIface => 12 | .agg _ => 13 | .tup _ => 14

omit [Lax] in
theorem VR.tag {σ : Nat → Option SE} {d : DV} {v : Value} (h : VR σ d v) : v.tag = d.tag := by
  cases d with
  | agg cs => simp only [VR] at h; obtain ⟨a, rfl, _⟩ := h; rfl
  | tup cs => simp only [VR] at h; obtain ⟨a, rfl, _⟩ := h; rfl
  | bool b => simp only [VR] at h; subst h; rfl
  | int k n => simp only [VR] at h; subst h; rfl
  | str s => simp only [VR] at h; obtain ⟨b, rfl, hb⟩ := h; rfl
  | ptr a => cases a with
    | none => simp only [VR] at h; subst h; rfl
    | some r => simp only [VR] at h; obtain ⟨e, he, rfl⟩ := h; rfl
  | slice a len cap sz => cases a with
    | none => simp only [VR] at h; obtain ⟨_, _, rfl⟩ := h; rfl
    | some r => simp only [VR] at h; obtain ⟨e, o, c, he, rfl, _⟩ := h; rfl
  | map r => cases r with
    | none => simp only [VR] at h; subst h; rfl
    | some r => simp only [VR] at h; obtain ⟨e, he, rfl⟩ := h; rfl
  | func f caps => simp only [VR] at h; obtain ⟨a, rfl, _⟩ := h; rfl
  | nilFunc => simp only [VR] at h; subst h; rfl
  | iface t d => simp only [VR] at h; obtain ⟨x, rfl, _⟩ := h; rfl
  | nilIface => simp only [VR] at h; subst h; rfl

omit [Lax] in
theorem offPair_of {x y : DV} {x' y' : Value} {σ : Nat → Option SE} (hx : VR σ x x') (hy : VR σ y y') (hi : ∀ k a k' b, x = .int k a → y = .int k' b → False)
    (hs : ∀ a b, x = .str a → y = .str b → False) : offPair x' y' := by
  have tx := hx.tag
  have ty := hy.tag
  cases x' <;> cases y' <;> first | trivial | skip
  all_goals
    cases x <;> simp [DV.tag, Value.tag] at tx
  all_goals
    cases y <;> simp [DV.tag, Value.tag] at ty
  · exact hi _ _ _ _ rfl rfl
  · exact hs _ _ rfl rfl

section
variable {P : Program} {T : TT} (ok : TTok P T) {σ : Nat → Option SE}

omit [Lax] in
theorem intOp_ok {op : BinOp} {t : TypeId} {k : IntKind} {a b : Int} {d : DV} (h : intOp op k a b = some d) :
    ∃ v, (∀ w, (binOp op t (.int k a) (.int k b)).run P w = .ok v w) ∧ VR σ d v := by
  cases op <;> simp only [intOp, Option.some.injEq] at h
  case quo =>
    split at h
    · cases h
    · rename_i hb; simp at h; subst h; exact ⟨.int k (k.wrap (a.tdiv b)), fun w => by simp [binOp, Op.intDiv, hb], by simp [VR]⟩
  case rem =>
    split at h
    · cases h
    · rename_i hb; simp at h; subst h; exact ⟨.int k (a.tmod b), fun w => by simp [binOp, Op.intDiv, hb], by simp [VR]⟩
  case shl => cases h
  case shr => cases h
  all_goals subst h
  all_goals refine ⟨_, fun w => by simp only [binOp, ne_eq, not_true_eq_false, if_false, Op.intArith, Op.intBits, Op.intCmp]; rfl, by simp [VR]⟩

omit [Lax] in
theorem shiftOp_ok {op : BinOp} {t : TypeId} {k k' : IntKind} {a b : Int} {d : DV} (h : shiftOp op k a b = some d) :
    ∃ v, (∀ w, (binOp op t (.int k a) (.int k' b)).run P w = .ok v w) ∧ VR σ d v := by
  unfold shiftOp at h
  split at h
  · cases h
  · rename_i hb
    cases op <;> simp at h
    all_goals subst h
    all_goals refine ⟨_, fun w => by simp only [binOp, Op.shift, if_neg hb]; rfl, by simp [VR]⟩

omit [Lax] in
theorem strOp_ok {op : BinOp} {t : TypeId} {a b : ByteArray} {d : DV} (h : strOp op a.data.toList b.data.toList = some d) :
    ∃ v, (∀ w, (binOp op t (.string a) (.string b)).run P w = .ok v w) ∧ VR σ d v := by
  cases op <;> simp only [strOp, Option.some.injEq, reduceCtorEq] at h
  case add =>
    split at h
    · rename_i hl
      simp at h; subst h
      have e : ¬ (9223372036854775807 < (a.size : Int) + (b.size : Int)) := by
        have h1 : a.data.toList.length = a.size := by rw [Array.length_toList]; rfl
        have h2 : b.data.toList.length = b.size := by rw [Array.length_toList]; rfl
        rw [h1, h2] at hl
        have hm : most = 1099511627776 := by decide
        rw [hm] at hl
        omega
      refine ⟨.string (a ++ b), fun w => ?_, ?_⟩
      · have e' : ¬ (((a.size + b.size : Nat) : Int) > IntKind.i64.max) := by
          have h64 : IntKind.i64.max = 9223372036854775807 := by decide
          rw [h64]; omega
        simp only [binOp, Op.stringOp, if_neg e']; rfl
      · simp only [VR]; exact ⟨_, rfl, by simp [ByteArray.data_append]⟩
    · cases h
  all_goals subst h
  all_goals refine ⟨_, fun w => by simp only [binOp, Op.stringOp]; rfl, ?_⟩
  all_goals simp [VR, ByteArray.toList_eq]

include ok

omit [Lax] in
theorem bin_ok {op : BinOp} {t : TypeId} {xo yo : Operand} {x y d : DV} {x' y' : Value} (h : binD T op t x y = some d) (hx : VR σ x x') (hy : VR σ y y') :
    ∃ v, (∀ w, ((do eqGuard op t xo yo x' y'; binOp op t x' y') : Sem Value).run P w = .ok v w) ∧ VR σ d v := by
  have guard : (x.isNilIface && y.isNilIface) = false → (x.isAgg = true → T.cmp t = true) → ∀ w, (eqGuard op t xo yo x' y').run P w = .ok () w := by
    intro h1 h2 w
    have tx := hx.tag
    have ty := hy.tag
    unfold eqGuard
    cases op <;> first | (simp; done) | skip
    all_goals
      cases x' <;> cases y' <;> first | (simp; done) | skip
      · cases x <;> simp [DV.tag, Value.tag] at tx
        cases y <;> simp [DV.tag, Value.tag] at ty
        simp [DV.isNilIface] at h1
      · cases x <;> simp [DV.tag, Value.tag] at tx
        simp [(ok.cmp t (h2 rfl)).2]
  unfold binD at h
  split at h
  · rename_i k a k' b
    simp only [VR] at hx hy; subst hx; subst hy
    have g := guard rfl (fun e => by cases e)
    split at h
    · obtain ⟨v, hv, hr⟩ := shiftOp_ok (P := P) (σ := σ) (t := t) (k' := k') h
      exact ⟨v, fun w => by simp [g, hv], hr⟩
    · obtain ⟨v, hv, hr⟩ := shiftOp_ok (P := P) (σ := σ) (t := t) (k' := k') h
      exact ⟨v, fun w => by simp [g, hv], hr⟩
    · split at h
      · rename_i hk; subst hk
        obtain ⟨v, hv, hr⟩ := intOp_ok (P := P) (σ := σ) (t := t) h
        exact ⟨v, fun w => by simp [g, hv], hr⟩
      · cases h
  · rename_i a b
    have g := guard rfl (fun e => by cases e)
    simp only [VR] at hx hy; obtain ⟨p, rfl, rfl⟩ := hx; obtain ⟨q, rfl, rfl⟩ := hy
    obtain ⟨v, hv, hr⟩ := strOp_ok (P := P) (σ := σ) (t := t) h
    exact ⟨v, fun w => by simp [g, hv], hr⟩
  · rename_i hni hns
    split at h
    · cases h
    · rename_i hn
      split at h
      · cases h
      · rename_i ha
        have hoff : offPair x' y' := offPair_of hx hy hni hns
        have g := guard (by simpa using hn) (fun e => by simpa [e] using ha)
        split at h
        · simp only [Option.map_eq_some_iff] at h
          obtain ⟨b, hb, rfl⟩ := h
          have he := eq_ok ok _ hb hx hy
          exact ⟨.bool b, fun w => by simp only [Sem.run_bind, g, Result.andThen_ok, binOp_eql hoff, Op.equal, he, Sem.run_pure], by simp [VR]⟩
        · simp only [Option.map_eq_some_iff] at h
          obtain ⟨b, hb, rfl⟩ := h
          have he := eq_ok ok _ hb hx hy
          exact ⟨.bool (!b), fun w => by simp only [Sem.run_bind, g, Result.andThen_ok, binOp_neq hoff, Op.equal, he, Sem.run_pure], by simp [VR]⟩
        · cases h

omit ok in
omit [Lax] in
theorem un_ok {op : UnOp} {x d : DV} {x' : Value} (h : unD op x = some d) (hx : VR σ x x') : ∃ v, (∀ w, (Op.unary op x').run P w = .ok v w) ∧ VR σ d v := by
  unfold unD at h
  split at h
  · rename_i k n; simp only [VR] at hx; subst hx; injection h with h; subst h
    exact ⟨.int k (k.wrap (0 - n)), fun w => by simp only [Op.unary, Op.intArith]; rfl, by simp [VR]⟩
  · rename_i k n; simp only [VR] at hx; subst hx; injection h with h; subst h
    refine ⟨_, fun w => by simp only [Op.unary, Op.intBits]; rfl, by simp [VR]⟩
  · rename_i b; simp only [VR] at hx; subst hx; injection h with h; subst h
    exact ⟨.bool (!b), fun w => by simp [Op.unary], by simp [VR]⟩
  · cases h

end
end Go.D
