/-
  The relation between D's heap and the model's world: what a step may turn; new objects, stores.
-/
import Derived.Test.YtfphfbfjmpbohaaGreatDR
import Derived.Laws.AppendOwn
import Derived.Laws.IdiomCopy
namespace Go.D

/-- Objects below n came in: they lie in the blocks below k, and may share them. The numbers up to f are free for what is made. -/
structure Bd where
  n : Nat
  k : Nat
  f : Nat

/-- Where objects lie; which are dead. -/
structure Sg where
  m : Nat → Option SE
  dead : Nat → Prop

def MR (σ : Nat → Option SE) : List (DV × DV) → List MapEntry → Prop
  | [], l => l = []
  | e :: es, l => ∃ x xs, l = x :: xs ∧ VR σ e.1 x.key ∧ VR σ e.2 x.val ∧ MR σ es xs

theorem MR.mono {σ τ : Nat → Option SE} (hx : Ext σ τ) : ∀ {es : List (DV × DV)} {l : List MapEntry}, MR σ es l → MR τ es l
  | [], _, h => h
  | _ :: _, _, h => by
    simp only [MR] at h ⊢
    obtain ⟨x, xs, hv, h1, h2, h3⟩ := h
    exact ⟨x, xs, hv, h1.mono hx, h2.mono hx, MR.mono hx h3⟩

/-- A map's stamps: below its clock, no two alike. -/
def Stamp (en : Array MapEntry) (cl : Nat) : Prop := (∀ x ∈ en.toList, x.born < cl) ∧ (en.toList.map (·.born)).Pairwise (· ≠ ·)

/-- An object and what lies in the world. -/
def ObjR (σ : Nat → Option SE) (w : World) (own : Prop) (e : SE) : DObj → Prop
  | .cells cs => ∃ c t lo hi, w.heap[e.k]? = some (.cells c t (lo, hi)) ∧ e.o + e.r ≤ c.size ∧ cs.length ≤ e.r ∧
      (∀ (i : Nat) (d : DV), cs[i]? = some d → ∃ v, c[e.o + i]? = some v ∧ VR σ d v) ∧ (own → lo ≠ hi → e.o + e.r ≤ lo)
  | .map es => e.o = 0 ∧ ∃ en cl, w.heap[e.k]? = some (.map en cl) ∧ MR σ es en.toList ∧ Stamp en cl
  | .dead => True

theorem ObjR.mono {σ τ : Nat → Option SE} {w w' : World} {own : Prop} {e : SE} {o : DObj} (hx : Ext σ τ) (hw : w'.heap[e.k]? = w.heap[e.k]?) (h : ObjR σ w own e o) : ObjR τ w' own e o := by
  cases o with
  | cells cs =>
    obtain ⟨c, t, lo, hi, h1, h2, h3, h4, h5⟩ := h
    exact ⟨c, t, lo, hi, hw.trans h1, h2, h3, fun i d hi => let ⟨v, hv, hr⟩ := h4 i d hi; ⟨v, hv, hr.mono hx⟩, h5⟩
  | map es =>
    obtain ⟨h0, en, cl, h1, h2, h3⟩ := h
    exact ⟨h0, en, cl, hw.trans h1, h2.mono hx, h3⟩
  | dead => trivial

def DObj.live : DObj → Prop
  | .dead => False
  | _ => True

/-- An object of D's heap is as it lies. -/
def ObjAt (B : Bd) (S : Sg) (h : H) (w : World) (i : Nat) : Prop := ∀ e o, S.m i = some e → h.get i = some o → ObjR S.m w (B.n ≤ i) e o ∧ (o.live → ¬ S.dead i)

structure Wf (B : Bd) (S : Sg) (N : Nat) (w : World) : Prop where
  dom : ∀ i e, S.m i = some e → e.k < w.heap.size
  free : ∀ i, N ≤ i → i < B.f → S.m i = none
  low : ∀ i e, S.m i = some e → (i < B.n ↔ e.k < B.k)
  inj : ∀ i j e f, S.m i = some e → S.m j = some f → B.n ≤ i → B.n ≤ j → ¬ S.dead i → ¬ S.dead j → i ≠ j → e.k ≠ f.k
  big : B.k ≤ w.heap.size
  dd : ∀ i, S.dead i → S.m i ≠ none

structure Sim (B : Bd) (S : Sg) (h : H) (w : World) : Prop where
  wf : Wf B S h.next w
  obj : ∀ i, ObjAt B S h w i
  lo : B.n ≤ h.ro
  hi : h.ro ≤ h.next
  hw : ∀ i, h.next ≤ i → h.get i = none

/-- May the number of draws fall? -/
class Lax where
  p : Prop
variable [Lax]

/-- The same tape, no fewer draws (but where that is not asked). -/
structure Tp (w w' : World) : Prop where
  eq : w'.tape = w.tape
  le : Lax.p ∨ w.drawn ≤ w'.drawn

theorem Tp.refl (w : World) : Tp w w := ⟨rfl, .inr (Nat.le_refl _)⟩
theorem Tp.trans {a b c : World} (q : Tp b c) (p : Tp a b) : Tp a c := ⟨q.eq.trans p.eq, by
  rcases p.le with h | h
  · exact .inl h
  · rcases q.le with k | k
    · exact .inl k
    · exact .inr (Nat.le_trans h k)⟩

/-- The blocks that may be written: those of live objects from ro on. -/
def Owns (S : Sg) (h : H) (b : Nat) : Prop := ∃ j f, S.m j = some f ∧ h.ro ≤ j ∧ j < h.next ∧ ¬ S.dead j ∧ f.k = b

structure Fr (w w' : World) (own : Nat → Prop) : Prop where
  os : w'.os = w.os
  tape : Tp w w'
  output : w'.output = w.output
  size : w.heap.size ≤ w'.heap.size
  blk : ∀ b, b < w.heap.size → ¬ own b → w'.heap[b]? = w.heap[b]?

/-- What a step turns. -/
structure Post (S : Sg) (h : H) (w : World) (S' : Sg) (h' : H) (w' : World) : Prop where
  ext : Ext S.m S'.m
  new : ∀ i e, S'.m i = some e → S.m i = none → h.next ≤ i ∧ i < h'.next ∧ (w.heap.size ≤ e.k ∨ Owns S h e.k)
  old : ∀ i e, S.m i = some e → i < h'.next → i < h.next
  deadm : ∀ i, S.dead i → S'.dead i
  deadn : ∀ i, S'.dead i → S.dead i ∨ (h.ro ≤ i ∧ i < h'.next ∧ S'.m i ≠ none)
  next : h.next ≤ h'.next
  ro : h'.ro = h.ro
  fr : Fr w w' (Owns S h)
  chg : ∀ i, i < h.next → h'.get i ≠ h.get i → S'.m i ≠ none

theorem Fr.refl (w : World) (own : Nat → Prop) : Fr w w own := ⟨rfl, Tp.refl w, rfl, Nat.le_refl _, fun _ _ _ => rfl⟩

theorem Post.refl (S : Sg) (h : H) (w : World) : Post S h w S h w :=
  ⟨Ext.refl _, fun i e h1 h2 => (by rw [h1] at h2; cases h2), fun _ _ _ h => h, fun _ h => h, fun _ h => .inl h, Nat.le_refl _, rfl, Fr.refl _ _, fun _ _ q => absurd rfl q⟩

/-- A world with the same memory. -/
structure Same (w w' : World) : Prop where
  os : w'.os = w.os
  tape : Tp w w'
  output : w'.output = w.output
  heap : w'.heap = w.heap

theorem Same.refl (w : World) : Same w w := ⟨rfl, Tp.refl w, rfl, rfl⟩

theorem Post.same {S : Sg} {h : H} {w w' : World} (s : Same w w') : Post S h w S h w' :=
  ⟨Ext.refl _, fun i e h1 h2 => (by rw [h1] at h2; cases h2), fun _ _ _ h => h, fun _ h => h, fun _ h => .inl h, Nat.le_refl _, rfl,
    ⟨s.os, s.tape, s.output, by rw [s.heap]; exact Nat.le_refl _, fun _ _ _ => by rw [s.heap]⟩, fun _ _ q => absurd rfl q⟩

theorem Owns.back {S S' : Sg} {h h' : H} {w w' : World} (p : Post S h w S' h' w') {b : Nat} (ho : Owns S' h' b) (hb : b < w.heap.size) : Owns S h b := by
  obtain ⟨j, f, hj, hr, hn, hd, rfl⟩ := ho
  cases hm : S.m j with
  | some e =>
    have := p.ext j e hm
    rw [this] at hj
    injection hj with hj
    subst hj
    refine ⟨j, e, hm, p.ro ▸ hr, ?_, fun hk => hd (p.deadm j hk), rfl⟩
    exact p.old j e hm hn
  | none =>
    rcases (p.new j f hj hm).2.2 with h1 | h1
    · omega
    · exact h1

theorem Post.trans {S S' S'' : Sg} {h h' h'' : H} {w w' w'' : World} (p : Post S h w S' h' w') (q : Post S' h' w' S'' h'' w'') : Post S h w S'' h'' w'' where
  ext := p.ext.trans q.ext
  new i e h1 h2 := by
    cases hm : S'.m i with
    | some f =>
      have h3 := q.ext i f hm
      rw [h1] at h3
      injection h3 with h3
      subst h3
      obtain ⟨a, b, c⟩ := p.new i e hm h2
      exact ⟨a, Nat.lt_of_lt_of_le b q.next, c⟩
    | none =>
      obtain ⟨a, b, c⟩ := q.new i e h1 hm
      refine ⟨Nat.le_trans p.next a, b, ?_⟩
      rcases c with c | c
      · exact .inl (Nat.le_trans p.fr.size c)
      · by_cases hb : e.k < w.heap.size
        · exact .inr (c.back p hb)
        · exact .inl (by omega)
  old i e h1 h2 := p.old i e h1 (q.old i e (p.ext i e h1) h2)
  deadm i hi := q.deadm i (p.deadm i hi)
  deadn i hi := by
    rcases q.deadn i hi with h1 | ⟨h1, h0, h2⟩
    · rcases p.deadn i h1 with h3 | ⟨h3, h5, h4⟩
      · exact .inl h3
      · refine .inr ⟨h3, Nat.lt_of_lt_of_le h5 q.next, ?_⟩
        cases hm : S'.m i with
        | none => exact absurd hm h4
        | some e => rw [q.ext i e hm]; simp
    · exact .inr ⟨p.ro ▸ h1, h0, h2⟩
  next := Nat.le_trans p.next q.next
  ro := q.ro.trans p.ro
  fr := ⟨q.fr.os.trans p.fr.os, q.fr.tape.trans p.fr.tape, q.fr.output.trans p.fr.output, Nat.le_trans p.fr.size q.fr.size, fun b hb ho =>
    (q.fr.blk b (Nat.lt_of_lt_of_le hb p.fr.size) (fun h1 => ho (h1.back p hb))).trans (p.fr.blk b hb ho)⟩
  chg i hi hne := by
    by_cases h1 : h'.get i = h.get i
    · exact q.chg i (Nat.lt_of_lt_of_le hi p.next) (by rw [h1]; exact hne)
    · have := p.chg i hi h1
      cases hm : S'.m i with
      | none => exact absurd hm this
      | some e => rw [q.ext i e hm]; simp

theorem Sim.same {B : Bd} {S : Sg} {h : H} {w w' : World} (s : Sim B S h w) (k : Same w w') : Sim B S h w' :=
  ⟨⟨fun i e he => by rw [k.heap]; exact s.wf.dom i e he, s.wf.free, s.wf.low, s.wf.inj, by rw [k.heap]; exact s.wf.big, s.wf.dd⟩,
    fun i e o he ho => ⟨ObjR.mono (Ext.refl _) (by rw [k.heap]) (s.obj i e o he ho).1, (s.obj i e o he ho).2⟩, s.lo, s.hi, s.hw⟩

/-! A new object. -/

def Sg.add (S : Sg) (n : Nat) (e : SE) : Sg := { m := fun i => if i = n then some e else S.m i, dead := S.dead }

omit [Lax] in
theorem Sg.add_ext {S : Sg} {n : Nat} {e : SE} (h : S.m n = none) : Ext S.m (S.add n e).m := by
  intro i f hf
  simp only [Sg.add]
  by_cases hi : i = n
  · subst hi; rw [h] at hf; cases hf
  · rw [if_neg hi]; exact hf

omit [Lax] in
theorem Sg.add_self (S : Sg) (n : Nat) (e : SE) : (S.add n e).m n = some e := by simp [Sg.add]

section new
variable {B : Bd} {S : Sg} {h : H} {w w' : World}

/-- A new object in a new block. -/
theorem Sim.new (s : Sim B S h w) (hF : h.next < B.f) (o : DObj) (e : SE) (x : Obj) (hos : w'.os = w.os) (htape : Tp w w') (hout : w'.output = w.output)
    (hheap : w'.heap = w.heap.push x) (hk : e.k = w.heap.size)
    (ho : ObjR (S.add h.next e).m w' (B.n ≤ h.next) e o) : Sim B (S.add h.next e) (h.new o) w' ∧ Post S h w (S.add h.next e) (h.new o) w' := by
  have hn : S.m h.next = Option.none := s.wf.free _ (Nat.le_refl _) hF
  have hx := Sg.add_ext (e := e) hn
  have hsz : w'.heap.size = w.heap.size + 1 := by rw [hheap]; simp
  have hold : ∀ b, b < w.heap.size → w'.heap[b]? = w.heap[b]? := fun b hb => by rw [hheap, Array.getElem?_push, if_neg (by omega)]
  have hd : ¬ S.dead h.next := fun hk => s.wf.dd _ hk hn
  have hlo := s.lo
  have hhi := s.hi
  have hbig := s.wf.big
  refine ⟨⟨⟨?_, ?_, ?_, ?_, by omega, ?_⟩, ?_, s.lo, Nat.le_succ_of_le s.hi, ?_⟩, ⟨hx, ?_, ?_, fun _ h => h, fun _ h => .inl h, Nat.le_succ _, rfl, ⟨hos, htape, hout, by omega, fun b hb _ => hold b hb⟩, fun i hi q => absurd (by rw [H.get_new, if_neg (by omega)]) q⟩⟩
  · intro i f hf
    simp only [Sg.add] at hf
    by_cases hi : i = h.next
    · subst hi; rw [if_pos rfl] at hf; injection hf with hf; subst hf; omega
    · rw [if_neg hi] at hf; have := s.wf.dom i f hf; omega
  · intro i h1 h2
    simp only [Sg.add]
    simp at h1
    rw [if_neg (by omega)]
    exact s.wf.free i (by omega) h2
  · intro i f hf
    simp only [Sg.add] at hf
    by_cases hi : i = h.next
    · subst hi; rw [if_pos rfl] at hf; injection hf with hf; subst hf
      constructor <;> intro <;> omega
    · rw [if_neg hi] at hf; exact s.wf.low i f hf
  · intro i j f g hf hg hbi hbj hdi hdj hij
    simp only [Sg.add] at hf hg hdi hdj
    by_cases hi : i = h.next
    · by_cases hj : j = h.next
      · omega
      · rw [if_pos hi] at hf; rw [if_neg hj] at hg
        injection hf with hf; subst hf
        have := s.wf.dom j g hg
        omega
    · by_cases hj : j = h.next
      · rw [if_neg hi] at hf; rw [if_pos hj] at hg
        injection hg with hg; subst hg
        have := s.wf.dom i f hf
        omega
      · rw [if_neg hi] at hf; rw [if_neg hj] at hg
        exact s.wf.inj i j f g hf hg hbi hbj hdi hdj hij
  · intro i hi
    cases hm : S.m i with
    | none => exact absurd hm (s.wf.dd i hi)
    | some f => rw [hx i f hm]; simp
  · intro i f p hf hp
    rw [H.get_new] at hp
    by_cases hi : i = h.next
    · subst hi
      rw [Sg.add_self] at hf
      injection hf with hf
      subst hf
      rw [if_pos rfl] at hp
      injection hp with hp
      subst hp
      exact ⟨ho, fun _ => hd⟩
    · rw [if_neg (fun e => hi e.symm)] at hp
      have hf' : S.m i = some f := by simpa [Sg.add, hi] using hf
      obtain ⟨h1, h2⟩ := s.obj i f p hf' hp
      exact ⟨h1.mono hx (hold _ (s.wf.dom i f hf')), h2⟩
  · intro i hi
    simp at hi
    rw [H.get_new, if_neg (by omega)]
    exact s.hw i (by omega)
  · intro i f hf hni
    simp only [Sg.add] at hf
    by_cases hi : i = h.next
    · subst hi; rw [if_pos rfl] at hf; injection hf with hf; subst hf; exact ⟨Nat.le_refl _, by simp, .inl (by omega)⟩
    · rw [if_neg hi, hni] at hf; cases hf
  · intro i f hf hi
    simp at hi
    have : i ≠ h.next := by rintro rfl; rw [hn] at hf; cases hf
    omega

/-- An object that is written. -/
theorem Sim.put (s : Sim B S h w) {i : Nat} {e : SE} {o o' : DObj} (he : S.m i = some e) (hi : h.ro ≤ i) (hg : h.get i = some o) (hl : o.live)
    (hos : w'.os = w.os) (htape : Tp w w') (hout : w'.output = w.output) (hsz : w'.heap.size = w.heap.size)
    (hblk : ∀ b, b ≠ e.k → w'.heap[b]? = w.heap[b]?) (ho : ObjR S.m w' (B.n ≤ i) e o') : Sim B S (h.put i o') w' ∧ Post S h w S (h.put i o') w' := by
  have hdead : ¬ S.dead i := (s.obj i e o he hg).2 hl
  have hbi : B.n ≤ i := Nat.le_trans s.lo hi
  have hin : i < h.next := by
    rcases Nat.lt_or_ge i h.next with q | q
    · exact q
    · rw [s.hw i q] at hg; cases hg
  refine ⟨⟨⟨fun j f hf => by rw [hsz]; exact s.wf.dom j f hf, s.wf.free, s.wf.low, s.wf.inj, by rw [hsz]; exact s.wf.big, s.wf.dd⟩, ?_, s.lo, s.hi, fun j hj => by rw [H.get_put, if_neg (by simp at hj; omega)]; exact s.hw j hj⟩,
    ⟨Ext.refl _, fun i e h1 h2 => (by rw [h1] at h2; cases h2), fun _ _ _ h => h, fun _ h => h, fun _ h => .inl h, Nat.le_refl _, rfl, ⟨hos, htape, hout, by omega, fun b hb hno => hblk b ?_⟩, fun j _ q => by
      rw [H.get_put] at q
      by_cases hij : i = j
      · subst hij; rw [he]; simp
      · rw [if_neg hij] at q; exact absurd rfl q⟩⟩
  · intro j f p hf hp
    rw [H.get_put] at hp
    by_cases hij : i = j
    · subst hij
      rw [if_pos rfl] at hp
      injection hp with hp
      subst hp
      rw [he] at hf
      injection hf with hf
      subst hf
      exact ⟨ho, fun _ => hdead⟩
    · rw [if_neg hij] at hp
      obtain ⟨h1, h2⟩ := s.obj j f p hf hp
      refine ⟨?_, h2⟩
      by_cases hp' : p.live
      · refine h1.mono (Ext.refl _) (hblk _ ?_)
        by_cases hbj : B.n ≤ j
        · exact s.wf.inj j i f e hf he hbj hbi (h2 hp') hdead (fun e => hij e.symm)
        · have h3 := (s.wf.low j f hf).1 (by omega)
          have h4 : ¬ e.k < B.k := fun h5 => by have := (s.wf.low i e he).2 h5; omega
          omega
      · cases p <;> simp [DObj.live] at hp'
        trivial
  · rintro rfl
    exact hno ⟨i, e, he, hi, hin, hdead, rfl⟩

def Sg.move (S : Sg) (n : Nat) (e : SE) (j : Nat) : Sg := { m := fun i => if i = n then some e else S.m i, dead := fun i => S.dead i ∨ i = j }

/-- An object that dies, its cells taken over by a new one (in the same block, or in a new one). -/
theorem Sim.move (s : Sim B S h w) (hF : h.next < B.f) {j : Nat} {f : SE} {p : DObj} (hf : S.m j = some f) (hj : h.ro ≤ j) (hp : h.get j = some p) (hpl : p.live) (o : DObj) (e : SE)
    (hos : w'.os = w.os) (htape : Tp w w') (hout : w'.output = w.output) (hsz : w.heap.size ≤ w'.heap.size) (hek : e.k < w'.heap.size)
    (hk : (e.k = f.k ∧ ∀ b, b ≠ f.k → w'.heap[b]? = w.heap[b]?) ∨ (e.k = w.heap.size ∧ ∀ b, b < w.heap.size → w'.heap[b]? = w.heap[b]?))
    (ho : ObjR (S.move h.next e j).m w' (B.n ≤ h.next) e o) :
    Sim B (S.move h.next e j) ((h.put j .dead).new o) w' ∧ Post S h w (S.move h.next e j) ((h.put j .dead).new o) w' := by
  have hn : S.m h.next = Option.none := s.wf.free _ (Nat.le_refl _) hF
  have hx : Ext S.m (S.move h.next e j).m := by
    intro i g hg
    simp only [Sg.move]
    by_cases hi : i = h.next
    · subst hi; rw [hn] at hg; cases hg
    · rw [if_neg hi]; exact hg
  have hd : ¬ S.dead h.next := fun hk => s.wf.dd _ hk hn
  have hjd : ¬ S.dead j := (s.obj j f p hf hp).2 hpl
  have hjn : j < h.next := by
    rcases Nat.lt_or_ge j h.next with q | q
    · exact q
    · rw [s.hw j q] at hp; cases hp
  have hbj : B.n ≤ j := Nat.le_trans s.lo hj
  have hfk : ¬ f.k < B.k := fun q => by have := (s.wf.low j f hf).2 q; omega
  have hfs := s.wf.dom j f hf
  have hbig := s.wf.big
  have hlo := s.lo
  have hhi := s.hi
  have hold : ∀ b, b < w.heap.size → b ≠ f.k → w'.heap[b]? = w.heap[b]? := fun b h1 h2 => by
    rcases hk with ⟨_, q⟩ | ⟨_, q⟩
    · exact q b h2
    · exact q b h1
  refine ⟨⟨⟨?_, ?_, ?_, ?_, by omega, ?_⟩, ?_, s.lo, by simp; omega, ?_⟩, ⟨hx, ?_, ?_, fun _ q => .inl q, ?_, by simp, rfl, ⟨hos, htape, hout, hsz, ?_⟩, fun i hi q => by
      rw [H.get_new, if_neg (by simp; omega), H.get_put] at q
      by_cases hij : j = i
      · subst hij; rw [hx _ f hf]; simp
      · rw [if_neg hij] at q; exact absurd rfl q⟩⟩
  · intro i g hg
    simp only [Sg.move] at hg
    by_cases hi : i = h.next
    · rw [if_pos hi] at hg; injection hg with hg; subst hg; exact hek
    · rw [if_neg hi] at hg; have := s.wf.dom i g hg; omega
  · intro i h1 h2
    simp only [Sg.move]
    simp at h1
    rw [if_neg (by omega)]
    exact s.wf.free i (by omega) h2
  · intro i g hg
    simp only [Sg.move] at hg
    by_cases hi : i = h.next
    · rw [if_pos hi] at hg; injection hg with hg; subst hg
      have : ¬ e.k < B.k := by rcases hk with ⟨q, _⟩ | ⟨q, _⟩ <;> omega
      constructor <;> intro <;> omega
    · rw [if_neg hi] at hg; exact s.wf.low i g hg
  · intro i l g g' hg hg' hbi hbl hdi hdl hil
    simp only [Sg.move, not_or] at hg hg' hdi hdl
    by_cases hi : i = h.next
    · by_cases hl : l = h.next
      · omega
      · rw [if_pos hi] at hg; rw [if_neg hl] at hg'
        injection hg with hg; subst hg
        have h1 := s.wf.dom l g' hg'
        rcases hk with ⟨q, _⟩ | ⟨q, _⟩
        · rw [q]; exact s.wf.inj j l f g' hf hg' hbj hbl hjd hdl.1 (fun e => hdl.2 e.symm)
        · omega
    · by_cases hl : l = h.next
      · rw [if_neg hi] at hg; rw [if_pos hl] at hg'
        injection hg' with hg'; subst hg'
        have h1 := s.wf.dom i g hg
        rcases hk with ⟨q, _⟩ | ⟨q, _⟩
        · rw [q]; exact s.wf.inj i j g f hg hf hbi hbj hdi.1 hjd hdi.2
        · omega
      · rw [if_neg hi] at hg; rw [if_neg hl] at hg'
        exact s.wf.inj i l g g' hg hg' hbi hbl hdi.1 hdl.1 hil
  · intro i hi
    simp only [Sg.move] at hi ⊢
    by_cases hin : i = h.next
    · rw [if_pos hin]; simp
    · rw [if_neg hin]
      rcases hi with hi | rfl
      · exact s.wf.dd i hi
      · rw [hf]; simp
  · intro i g q hg hq
    rw [H.get_new] at hq
    by_cases hi : i = h.next
    · subst hi
      simp only [Sg.move, if_true] at hg
      injection hg with hg
      subst hg
      rw [if_pos (by simp)] at hq
      injection hq with hq
      subst hq
      refine ⟨ho, fun _ hdd => ?_⟩
      simp only [Sg.move] at hdd
      rcases hdd with hdd | hdd
      · exact hd hdd
      · omega
    · rw [if_neg (by simp; exact fun e => hi e.symm), H.get_put] at hq
      have hg' : S.m i = some g := by simpa [Sg.move, hi] using hg
      by_cases hij : j = i
      · rw [if_pos hij] at hq
        injection hq with hq
        subst hq
        exact ⟨trivial, fun q => q.elim⟩
      · rw [if_neg hij] at hq
        obtain ⟨h1, h2⟩ := s.obj i g q hg' hq
        refine ⟨?_, fun ql hdd => ?_⟩
        · by_cases ql : q.live
          · refine h1.mono hx (hold _ (s.wf.dom i g hg') ?_)
            by_cases hbi : B.n ≤ i
            · exact s.wf.inj i j g f hg' hf hbi hbj (h2 ql) hjd (fun e => hij e.symm)
            · have := (s.wf.low i g hg').1 (by omega)
              omega
          · cases q <;> simp [DObj.live] at ql
            trivial
        · simp only [Sg.move] at hdd
          rcases hdd with hdd | hdd
          · exact h2 ql hdd
          · exact hij hdd.symm
  · intro i hi
    simp at hi
    rw [H.get_new, if_neg (by simp; omega), H.get_put, if_neg (by omega)]
    exact s.hw i (by omega)
  · intro i g hg hni
    simp only [Sg.move] at hg
    by_cases hi : i = h.next
    · subst hi; rw [if_pos rfl] at hg; injection hg with hg; subst hg
      refine ⟨Nat.le_refl _, by simp, ?_⟩
      rcases hk with ⟨q, _⟩ | ⟨q, _⟩
      · exact .inr ⟨j, f, hf, hj, hjn, hjd, q.symm⟩
      · exact .inl (by omega)
    · rw [if_neg hi, hni] at hg; cases hg
  · intro i g hg hi
    simp at hi
    have : i ≠ h.next := by rintro rfl; rw [hn] at hg; cases hg
    omega
  · intro i hi
    simp only [Sg.move] at hi ⊢
    rcases hi with hi | rfl
    · exact .inl hi
    · refine .inr ⟨hj, by simp; omega, ?_⟩
      rw [if_neg (by omega), hf]
      simp
  · intro b hb hno
    refine hold b hb ?_
    rintro rfl
    exact hno ⟨j, f, hf, hj, hjn, hjd, rfl⟩

omit [Lax] in
/-- Two heaps that read the same. -/
theorem Sim.read {h2 : H} (s : Sim B S h w) (hg : ∀ i, h2.get i = h.get i) (hn : h2.next = h.next) (hr : h2.ro = h.ro) : Sim B S h2 w :=
  ⟨⟨s.wf.dom, by rw [hn]; exact s.wf.free, s.wf.low, s.wf.inj, s.wf.big, s.wf.dd⟩, fun i e o he ho => s.obj i e o he (by rw [← hg]; exact ho), by rw [hr]; exact s.lo, by rw [hr, hn]; exact s.hi,
    fun i hi => by rw [hg]; exact s.hw i (by rw [← hn]; exact hi)⟩

theorem Post.read {S' : Sg} {h1 h2 : H} (p : Post S h w S' h1 w') (hg : ∀ i, h2.get i = h1.get i) (hn : h2.next = h1.next) (hr : h2.ro = h1.ro) : Post S h w S' h2 w' :=
  ⟨p.ext, fun i e q1 q2 => by rw [hn]; exact p.new i e q1 q2, fun i e q1 q2 => p.old i e q1 (by rw [← hn]; exact q2), p.deadm, fun i q => by rw [hn]; exact p.deadn i q, by rw [hn]; exact p.next, by rw [hr]; exact p.ro, p.fr,
    fun i q1 q2 => p.chg i q1 (by rw [← hg]; exact q2)⟩

end new

end Go.D
