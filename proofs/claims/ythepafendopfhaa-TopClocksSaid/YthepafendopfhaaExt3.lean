/- A region that draws its order, in which new blocks are made: its first n operations read, or call what reads and makes memory; then come operations that make a block each; all these in whatever order; the rest comes behind them in one forced order. One walk of the text's order serves every order: of the new blocks it knows that they are new, apart, and as made. No program. -/
import Derived.Test.YthepafendopfhaaExt2
import Derived.Test.YthepafendopfhaaLib
namespace Go.Proofs.Ythepafendopfhaa
open Go.RowKit
set_option linter.unusedVariables false

section
variable {P : Program} {ops : Array Oper} {md : Region.Mode} {w : World}

/-- At W the operation yields v, and all that lies in W stays. -/
def keepsAt (P : Program) (o : Oper) (a : Act) (W : World) (v : Value) : Prop := Oper.quietUpon P (fun w'' => Below W.heap.size W w'') W v ((execOp a.eval o).run P W)
def keeps (P : Program) (o : Oper) (a : Act) (w : World) (K : Act → Prop) : Prop := ∃ v, (∀ s : Ext w, keepsAt P o a s.to v) ∧ K (a.put o.dst v)
def wpKeep (P : Program) (ops : Array Oper) (w : World) (R : Act → Prop) : List Oper → Act → Prop
  | [], a => R a
  | o :: rest, a => if Region.wanted o (yielded ops a.tmps) then keeps P o a w (wpKeep P ops w R rest) else wpKeep P ops w R rest (a.put o.dst undef)
theorem wpKeep_nil {R : Act → Prop} {a : Act} (h : R a) : wpKeep P ops w R [] a := h
theorem wpKeep_step {R : Act → Prop} {a : Act} {o : Oper} {rest : List Oper}
    (h : ∀ K : Act → Prop, (∀ a, wpKeep P ops w R rest a → K a) → if Region.wanted o (yielded ops a.tmps) then keeps P o a w K else K (a.put o.dst undef)) : wpKeep P ops w R (o :: rest) a := h _ (fun _ h => h)

def YieldsK (P : Program) (ops : Array Oper) (w : World) (o : Oper) (v : Value) (a : Act) : Prop :=
  (Region.wanted o (yielded ops a.tmps) = true ∧ ∀ s : Ext w, keepsAt P o a s.to v) ∨ (Region.wanted o (yielded ops a.tmps) = false ∧ v = undef)
theorem YieldsK.of_same {o : Oper} {v : Value} {a a' : Act} (hy : YieldsK P ops w o v a) (he : execOp a'.eval o = execOp a.eval o) (hw : Region.wanted o (yielded ops a'.tmps) = Region.wanted o (yielded ops a.tmps)) : YieldsK P ops w o v a' := by
  unfold YieldsK keepsAt at *
  rw [he, hw]
  exact hy
theorem YieldsK.unput {x o : Oper} {v u : Value} {a : Act} (hs : ∀ cs b, o.op ≠ .select cs b) (h : ∀ d, x.dst = some d → d ∉ o.looksAt ops) (hy : YieldsK P ops w o v (a.put x.dst u)) : YieldsK P ops w o v a :=
  hy.of_same (execOp_put o hs a x.dst u h).symm (wanted_put o a x.dst u h).symm
theorem YieldsK.put {x o : Oper} {v u : Value} {a : Act} (hs : ∀ cs b, o.op ≠ .select cs b) (h : ∀ d, x.dst = some d → d ∉ o.looksAt ops) (hy : YieldsK P ops w o v a) : YieldsK P ops w o v (a.put x.dst u) :=
  hy.of_same (execOp_put o hs a x.dst u h) (wanted_put o a x.dst u h)

/-- The operation makes the block b. -/
def Allocs (P : Program) (ops : Array Oper) (o : Oper) (b : Obj) : Prop := ∀ (a : Act) (W : World), Region.wanted o (yielded ops a.tmps) = true ∧ (execOp a.eval o).run P W = .ok (.value (.pointer (some ⟨W.heap.size, 0, none⟩))) (W.alloc b)
abbrev Used := Nat → Obj → Prop
def Used.add (U : Used) (g : Nat) (b : Obj) : Used := fun g' b' => (g' = g ∧ b' = b) ∨ U g' b'
def Used.new (U : Used) (g : Nat) : Prop := ∀ b, ¬ U g b
theorem Used.add_comm (U : Used) (g h : Nat) (b c : Obj) : (U.add g b).add h c = (U.add h c).add g b := by
  funext x y
  exact propext (by unfold Used.add; exact or_left_comm)
theorem Used.new_add {U : Used} {g h : Nat} {b : Obj} : (U.add g b).new h ↔ h ≠ g ∧ U.new h := by
  constructor
  · intro H
    exact ⟨fun e => H b (.inl ⟨e, rfl⟩), fun c hc => H c (.inr hc)⟩
  · rintro ⟨h1, h2⟩ c (⟨e, _⟩ | hc)
    · exact h1 e
    · exact h2 c hc
def Used.ok (U : Used) (w W : World) : Prop := Below w.heap.size w W ∧ ∀ g b, U g b → W.heap[g]? = some b
theorem Used.ok.alloc {U : Used} {W : World} (h : U.ok w W) (b : Obj) : (U.add W.heap.size b).ok w (W.alloc b) := by
  refine ⟨h.1.alloc h.1.size b, ?_⟩
  rintro g c (⟨rfl, rfl⟩ | hu)
  · exact heap_alloc_new W c
  · have := h.2 g c hu
    rw [Below.heap_alloc W b g (Array.getElem?_eq_some_iff.1 this).1]
    exact this
theorem Used.ok.new {U : Used} {W : World} (h : U.ok w W) : U.new W.heap.size := fun b hb => by
  have := (Array.getElem?_eq_some_iff.1 (h.2 _ _ hb)).1
  omega
theorem Used.ok.below {U : Used} {W W' : World} (h : U.ok w W) (hb : Below W.heap.size W W') : U.ok w W' :=
  ⟨h.1.trans (hb.mono h.1.size), fun g b hu => by
    have := h.2 g b hu
    rw [hb.block g (Array.getElem?_eq_some_iff.1 this).1]
    exact this⟩

def HeadF (P : Program) (md : Region.Mode) (ops : Array Oper) (w : World) (ob : Nat → Option Obj) (n : Nat) (L : Array Bool → Act → Used → Prop) : Nat → Array Bool → Act → Used → Prop
  | 0, done, a, U => L done a U
  | f + 1, done, a, U => Region.ready md ops done ≠ [] ∧ ∀ i ∈ Region.ready md ops done, i < n ∧ ∃ o, ops[i]? = some o ∧
      ((ob i = none ∧ ∃ v, YieldsK P ops w o v a ∧ HeadF P md ops w ob n L f (done.setIfInBounds i true) (a.put o.dst v) U) ∨
       (∃ b, ob i = some b ∧ Allocs P ops o b ∧ ∀ g, w.heap.size ≤ g → U.new g → HeadF P md ops w ob n L f (done.setIfInBounds i true) (a.put o.dst (.pointer (some ⟨g, 0, none⟩))) (U.add g b)))

theorem quietUpon_mono {C C' : World → Prop} {W : World} {v : Value} {r : Result Next} (h : ∀ w', C w' → C' w') (hq : Oper.quietUpon P C W v r) : Oper.quietUpon P C' W v r := by
  cases r with
  | halt x w' => exact hq
  | ok n w' =>
    cases n <;> simp only [Oper.quietUpon] at hq ⊢ <;> first | exact hq | exact ⟨hq.1, hq.2.mono fun e w'' ⟨a, b⟩ => ⟨a, h _ b⟩⟩

theorem HeadF.any {ob : Nat → Option Obj} {n g : Nat} {L : Array Bool → Act → Used → Prop} {Q : Exit → Act → World → Prop} (hL : ∀ done a U W, U.ok w W → L done a U → wpAny P md ops Q g done a W) (f : Nat) :
    ∀ (done : Array Bool) (a : Act) (U : Used) (W : World), U.ok w W → HeadF P md ops w ob n L f done a U → wpAny P md ops Q (f + g) done a W := by
  induction f with
  | zero => intro done a U W hw h; rw [Nat.zero_add]; exact hL _ _ _ _ hw h
  | succ f ih =>
    intro done a U W hw h
    rw [show f + 1 + g = (f + g) + 1 by omega]
    refine ⟨fun h0 => absurd h0 h.1, fun i hi => ?_⟩
    obtain ⟨_, o, ho, ⟨_, v, hy, hK⟩ | ⟨b, _, hA, hK⟩⟩ := h.2 i hi
    · refine wpOp_of_qOp (C := fun w' => Below W.heap.size W w') (K := fun a' => a' = a.put o.dst v) (Below.refl _ _) (fun a' w' hw' e => by subst e; exact ih _ _ _ _ (hw.below hw') hK) ?_
      unfold qOp
      simp only [ho]
      rcases hy with ⟨h1, h2⟩ | ⟨h1, rfl⟩
      · rw [if_pos h1]
        exact ⟨v, fun w' hw' => quietUpon_mono (fun w'' h' => hw'.trans (h'.mono hw'.size)) (h2 ⟨w', hw.1.trans (hw'.mono hw.1.size)⟩), rfl⟩
      · rw [if_neg (by rw [h1]; exact Bool.false_ne_true)]
    · obtain ⟨h1, h2⟩ := hA a W
      unfold wpOp
      simp only [ho]
      rw [if_pos h1]
      refine .inl ?_
      unfold Oper.wp
      rw [h2]
      exact ih _ _ _ _ (hw.alloc b) (hK _ hw.1.size hw.new)

section
variable {ob : Nat → Option Obj} {n : Nat} {L : Array Bool → Act → Used → Prop}

theorem HeadF.first {i : Nat} {oi : Oper} {v : Value} (hi : ops[i]? = some oi) (hob : ob i = none) (hsel : ∀ (j : Nat) (o : Oper) cs b, ops[j]? = some o → o.op ≠ .select cs b)
    (hs : Region.sinkB md ops n = true) (hc : Region.chainB md ops n = true) (hn : n < ops.size) (hin : i < n) (hL : ∀ done a U, L done a U → ∀ j ∈ Region.ready md ops done, n ≤ j) (f : Nat) :
    ∀ (done : Array Bool) (a : Act) (U : Used), HeadInv md ops n done →
      (∀ j oj, ops[j]? = some oj → j ≠ i → done.getD j true = false → (∀ e ∈ oj.after, Region.binds md e = true → e.on ≠ i) → oi.apart ops oj = true) →
      i ∈ Region.ready md ops done → YieldsK P ops w oi v a → HeadF P md ops w ob n L f (done.setIfInBounds i true) (a.put oi.dst v) U → HeadF P md ops w ob n L (f + 1) done a U := by
  have low : ∀ done, HeadInv md ops n done → i ∈ Region.ready md ops done → ∀ j ∈ Region.ready md ops done, j < n := fun done inv hr j hj => by
    rcases Nat.lt_or_ge j n with h | h
    · exact h
    · exact absurd hj (tail_waits hs hc hn inv _ i rfl hin (mem_ready.1 hr).1 j h)
  induction f with
  | zero =>
    intro done a U inv _ hr hy H
    refine ⟨fun h => (by rw [h] at hr; cases hr), fun j hj => ⟨low done inv hr j hj, ?_⟩⟩
    rcases Nat.decEq j i with hji | hji
    · have := hL _ _ _ H j (ready_mono hj hji)
      have := low done inv hr j hj
      omega
    · subst hji; exact ⟨oi, hi, .inl ⟨hob, v, hy, H⟩⟩
  | succ f ih =>
    intro done a U inv hfree hr hy H
    refine ⟨fun h => (by rw [h] at hr; cases hr), fun j hj => ⟨low done inv hr j hj, ?_⟩⟩
    rcases Nat.decEq j i with hji | hji
    · obtain ⟨hjun, oj, hoj, hall⟩ := mem_ready.1 hj
      have hun := (mem_ready.1 hr).1
      have hnot : ∀ e ∈ oj.after, Region.binds md e = true → e.on ≠ i := fun e he hb heq => by
        have h1 := hall e he hb
        rw [heq, getD_both hun] at h1
        cases h1
      obtain ⟨h1, h2, h3⟩ := Oper.apart_spec (hfree j oj hoj hji hjun hnot)
      have hfree' : ∀ k ok, ops[k]? = some ok → k ≠ i → (done.setIfInBounds j true).getD k true = false → (∀ e ∈ ok.after, Region.binds md e = true → e.on ≠ i) → oi.apart ops ok = true := fun k ok hk hki hun' hno => by
        refine hfree k ok hk hki ?_ hno
        rcases Nat.decEq j k with hjk | hjk
        · rw [getD_set_ne true hjk] at hun'; exact hun'
        · subst hjk; exact hjun
      have inv' := inv.set hj (low done inv hr j hj)
      have hr' := ready_mono hr (Ne.symm hji)
      refine ⟨oj, hoj, ?_⟩
      obtain ⟨_, oj', hoj', hh⟩ := H.2 j (ready_mono hj hji)
      obtain rfl : oj = oj' := Option.some.inj (hoj.symm.trans hoj')
      rcases hh with ⟨hb, u, hu, hK⟩ | ⟨b, hb, hA, hK⟩
      · refine .inl ⟨hb, u, hu.unput (fun cs b => hsel j oj cs b hoj) h1, ih _ _ _ inv' hfree' hr' (hy.put (fun cs b => hsel i oi cs b hi) h3) ?_⟩
        rw [Array.setIfInBounds_comm _ _ hji, ← Act.put_comm a v u h2]
        exact hK
      · refine .inr ⟨b, hb, hA, fun g hg hf => ih _ _ _ inv' hfree' hr' (hy.put (fun cs b => hsel i oi cs b hi) h3) ?_⟩
        rw [Array.setIfInBounds_comm _ _ hji, ← Act.put_comm a v _ h2]
        exact hK g hg hf
    · subst hji; exact ⟨oi, hi, .inl ⟨hob, v, hy, H⟩⟩

theorem HeadF.firstA {i : Nat} {oi : Oper} {b : Obj} (hi : ops[i]? = some oi) (hob : ob i = some b) (hA : Allocs P ops oi b)
    (hs : Region.sinkB md ops n = true) (hc : Region.chainB md ops n = true) (hn : n < ops.size) (hin : i < n) (hL : ∀ done a U, L done a U → ∀ j ∈ Region.ready md ops done, n ≤ j) (f : Nat) :
    ∀ (done : Array Bool) (a : Act) (U : Used), HeadInv md ops n done → (∃ m, ∀ g b', U g b' → g < m) → (∀ j, j < n → done.getD j true = false → ∃ b', ob j = some b') →
      (∀ j oj, ops[j]? = some oj → j ≠ i → done.getD j true = false → (∀ e ∈ oj.after, Region.binds md e = true → e.on ≠ i) → oi.apart ops oj = true) →
      i ∈ Region.ready md ops done → (∀ g, w.heap.size ≤ g → U.new g → HeadF P md ops w ob n L f (done.setIfInBounds i true) (a.put oi.dst (.pointer (some ⟨g, 0, none⟩))) (U.add g b)) → HeadF P md ops w ob n L (f + 1) done a U := by
  have low : ∀ done, HeadInv md ops n done → i ∈ Region.ready md ops done → ∀ j ∈ Region.ready md ops done, j < n := fun done inv hr j hj => by
    rcases Nat.lt_or_ge j n with h | h
    · exact h
    · exact absurd hj (tail_waits hs hc hn inv _ i rfl hin (mem_ready.1 hr).1 j h)
  have one : ∀ U : Used, (∃ m, ∀ g b', U g b' → g < m) → ∃ g, w.heap.size ≤ g ∧ U.new g := fun U ⟨m, hm⟩ => ⟨max m w.heap.size, Nat.le_max_right _ _, fun b hb => by have := hm _ _ hb; omega⟩
  induction f with
  | zero =>
    intro done a U inv hU _ _ hr H
    refine ⟨fun h => (by rw [h] at hr; cases hr), fun j hj => ⟨low done inv hr j hj, ?_⟩⟩
    rcases Nat.decEq j i with hji | hji
    · obtain ⟨g, hg, hf⟩ := one U hU
      have := hL _ _ _ (H g hg hf) j (ready_mono hj hji)
      have := low done inv hr j hj
      omega
    · subst hji; exact ⟨oi, hi, .inr ⟨b, hob, hA, H⟩⟩
  | succ f ih =>
    intro done a U inv hU hall' hfree hr H
    refine ⟨fun h => (by rw [h] at hr; cases hr), fun j hj => ⟨low done inv hr j hj, ?_⟩⟩
    rcases Nat.decEq j i with hji | hji
    · obtain ⟨hjun, oj, hoj, hall⟩ := mem_ready.1 hj
      have hun := (mem_ready.1 hr).1
      have hnot : ∀ e ∈ oj.after, Region.binds md e = true → e.on ≠ i := fun e he hb heq => by
        have h1 := hall e he hb
        rw [heq, getD_both hun] at h1
        cases h1
      obtain ⟨h1, h2, h3⟩ := Oper.apart_spec (hfree j oj hoj hji hjun hnot)
      have back : ∀ k, (done.setIfInBounds j true).getD k true = false → done.getD k true = false := fun k hk => by
        rcases Nat.decEq j k with hjk | hjk
        · rw [getD_set_ne true hjk] at hk; exact hk
        · subst hjk; exact hjun
      obtain ⟨b', hb'⟩ := hall' j (low done inv hr j hj) hjun
      have hAj : Allocs P ops oj b' := by
        obtain ⟨g, hg, hf⟩ := one U hU
        obtain ⟨_, oj', hoj', hh⟩ := (H g hg hf).2 j (ready_mono hj hji)
        obtain rfl : oj = oj' := Option.some.inj (hoj.symm.trans hoj')
        rcases hh with ⟨hb, _⟩ | ⟨c, hb, hA', _⟩
        · rw [hb'] at hb; cases hb
        · obtain rfl : b' = c := Option.some.inj (hb'.symm.trans hb)
          exact hA'
      refine ⟨oj, hoj, .inr ⟨b', hb', hAj, fun g' hg' hf' => ?_⟩⟩
      refine ih _ _ _ (inv.set hj (low done inv hr j hj)) ?_ (fun k hk hun' => hall' k hk (back k hun')) (fun k ok hk hki hun' hno => hfree k ok hk hki (back k hun') hno) (ready_mono hr (Ne.symm hji)) ?_
      · obtain ⟨m, hm⟩ := hU
        refine ⟨max m (g' + 1), ?_⟩
        rintro x y (⟨rfl, _⟩ | hxy)
        · omega
        · have := hm _ _ hxy
          omega
      · intro g hg hf
        obtain ⟨hne, hf2⟩ := Used.new_add.1 hf
        obtain ⟨_, oj', hoj', hh⟩ := (H g hg hf2).2 j (ready_mono hj hji)
        obtain rfl : oj = oj' := Option.some.inj (hoj.symm.trans hoj')
        rcases hh with ⟨hb, _⟩ | ⟨c, hb, _, hK⟩
        · rw [hb'] at hb; cases hb
        · obtain rfl : b' = c := Option.some.inj (hb'.symm.trans hb)
          rw [Array.setIfInBounds_comm _ _ hji, ← Act.put_comm a _ _ h2, Used.add_comm]
          exact hK g' hg' (Used.new_add.2 ⟨Ne.symm hne, hf'⟩)
    · subst hji; exact ⟨oi, hi, .inr ⟨b, hob, hA, H⟩⟩
end

/-- The blocks one after another, each new. -/
def wpNew (w : World) (R : Act → Used → Prop) : List Oper → List Obj → Act → Used → Prop
  | o :: l, b :: bs, a, U => ∀ g, w.heap.size ≤ g → U.new g → wpNew w R l bs (a.put o.dst (.pointer (some ⟨g, 0, none⟩))) (U.add g b)
  | _, _, a, U => R a U
def AllAlloc (P : Program) (ops : Array Oper) : List Oper → List Obj → Prop
  | o :: l, b :: bs => Allocs P ops o b ∧ AllAlloc P ops l bs
  | [], [] => True
  | _, _ => False

theorem HeadF.lexA {ob : Nat → Option Obj} {n g : Nat} {R : Act → Used → Prop} (hs : Region.sinkB md ops n = true) (hc : Region.chainB md ops n = true) (hn : n < ops.size) (l : List Oper) :
    ∀ (bs : List Obj) (k : Nat) (done : Array Bool) (a : Act) (U : Used), (∀ j, j < l.length → l[j]? = ops[k + j]?) → (∀ j, j < l.length → ob (k + j) = bs[j]?) → AllAlloc P ops l bs → k + l.length = n → HeadInv md ops n done →
      (∀ j, j < k → done.getD j true = true) → (∃ m, ∀ g b', U g b' → g < m) → Region.lexHead md ops g l.length k done = true → wpNew w R l bs a U →
      HeadF P md ops w ob n (fun done' a' U' => Region.seqB md ops g n done' = true ∧ R a' U') l.length done a U := by
  induction l with
  | nil =>
    intro bs k done a U _ _ hA hk _ _ _ hB h
    obtain rfl : k = n := by simpa using hk
    have : bs = [] := by cases bs with
      | nil => rfl
      | cons => exact hA.elim
    subst this
    exact ⟨by simpa [Region.lexHead] using hB, h⟩
  | cons o l ih =>
    intro bs k done a U hl hob hA hk inv hd hU hB h
    cases bs with
    | nil => exact hA.elim
    | cons b bs =>
      have h0 : ops[k]? = some o := by simpa using (hl 0 (by simp)).symm
      simp only [List.length_cons, Region.lexHead, Bool.and_eq_true] at hB hk
      obtain ⟨⟨hr, hf⟩, hB'⟩ := hB
      have hr' : k ∈ Region.ready md ops done := by simpa using hr
      refine HeadF.firstA h0 (by simpa using hob 0 (by simp)) hA.1 hs hc hn (by omega) (fun done' a' U' hL => seqB_ready hL.1) l.length done a U inv hU ?_ (Region.free_spec h0 hf) hr' ?_
      · intro j hj hun
        rcases Nat.lt_or_ge j k with hjk | hjk
        · rw [hd j hjk] at hun; cases hun
        · have := hob (j - k) (by simp; omega)
          rw [show k + (j - k) = j by omega] at this
          have hlen : ∀ (l : List Oper) (bs : List Obj), AllAlloc P ops l bs → l.length = bs.length := by
            intro l
            induction l with
            | nil => intro bs h; cases bs with
              | nil => rfl
              | cons => exact h.elim
            | cons x l ih => intro bs h; cases bs with
              | nil => exact h.elim
              | cons y bs => simp [ih bs h.2]
          have h2 := hlen (o :: l) (b :: bs) hA
          rw [this]
          have hb : j - k < (b :: bs).length := by rw [← h2]; simp; omega
          exact ⟨_, List.getElem?_eq_getElem hb⟩
      · intro g' hg' hf'
        refine ih bs (k + 1) _ _ _ (fun j hj => by have := hl (j + 1) (by simp; omega); simpa [Nat.add_assoc, Nat.add_comm 1 j] using this) (fun j hj => by have := hob (j + 1) (by simp; omega); simpa [Nat.add_assoc, Nat.add_comm 1 j] using this) hA.2 (by omega) (inv.set hr' (by omega)) ?_ ?_ hB' (h g' hg' hf')
        · intro j hj
          rcases Nat.decEq k j with hkj | hkj
          · rw [getD_set_ne true hkj]; exact hd j (by omega)
          · subst hkj
            have hks : k < done.size := by rw [inv.size]; omega
            simp [hks]
        · obtain ⟨m, hm⟩ := hU
          refine ⟨max m (g' + 1), ?_⟩
          rintro x y (⟨rfl, _⟩ | hxy)
          · omega
          · have := hm _ _ hxy
            omega

theorem yieldsK_of_wpKeep {R : Act → Prop} {o : Oper} {rest : List Oper} {a : Act} (h : wpKeep P ops w R (o :: rest) a) : ∃ v, YieldsK P ops w o v a ∧ wpKeep P ops w R rest (a.put o.dst v) := by
  unfold wpKeep at h
  by_cases hw : Region.wanted o (yielded ops a.tmps) = true
  · rw [if_pos hw] at h
    obtain ⟨v, h1, h2⟩ := h
    exact ⟨v, .inl ⟨hw, h1⟩, h2⟩
  · rw [if_neg hw] at h
    exact ⟨undef, .inr ⟨by simpa using hw, rfl⟩, h⟩

theorem HeadF.lexQ {ob : Nat → Option Obj} {n g m : Nat} {L : Array Bool → Act → Used → Prop} {R : Act → Prop} {U : Used} (hsel : Region.noSelect ops = true) (hs : Region.sinkB md ops n = true) (hc : Region.chainB md ops n = true) (hn : n < ops.size)
    (hL : ∀ done a U, L done a U → ∀ j ∈ Region.ready md ops done, n ≤ j) (l : List Oper) :
    ∀ (k : Nat) (done : Array Bool) (a : Act), (∀ j, j < l.length → l[j]? = ops[k + j]?) → (∀ j, j < l.length → ob (k + j) = none) → k + l.length + m = n → HeadInv md ops n done → (∀ j, j < k → done.getD j true = true) →
      Region.lexHead md ops g (l.length + m) k done = true →
      (∀ done' a', HeadInv md ops n done' → (∀ j, j < k + l.length → done'.getD j true = true) → Region.lexHead md ops g m (k + l.length) done' = true → R a' → HeadF P md ops w ob n L m done' a' U) →
      wpKeep P ops w R l a → HeadF P md ops w ob n L (l.length + m) done a U := by
  induction l with
  | nil =>
    intro k done a _ _ _ inv hd hB hR h
    simp only [List.length_nil, Nat.zero_add, Nat.add_zero] at hB hR ⊢
    exact hR done a inv hd hB h
  | cons o l ih =>
    intro k done a hl hob hk inv hd hB hR h
    have h0 : ops[k]? = some o := by simpa using (hl 0 (by simp)).symm
    rw [show (o :: l).length + m = (l.length + m) + 1 by simp; omega] at hB ⊢
    simp only [Region.lexHead, Bool.and_eq_true] at hB
    simp only [List.length_cons] at hk hR
    obtain ⟨⟨hr, hf⟩, hB'⟩ := hB
    have hr' : k ∈ Region.ready md ops done := by simpa using hr
    obtain ⟨v, hy, hK⟩ := yieldsK_of_wpKeep h
    refine HeadF.first h0 (by simpa using hob 0 (by simp)) (Region.noSelect_spec hsel) hs hc hn (by omega) hL (l.length + m) done a U inv (Region.free_spec h0 hf) hr' hy ?_
    refine ih (k + 1) _ _ (fun j hj => by have := hl (j + 1) (by simp; omega); simpa [Nat.add_assoc, Nat.add_comm 1 j] using this) (fun j hj => by have := hob (j + 1) (by simp; omega); simpa [Nat.add_assoc, Nat.add_comm 1 j] using this) (by omega) (inv.set hr' (by omega)) ?_ hB' (fun done' a' i1 i2 i3 i4 => hR done' a' i1 (fun j hj => i2 j (by omega)) (by rw [show k + (l.length + 1) = k + 1 + l.length by omega]; exact i3) i4) hK
    intro j hj
    rcases Nat.decEq k j with hkj | hkj
    · rw [getD_set_ne true hkj]; exact hd j (by omega)
    · subst hkj
      have hks : k < done.size := by rw [inv.size]; omega
      simp [hks]

/-- **A drawn region with new blocks.** -/
theorem wp_region_fresh {id : Nat} {Q : Exit → Act → World → Prop} {a : Act} {l : List Oper} (n : Nat) (bs : List Obj) (hm : P.follows .mixedOrders = true) (hB : Region.lexTailB .any l.toArray (n + bs.length) = true)
    (hA : AllAlloc P l.toArray ((l.drop n).take bs.length) bs)
    (h : wpKeep P l.toArray w (fun a' => wpNew w (fun a'' U => ∀ W, U.ok w W → wpList P l.toArray Q (l.drop (n + bs.length)) a'' W) ((l.drop n).take bs.length) bs a' (fun _ _ => False)) (l.take n) a) : (Code.region id l.toArray true).wp P Q a w := by
  simp only [Region.lexTailB, Bool.and_eq_true, decide_eq_true_eq] at hB
  obtain ⟨⟨⟨⟨hsel, hn⟩, hs⟩, hc⟩, hlex⟩ := hB
  have hn' : n + bs.length < l.length := by simpa using hn
  have htl : (l.take n).length = n := by simp; omega
  have hal : ((l.drop n).take bs.length).length = bs.length := by simp; omega
  have hdl : (l.drop (n + bs.length)).length = l.toArray.size - (n + bs.length) := by simp
  have start : HeadInv .any l.toArray (n + bs.length) (Array.replicate l.toArray.size false) := by
    constructor
    · simp
    · intro j oj _ hl; rw [getD_replicate_false] at hl; cases hl
    · intro t _ ht; exact getD_in (by simpa using ht) (getD_replicate_false _ _)
  let ob : Nat → Option Obj := fun i => if n ≤ i then bs[i - n]? else none
  have H := HeadF.lexQ (P := P) (w := w) (md := .any) (ob := ob) (g := l.toArray.size - (n + bs.length)) (m := bs.length) (U := fun _ _ => False)
    (L := fun done' a' U' => Region.seqB .any l.toArray (l.toArray.size - (n + bs.length)) (n + bs.length) done' = true ∧ ∀ W, U'.ok w W → wpList P l.toArray Q (l.drop (n + bs.length)) a' W)
    hsel hs hc hn (fun done a U hL => seqB_ready hL.1) (l.take n) 0 _ a (fun j hj => by rw [htl] at hj; simp [hj]) (fun j hj => by rw [htl] at hj; simp only [ob]; rw [if_neg (by omega)]) (by rw [htl]; omega) start (fun j hj => by omega)
    (by rw [htl]; exact hlex)
    (fun done' a' inv hd hB' hR => by
      rw [htl] at hd hB'
      have := HeadF.lexA (P := P) (w := w) (md := .any) (ob := ob) (n := n + bs.length) (g := l.toArray.size - (n + bs.length)) hs hc hn ((l.drop n).take bs.length) bs (0 + n) done' a' (fun _ _ => False)
        (fun j hj => by rw [hal] at hj; simp [hj]) (fun j hj => by simp only [ob]; rw [if_pos (by omega), show 0 + n + j - n = j by omega]) hA (by rw [hal]; omega) inv hd ⟨0, fun _ _ h => h.elim⟩ (by rw [hal]; exact hB') hR
      rwa [hal] at this) h
  rw [htl] at H
  refine wp_region_any hm ?_
  have := HeadF.any (Q := Q) (g := l.toArray.size - (n + bs.length)) (fun done a' U W hW hL => by
    have := wpAny_of_seq (md := .any) (Q' := Q) (l.drop (n + bs.length)) (n + bs.length) done a' W (fun j => by simp [List.getElem?_drop]) (by rw [hdl]; exact hL.1) (hL.2 W hW)
    rwa [hdl] at this) _ _ _ _ _ (show Used.ok (fun _ _ => False) w { w with drawn := w.drawn + 1 } from ⟨(Below.refl w.heap.size w).drew, fun _ _ h => h.elim⟩) H
  rwa [show n + bs.length + (l.toArray.size - (n + bs.length)) = l.toArray.size by omega] at this
end
end Go.Proofs.Ythepafendopfhaa
