/- A region that draws its order, in which new blocks are made: its first n operations read, or call what reads and makes memory; then come operations that make a block each; all these in whatever order; the rest comes behind them in one forced order. One walk of the text's order serves every order: of the new blocks it knows that they are new, apart, and as made. No program. · A region that draws its order: its first n operations read, or call what reads and makes memory; the next one stores into a block z that none of them reads; all these in whatever order; the rest comes behind them in one forced order. One walk of the text's order serves every order. No program. · A whole struct stored into the block that holds it: the block as it is then, all else as it was. No program. · A region that draws its order: its first n operations read, or call what reads and makes memory; the next one makes a block, the one behind it stores into that block; the first n float between these two and behind them; the rest comes in one forced order. No program. · A region that draws its order, whatever it holds: operations that read or call (q), that are pure (p), that make a block (a), that store into a known block (s). Where the edges, directly or through others, keep apart what must not change places, one walk of the text's order serves every order. No program. -/
import Derived.Test.YtmfejdikfpckdaaGreatDoorFc3
import Derived.Test.YtmfejdikfpckdaaGreatDoorFc5
import Derived.Laws.IdiomCopy
namespace Go.Proofs.YtmfejdikfpckdaaGreatDoor
open Go.RowKit
set_option linter.unusedVariables false

section
variable {P : Program} {ops : Array Oper} {md : Region.Mode} {w : World}

/-- At W the operation yields v, and all that lies in W stays. -/
def keepsAt (P : Program) (o : Oper) (a : Act) (W : World) (v : Value) : Prop := Oper.quietUpon P (fun w'' => Below W.heap.size W w'') W v ((execOp a.eval o).run P W)
def keeps (P : Program) (o : Oper) (a : Act) (w : World) (K : Act → Prop) : Prop := ∃ v, (∀ s : Ext w, keepsAt P o a s.to v) ∧ K (a.put o.dst v)
def wpKeep (P : Program) (ops : Array Oper) (w : World) (R : Act → Prop) : List Oper → Act → Prop
  | [], a => R a
  | o :: rest, a => if Region.wanted o (yielded ops a.tmps) then keeps P o a w (wpKeep P ops w R rest) else wpKeep P ops w R rest (a.put o.dst undef)
theorem wpKeep_nil {R : Act → Prop} {a : Act} (h : R a) : wpKeep P ops w R [] a := h
def YieldsK (P : Program) (ops : Array Oper) (w : World) (o : Oper) (v : Value) (a : Act) : Prop :=
  (Region.wanted o (yielded ops a.tmps) = true ∧ ∀ s : Ext w, keepsAt P o a s.to v) ∨ (Region.wanted o (yielded ops a.tmps) = false ∧ v = undef)
theorem YieldsK.of_same {o : Oper} {v : Value} {a a' : Act} (hy : YieldsK P ops w o v a) (he : execOp a'.eval o = execOp a.eval o) (hw : Region.wanted o (yielded ops a'.tmps) = Region.wanted o (yielded ops a.tmps)) : YieldsK P ops w o v a' := by
  unfold YieldsK keepsAt at *
  rw [he, hw]
  exact hy
theorem YieldsK.unput {x o : Oper} {v u : Value} {a : Act} (hs : ∀ cs b, o.op ≠ .select cs b) (h : ∀ d, x.dst = some d → d ∉ o.looksAt ops) (hy : YieldsK P ops w o v (a.put x.dst u)) : YieldsK P ops w o v a :=
  hy.of_same (execOp_put o hs a x.dst u h).symm (wanted_put o a x.dst u h).symm
theorem YieldsK.put {x o : Oper} {v u : Value} {a : Act} (hs : ∀ cs b, o.op ≠ .select cs b) (h : ∀ d, x.dst = some d → d ∉ o.looksAt ops) (hy : YieldsK P ops w o v a) : YieldsK P ops w o v (a.put x.dst u) :=
  hy.of_same (execOp_put o hs a x.dst u h) (wanted_put o a x.dst u h)

/-- The operation makes the block b. -/
def Allocs (P : Program) (ops : Array Oper) (o : Oper) (b : Obj) : Prop := ∀ (a : Act) (W : World), Region.wanted o (yielded ops a.tmps) = true ∧ (execOp a.eval o).run P W = .ok (.value (.pointer (some ⟨W.heap.size, 0, none⟩))) (W.alloc b)
abbrev Used := Nat → Obj → Prop
def Used.add (U : Used) (g : Nat) (b : Obj) : Used := fun g' b' => (g' = g ∧ b' = b) ∨ U g' b'
def Used.new (U : Used) (g : Nat) : Prop := ∀ b, ¬ U g b
theorem Used.add_comm (U : Used) (g h : Nat) (b c : Obj) : (U.add g b).add h c = (U.add h c).add g b := by
  funext x y
  exact propext (by unfold Used.add; exact or_left_comm)
theorem Used.new_add {U : Used} {g h : Nat} {b : Obj} : (U.add g b).new h ↔ h ≠ g ∧ U.new h := by
  constructor
  · intro H
    exact ⟨fun e => H b (.inl ⟨e, rfl⟩), fun c hc => H c (.inr hc)⟩
  · rintro ⟨h1, h2⟩ c (⟨e, _⟩ | hc)
    · exact h1 e
    · exact h2 c hc
def Used.ok (U : Used) (w W : World) : Prop := Below w.heap.size w W ∧ ∀ g b, U g b → W.heap[g]? = some b
theorem Used.ok.alloc {U : Used} {W : World} (h : U.ok w W) (b : Obj) : (U.add W.heap.size b).ok w (W.alloc b) := by
  refine ⟨h.1.alloc h.1.size b, ?_⟩
  rintro g c (⟨rfl, rfl⟩ | hu)
  · exact heap_alloc_new W c
  · have := h.2 g c hu
    rw [Below.heap_alloc W b g (Array.getElem?_eq_some_iff.1 this).1]
    exact this
theorem Used.ok.new {U : Used} {W : World} (h : U.ok w W) : U.new W.heap.size := fun b hb => by
  have := (Array.getElem?_eq_some_iff.1 (h.2 _ _ hb)).1
  omega
theorem Used.ok.below {U : Used} {W W' : World} (h : U.ok w W) (hb : Below W.heap.size W W') : U.ok w W' :=
  ⟨h.1.trans (hb.mono h.1.size), fun g b hu => by
    have := h.2 g b hu
    rw [hb.block g (Array.getElem?_eq_some_iff.1 this).1]
    exact this⟩

def HeadF (P : Program) (md : Region.Mode) (ops : Array Oper) (w : World) (ob : Nat → Option Obj) (n : Nat) (L : Array Bool → Act → Used → Prop) : Nat → Array Bool → Act → Used → Prop
  | 0, done, a, U => L done a U
  | f + 1, done, a, U => Region.ready md ops done ≠ [] ∧ ∀ i ∈ Region.ready md ops done, i < n ∧ ∃ o, ops[i]? = some o ∧
      ((ob i = none ∧ ∃ v, YieldsK P ops w o v a ∧ HeadF P md ops w ob n L f (done.setIfInBounds i true) (a.put o.dst v) U) ∨
       (∃ b, ob i = some b ∧ Allocs P ops o b ∧ ∀ g, w.heap.size ≤ g → U.new g → HeadF P md ops w ob n L f (done.setIfInBounds i true) (a.put o.dst (.pointer (some ⟨g, 0, none⟩))) (U.add g b)))

theorem quietUpon_mono {C C' : World → Prop} {W : World} {v : Value} {r : Result Next} (h : ∀ w', C w' → C' w') (hq : Oper.quietUpon P C W v r) : Oper.quietUpon P C' W v r := by
  cases r with
  | halt x w' => exact hq
  | ok n w' =>
    cases n <;> simp only [Oper.quietUpon] at hq ⊢ <;> first | exact hq | exact ⟨hq.1, hq.2.mono fun e w'' ⟨a, b⟩ => ⟨a, h _ b⟩⟩

theorem HeadF.any {ob : Nat → Option Obj} {n g : Nat} {L : Array Bool → Act → Used → Prop} {Q : Exit → Act → World → Prop} (hL : ∀ done a U W, U.ok w W → L done a U → wpAny P md ops Q g done a W) (f : Nat) :
    ∀ (done : Array Bool) (a : Act) (U : Used) (W : World), U.ok w W → HeadF P md ops w ob n L f done a U → wpAny P md ops Q (f + g) done a W := by
  induction f with
  | zero => intro done a U W hw h; rw [Nat.zero_add]; exact hL _ _ _ _ hw h
  | succ f ih =>
    intro done a U W hw h
    rw [show f + 1 + g = (f + g) + 1 by omega]
    refine ⟨fun h0 => absurd h0 h.1, fun i hi => ?_⟩
    obtain ⟨_, o, ho, ⟨_, v, hy, hK⟩ | ⟨b, _, hA, hK⟩⟩ := h.2 i hi
    · refine wpOp_of_qOp (C := fun w' => Below W.heap.size W w') (K := fun a' => a' = a.put o.dst v) (Below.refl _ _) (fun a' w' hw' e => by subst e; exact ih _ _ _ _ (hw.below hw') hK) ?_
      unfold qOp
      simp only [ho]
      rcases hy with ⟨h1, h2⟩ | ⟨h1, rfl⟩
      · rw [if_pos h1]
        exact ⟨v, fun w' hw' => quietUpon_mono (fun w'' h' => hw'.trans (h'.mono hw'.size)) (h2 ⟨w', hw.1.trans (hw'.mono hw.1.size)⟩), rfl⟩
      · rw [if_neg (by rw [h1]; exact Bool.false_ne_true)]
    · obtain ⟨h1, h2⟩ := hA a W
      unfold wpOp
      simp only [ho]
      rw [if_pos h1]
      refine .inl ?_
      unfold Oper.wp
      rw [h2]
      exact ih _ _ _ _ (hw.alloc b) (hK _ hw.1.size hw.new)

section
variable {ob : Nat → Option Obj} {n : Nat} {L : Array Bool → Act → Used → Prop}

theorem HeadF.first {i : Nat} {oi : Oper} {v : Value} (hi : ops[i]? = some oi) (hob : ob i = none) (hsel : ∀ (j : Nat) (o : Oper) cs b, ops[j]? = some o → o.op ≠ .select cs b)
    (hs : Region.sinkB md ops n = true) (hc : Region.chainB md ops n = true) (hn : n < ops.size) (hin : i < n) (hL : ∀ done a U, L done a U → ∀ j ∈ Region.ready md ops done, n ≤ j) (f : Nat) :
    ∀ (done : Array Bool) (a : Act) (U : Used), HeadInv md ops n done →
      (∀ j oj, ops[j]? = some oj → j ≠ i → done.getD j true = false → (∀ e ∈ oj.after, Region.binds md e = true → e.on ≠ i) → oi.apart ops oj = true) →
      i ∈ Region.ready md ops done → YieldsK P ops w oi v a → HeadF P md ops w ob n L f (done.setIfInBounds i true) (a.put oi.dst v) U → HeadF P md ops w ob n L (f + 1) done a U := by
  have low : ∀ done, HeadInv md ops n done → i ∈ Region.ready md ops done → ∀ j ∈ Region.ready md ops done, j < n := fun done inv hr j hj => by
    rcases Nat.lt_or_ge j n with h | h
    · exact h
    · exact absurd hj (tail_waits hs hc hn inv _ i rfl hin (mem_ready.1 hr).1 j h)
  induction f with
  | zero =>
    intro done a U inv _ hr hy H
    refine ⟨fun h => (by rw [h] at hr; cases hr), fun j hj => ⟨low done inv hr j hj, ?_⟩⟩
    rcases Nat.decEq j i with hji | hji
    · have := hL _ _ _ H j (ready_mono hj hji)
      have := low done inv hr j hj
      omega
    · subst hji; exact ⟨oi, hi, .inl ⟨hob, v, hy, H⟩⟩
  | succ f ih =>
    intro done a U inv hfree hr hy H
    refine ⟨fun h => (by rw [h] at hr; cases hr), fun j hj => ⟨low done inv hr j hj, ?_⟩⟩
    rcases Nat.decEq j i with hji | hji
    · obtain ⟨hjun, oj, hoj, hall⟩ := mem_ready.1 hj
      have hun := (mem_ready.1 hr).1
      have hnot : ∀ e ∈ oj.after, Region.binds md e = true → e.on ≠ i := fun e he hb heq => by
        have h1 := hall e he hb
        rw [heq, getD_both hun] at h1
        cases h1
      obtain ⟨h1, h2, h3⟩ := Oper.apart_spec (hfree j oj hoj hji hjun hnot)
      have hfree' : ∀ k ok, ops[k]? = some ok → k ≠ i → (done.setIfInBounds j true).getD k true = false → (∀ e ∈ ok.after, Region.binds md e = true → e.on ≠ i) → oi.apart ops ok = true := fun k ok hk hki hun' hno => by
        refine hfree k ok hk hki ?_ hno
        rcases Nat.decEq j k with hjk | hjk
        · rw [getD_set_ne true hjk] at hun'; exact hun'
        · subst hjk; exact hjun
      have inv' := inv.set hj (low done inv hr j hj)
      have hr' := ready_mono hr (Ne.symm hji)
      refine ⟨oj, hoj, ?_⟩
      obtain ⟨_, oj', hoj', hh⟩ := H.2 j (ready_mono hj hji)
      obtain rfl : oj = oj' := Option.some.inj (hoj.symm.trans hoj')
      rcases hh with ⟨hb, u, hu, hK⟩ | ⟨b, hb, hA, hK⟩
      · refine .inl ⟨hb, u, hu.unput (fun cs b => hsel j oj cs b hoj) h1, ih _ _ _ inv' hfree' hr' (hy.put (fun cs b => hsel i oi cs b hi) h3) ?_⟩
        rw [Array.setIfInBounds_comm _ _ hji, ← Act.put_comm a v u h2]
        exact hK
      · refine .inr ⟨b, hb, hA, fun g hg hf => ih _ _ _ inv' hfree' hr' (hy.put (fun cs b => hsel i oi cs b hi) h3) ?_⟩
        rw [Array.setIfInBounds_comm _ _ hji, ← Act.put_comm a v _ h2]
        exact hK g hg hf
    · subst hji; exact ⟨oi, hi, .inl ⟨hob, v, hy, H⟩⟩

theorem HeadF.firstA {i : Nat} {oi : Oper} {b : Obj} (hi : ops[i]? = some oi) (hob : ob i = some b) (hA : Allocs P ops oi b)
    (hs : Region.sinkB md ops n = true) (hc : Region.chainB md ops n = true) (hn : n < ops.size) (hin : i < n) (hL : ∀ done a U, L done a U → ∀ j ∈ Region.ready md ops done, n ≤ j) (f : Nat) :
    ∀ (done : Array Bool) (a : Act) (U : Used), HeadInv md ops n done → (∃ m, ∀ g b', U g b' → g < m) → (∀ j, j < n → done.getD j true = false → ∃ b', ob j = some b') →
      (∀ j oj, ops[j]? = some oj → j ≠ i → done.getD j true = false → (∀ e ∈ oj.after, Region.binds md e = true → e.on ≠ i) → oi.apart ops oj = true) →
      i ∈ Region.ready md ops done → (∀ g, w.heap.size ≤ g → U.new g → HeadF P md ops w ob n L f (done.setIfInBounds i true) (a.put oi.dst (.pointer (some ⟨g, 0, none⟩))) (U.add g b)) → HeadF P md ops w ob n L (f + 1) done a U := by
  have low : ∀ done, HeadInv md ops n done → i ∈ Region.ready md ops done → ∀ j ∈ Region.ready md ops done, j < n := fun done inv hr j hj => by
    rcases Nat.lt_or_ge j n with h | h
    · exact h
    · exact absurd hj (tail_waits hs hc hn inv _ i rfl hin (mem_ready.1 hr).1 j h)
  have one : ∀ U : Used, (∃ m, ∀ g b', U g b' → g < m) → ∃ g, w.heap.size ≤ g ∧ U.new g := fun U ⟨m, hm⟩ => ⟨max m w.heap.size, Nat.le_max_right _ _, fun b hb => by have := hm _ _ hb; omega⟩
  induction f with
  | zero =>
    intro done a U inv hU _ _ hr H
    refine ⟨fun h => (by rw [h] at hr; cases hr), fun j hj => ⟨low done inv hr j hj, ?_⟩⟩
    rcases Nat.decEq j i with hji | hji
    · obtain ⟨g, hg, hf⟩ := one U hU
      have := hL _ _ _ (H g hg hf) j (ready_mono hj hji)
      have := low done inv hr j hj
      omega
    · subst hji; exact ⟨oi, hi, .inr ⟨b, hob, hA, H⟩⟩
  | succ f ih =>
    intro done a U inv hU hall' hfree hr H
    refine ⟨fun h => (by rw [h] at hr; cases hr), fun j hj => ⟨low done inv hr j hj, ?_⟩⟩
    rcases Nat.decEq j i with hji | hji
    · obtain ⟨hjun, oj, hoj, hall⟩ := mem_ready.1 hj
      have hun := (mem_ready.1 hr).1
      have hnot : ∀ e ∈ oj.after, Region.binds md e = true → e.on ≠ i := fun e he hb heq => by
        have h1 := hall e he hb
        rw [heq, getD_both hun] at h1
        cases h1
      obtain ⟨h1, h2, h3⟩ := Oper.apart_spec (hfree j oj hoj hji hjun hnot)
      have back : ∀ k, (done.setIfInBounds j true).getD k true = false → done.getD k true = false := fun k hk => by
        rcases Nat.decEq j k with hjk | hjk
        · rw [getD_set_ne true hjk] at hk; exact hk
        · subst hjk; exact hjun
      obtain ⟨b', hb'⟩ := hall' j (low done inv hr j hj) hjun
      have hAj : Allocs P ops oj b' := by
        obtain ⟨g, hg, hf⟩ := one U hU
        obtain ⟨_, oj', hoj', hh⟩ := (H g hg hf).2 j (ready_mono hj hji)
        obtain rfl : oj = oj' := Option.some.inj (hoj.symm.trans hoj')
        rcases hh with ⟨hb, _⟩ | ⟨c, hb, hA', _⟩
        · rw [hb'] at hb; cases hb
        · obtain rfl : b' = c := Option.some.inj (hb'.symm.trans hb)
          exact hA'
      refine ⟨oj, hoj, .inr ⟨b', hb', hAj, fun g' hg' hf' => ?_⟩⟩
      refine ih _ _ _ (inv.set hj (low done inv hr j hj)) ?_ (fun k hk hun' => hall' k hk (back k hun')) (fun k ok hk hki hun' hno => hfree k ok hk hki (back k hun') hno) (ready_mono hr (Ne.symm hji)) ?_
      · obtain ⟨m, hm⟩ := hU
        refine ⟨max m (g' + 1), ?_⟩
        rintro x y (⟨rfl, _⟩ | hxy)
        · omega
        · have := hm _ _ hxy
          omega
      · intro g hg hf
        obtain ⟨hne, hf2⟩ := Used.new_add.1 hf
        obtain ⟨_, oj', hoj', hh⟩ := (H g hg hf2).2 j (ready_mono hj hji)
        obtain rfl : oj = oj' := Option.some.inj (hoj.symm.trans hoj')
        rcases hh with ⟨hb, _⟩ | ⟨c, hb, _, hK⟩
        · rw [hb'] at hb; cases hb
        · obtain rfl : b' = c := Option.some.inj (hb'.symm.trans hb)
          rw [Array.setIfInBounds_comm _ _ hji, ← Act.put_comm a _ _ h2, Used.add_comm]
          exact hK g' hg' (Used.new_add.2 ⟨Ne.symm hne, hf'⟩)
    · subst hji; exact ⟨oi, hi, .inr ⟨b, hob, hA, H⟩⟩
end

/-- The blocks one after another, each new. -/
def wpNew (w : World) (R : Act → Used → Prop) : List Oper → List Obj → Act → Used → Prop
  | o :: l, b :: bs, a, U => ∀ g, w.heap.size ≤ g → U.new g → wpNew w R l bs (a.put o.dst (.pointer (some ⟨g, 0, none⟩))) (U.add g b)
  | _, _, a, U => R a U
def AllAlloc (P : Program) (ops : Array Oper) : List Oper → List Obj → Prop
  | o :: l, b :: bs => Allocs P ops o b ∧ AllAlloc P ops l bs
  | [], [] => True
  | _, _ => False

theorem HeadF.lexA {ob : Nat → Option Obj} {n g : Nat} {R : Act → Used → Prop} (hs : Region.sinkB md ops n = true) (hc : Region.chainB md ops n = true) (hn : n < ops.size) (l : List Oper) :
    ∀ (bs : List Obj) (k : Nat) (done : Array Bool) (a : Act) (U : Used), (∀ j, j < l.length → l[j]? = ops[k + j]?) → (∀ j, j < l.length → ob (k + j) = bs[j]?) → AllAlloc P ops l bs → k + l.length = n → HeadInv md ops n done →
      (∀ j, j < k → done.getD j true = true) → (∃ m, ∀ g b', U g b' → g < m) → Region.lexHead md ops g l.length k done = true → wpNew w R l bs a U →
      HeadF P md ops w ob n (fun done' a' U' => Region.seqB md ops g n done' = true ∧ R a' U') l.length done a U := by
  induction l with
  | nil =>
    intro bs k done a U _ _ hA hk _ _ _ hB h
    obtain rfl : k = n := by simpa using hk
    have : bs = [] := by cases bs with
      | nil => rfl
      | cons => exact hA.elim
    subst this
    exact ⟨by simpa [Region.lexHead] using hB, h⟩
  | cons o l ih =>
    intro bs k done a U hl hob hA hk inv hd hU hB h
    cases bs with
    | nil => exact hA.elim
    | cons b bs =>
      have h0 : ops[k]? = some o := by simpa using (hl 0 (by simp)).symm
      simp only [List.length_cons, Region.lexHead, Bool.and_eq_true] at hB hk
      obtain ⟨⟨hr, hf⟩, hB'⟩ := hB
      have hr' : k ∈ Region.ready md ops done := by simpa using hr
      refine HeadF.firstA h0 (by simpa using hob 0 (by simp)) hA.1 hs hc hn (by omega) (fun done' a' U' hL => seqB_ready hL.1) l.length done a U inv hU ?_ (Region.free_spec h0 hf) hr' ?_
      · intro j hj hun
        rcases Nat.lt_or_ge j k with hjk | hjk
        · rw [hd j hjk] at hun; cases hun
        · have := hob (j - k) (by simp; omega)
          rw [show k + (j - k) = j by omega] at this
          have hlen : ∀ (l : List Oper) (bs : List Obj), AllAlloc P ops l bs → l.length = bs.length := by
            intro l
            induction l with
            | nil => intro bs h; cases bs with
              | nil => rfl
              | cons => exact h.elim
            | cons x l ih => intro bs h; cases bs with
              | nil => exact h.elim
              | cons y bs => simp [ih bs h.2]
          have h2 := hlen (o :: l) (b :: bs) hA
          rw [this]
          have hb : j - k < (b :: bs).length := by rw [← h2]; simp; omega
          exact ⟨_, List.getElem?_eq_getElem hb⟩
      · intro g' hg' hf'
        refine ih bs (k + 1) _ _ _ (fun j hj => by have := hl (j + 1) (by simp; omega); simpa [Nat.add_assoc, Nat.add_comm 1 j] using this) (fun j hj => by have := hob (j + 1) (by simp; omega); simpa [Nat.add_assoc, Nat.add_comm 1 j] using this) hA.2 (by omega) (inv.set hr' (by omega)) ?_ ?_ hB' (h g' hg' hf')
        · intro j hj
          rcases Nat.decEq k j with hkj | hkj
          · rw [getD_set_ne true hkj]; exact hd j (by omega)
          · subst hkj
            have hks : k < done.size := by rw [inv.size]; omega
            simp [hks]
        · obtain ⟨m, hm⟩ := hU
          refine ⟨max m (g' + 1), ?_⟩
          rintro x y (⟨rfl, _⟩ | hxy)
          · omega
          · have := hm _ _ hxy
            omega

theorem yieldsK_of_wpKeep {R : Act → Prop} {o : Oper} {rest : List Oper} {a : Act} (h : wpKeep P ops w R (o :: rest) a) : ∃ v, YieldsK P ops w o v a ∧ wpKeep P ops w R rest (a.put o.dst v) := by
  unfold wpKeep at h
  by_cases hw : Region.wanted o (yielded ops a.tmps) = true
  · rw [if_pos hw] at h
    obtain ⟨v, h1, h2⟩ := h
    exact ⟨v, .inl ⟨hw, h1⟩, h2⟩
  · rw [if_neg hw] at h
    exact ⟨undef, .inr ⟨by simpa using hw, rfl⟩, h⟩

theorem HeadF.lexQ {ob : Nat → Option Obj} {n g m : Nat} {L : Array Bool → Act → Used → Prop} {R : Act → Prop} {U : Used} (hsel : Region.noSelect ops = true) (hs : Region.sinkB md ops n = true) (hc : Region.chainB md ops n = true) (hn : n < ops.size)
    (hL : ∀ done a U, L done a U → ∀ j ∈ Region.ready md ops done, n ≤ j) (l : List Oper) :
    ∀ (k : Nat) (done : Array Bool) (a : Act), (∀ j, j < l.length → l[j]? = ops[k + j]?) → (∀ j, j < l.length → ob (k + j) = none) → k + l.length + m = n → HeadInv md ops n done → (∀ j, j < k → done.getD j true = true) →
      Region.lexHead md ops g (l.length + m) k done = true →
      (∀ done' a', HeadInv md ops n done' → (∀ j, j < k + l.length → done'.getD j true = true) → Region.lexHead md ops g m (k + l.length) done' = true → R a' → HeadF P md ops w ob n L m done' a' U) →
      wpKeep P ops w R l a → HeadF P md ops w ob n L (l.length + m) done a U := by
  induction l with
  | nil =>
    intro k done a _ _ _ inv hd hB hR h
    simp only [List.length_nil, Nat.zero_add, Nat.add_zero] at hB hR ⊢
    exact hR done a inv hd hB h
  | cons o l ih =>
    intro k done a hl hob hk inv hd hB hR h
    have h0 : ops[k]? = some o := by simpa using (hl 0 (by simp)).symm
    rw [show (o :: l).length + m = (l.length + m) + 1 by simp; omega] at hB ⊢
    simp only [Region.lexHead, Bool.and_eq_true] at hB
    simp only [List.length_cons] at hk hR
    obtain ⟨⟨hr, hf⟩, hB'⟩ := hB
    have hr' : k ∈ Region.ready md ops done := by simpa using hr
    obtain ⟨v, hy, hK⟩ := yieldsK_of_wpKeep h
    refine HeadF.first h0 (by simpa using hob 0 (by simp)) (Region.noSelect_spec hsel) hs hc hn (by omega) hL (l.length + m) done a U inv (Region.free_spec h0 hf) hr' hy ?_
    refine ih (k + 1) _ _ (fun j hj => by have := hl (j + 1) (by simp; omega); simpa [Nat.add_assoc, Nat.add_comm 1 j] using this) (fun j hj => by have := hob (j + 1) (by simp; omega); simpa [Nat.add_assoc, Nat.add_comm 1 j] using this) (by omega) (inv.set hr' (by omega)) ?_ hB' (fun done' a' i1 i2 i3 i4 => hR done' a' i1 (fun j hj => i2 j (by omega)) (by rw [show k + (l.length + 1) = k + 1 + l.length by omega]; exact i3) i4) hK
    intro j hj
    rcases Nat.decEq k j with hkj | hkj
    · rw [getD_set_ne true hkj]; exact hd j (by omega)
    · subst hkj
      have hks : k < done.size := by rw [inv.size]; omega
      simp [hks]

/-- **A drawn region with new blocks.** -/
theorem wp_region_fresh {id : Nat} {Q : Exit → Act → World → Prop} {a : Act} {l : List Oper} (n : Nat) (bs : List Obj) (hm : P.follows .mixedOrders = true) (hB : Region.lexTailB .any l.toArray (n + bs.length) = true)
    (hA : AllAlloc P l.toArray ((l.drop n).take bs.length) bs)
    (h : wpKeep P l.toArray w (fun a' => wpNew w (fun a'' U => ∀ W, U.ok w W → wpList P l.toArray Q (l.drop (n + bs.length)) a'' W) ((l.drop n).take bs.length) bs a' (fun _ _ => False)) (l.take n) a) : (Code.region id l.toArray true).wp P Q a w := by
  simp only [Region.lexTailB, Bool.and_eq_true, decide_eq_true_eq] at hB
  obtain ⟨⟨⟨⟨hsel, hn⟩, hs⟩, hc⟩, hlex⟩ := hB
  have hn' : n + bs.length < l.length := by simpa using hn
  have htl : (l.take n).length = n := by simp; omega
  have hal : ((l.drop n).take bs.length).length = bs.length := by simp; omega
  have hdl : (l.drop (n + bs.length)).length = l.toArray.size - (n + bs.length) := by simp
  have start : HeadInv .any l.toArray (n + bs.length) (Array.replicate l.toArray.size false) := by
    constructor
    · simp
    · intro j oj _ hl; rw [getD_replicate_false] at hl; cases hl
    · intro t _ ht; exact getD_in (by simpa using ht) (getD_replicate_false _ _)
  let ob : Nat → Option Obj := fun i => if n ≤ i then bs[i - n]? else none
  have H := HeadF.lexQ (P := P) (w := w) (md := .any) (ob := ob) (g := l.toArray.size - (n + bs.length)) (m := bs.length) (U := fun _ _ => False)
    (L := fun done' a' U' => Region.seqB .any l.toArray (l.toArray.size - (n + bs.length)) (n + bs.length) done' = true ∧ ∀ W, U'.ok w W → wpList P l.toArray Q (l.drop (n + bs.length)) a' W)
    hsel hs hc hn (fun done a U hL => seqB_ready hL.1) (l.take n) 0 _ a (fun j hj => by rw [htl] at hj; simp [hj]) (fun j hj => by rw [htl] at hj; simp only [ob]; rw [if_neg (by omega)]) (by rw [htl]; omega) start (fun j hj => by omega)
    (by rw [htl]; exact hlex)
    (fun done' a' inv hd hB' hR => by
      rw [htl] at hd hB'
      have := HeadF.lexA (P := P) (w := w) (md := .any) (ob := ob) (n := n + bs.length) (g := l.toArray.size - (n + bs.length)) hs hc hn ((l.drop n).take bs.length) bs (0 + n) done' a' (fun _ _ => False)
        (fun j hj => by rw [hal] at hj; simp [hj]) (fun j hj => by simp only [ob]; rw [if_pos (by omega), show 0 + n + j - n = j by omega]) hA (by rw [hal]; omega) inv hd ⟨0, fun _ _ h => h.elim⟩ (by rw [hal]; exact hB') hR
      rwa [hal] at this) h
  rw [htl] at H
  refine wp_region_any hm ?_
  have := HeadF.any (Q := Q) (g := l.toArray.size - (n + bs.length)) (fun done a' U W hW hL => by
    have := wpAny_of_seq (md := .any) (Q' := Q) (l.drop (n + bs.length)) (n + bs.length) done a' W (fun j => by simp [List.getElem?_drop]) (by rw [hdl]; exact hL.1) (hL.2 W hW)
    rwa [hdl] at this) _ _ _ _ _ (show Used.ok (fun _ _ => False) w { w with drawn := w.drawn + 1 } from ⟨(Below.refl w.heap.size w).drew, fun _ _ h => h.elim⟩) H
  rwa [show n + bs.length + (l.toArray.size - (n + bs.length)) = l.toArray.size by omega] at this
end
end Go.Proofs.YtmfejdikfpckdaaGreatDoor

namespace Go.Proofs.YtmfejdikfpckdaaGreatDoor
open Go.RowKit
set_option linter.unusedVariables false

/-- All that lay in w is as it was, but for block z. -/
structure BelowZ (z : Nat) (w W : World) : Prop where
  all : Below 0 w W
  block : ∀ k, k < w.heap.size → k ≠ z → W.heap[k]? = w.heap[k]?
theorem BelowZ.refl (z : Nat) (w : World) : BelowZ z w w := ⟨Below.refl 0 w, fun _ _ _ => rfl⟩
theorem BelowZ.blk {z g : Nat} {w W : World} {t : TypeId} {cs : Array Value} (h : BelowZ z w W) (hk : Blk w g t cs) (hz : g ≠ z) : Blk W g t cs := (h.block g hk.lt hz).trans hk
theorem BelowZ.below {z B : Nat} {w0 w W : World} (h : BelowZ z w W) (hB : Below B w0 w) (hz : B ≤ z) (hs : B ≤ w.heap.size) : Below B w0 W :=
  hB.trans ⟨h.all.os, h.all.tape, h.all.output, h.all.size, h.all.drawn, fun k hk => by
    rcases Nat.lt_or_ge k w.heap.size with hw | hw
    · exact h.block k hw (by omega)
    · exact absurd hw (by omega)⟩
structure ExtZ (w : World) (z : Nat) where
  «to» : World
  h : BelowZ z w «to»
instance (w : World) (z : Nat) : Nonempty (ExtZ w z) := ⟨⟨w, BelowZ.refl _ _⟩⟩
section
variable {P : Program} {ops : Array Oper} {md : Region.Mode} {w : World} {z : Nat}

/-- The operation turns block z from b0 to b1, and nothing else. -/
def StoresZ (P : Program) (ops : Array Oper) (o : Oper) (a : Act) (z : Nat) (b0 b1 : Obj) : Prop :=
  Region.wanted o (yielded ops a.tmps) = true ∧ ∀ W : World, W.heap[z]? = some b0 → ∃ W', (execOp a.eval o).run P W = .ok .skip W' ∧ W'.heap[z]? = some b1 ∧ (∀ k, k ≠ z → W'.heap[k]? = W.heap[k]?) ∧ Below 0 W W'
theorem StoresZ.of_same {o : Oper} {a a' : Act} {b0 b1 : Obj} (hy : StoresZ P ops o a z b0 b1) (he : execOp a'.eval o = execOp a.eval o) (hw : Region.wanted o (yielded ops a'.tmps) = Region.wanted o (yielded ops a.tmps)) : StoresZ P ops o a' z b0 b1 := by
  unfold StoresZ at *
  rw [he, hw]
  exact hy

end
end Go.Proofs.YtmfejdikfpckdaaGreatDoor

namespace Go.Proofs.YtmfejdikfpckdaaGreatDoor
open Go.RowKit
set_option linter.unusedVariables false

theorem blk_setCells {b : Nat} {T : TypeId} : ∀ (vs : List Value) (o : Nat) (cs : Array Value) (W : World), Blk W b T cs → o + vs.length ≤ cs.size →
    ∃ cs', Blk (W.setCells b o vs) b T cs' ∧ cs'.size = cs.size ∧ (∀ j, j < o → cs'[j]? = cs[j]?) ∧ (∀ j, j < vs.length → cs'[o + j]? = vs[j]?)
  | [], o, cs, W, h, _ => ⟨cs, h, rfl, fun _ _ => rfl, fun j hj => by simp at hj⟩
  | v :: r, o, cs, W, h, hl => by
    simp only [List.length_cons] at hl
    obtain ⟨cs', h1, h2, h3, h4⟩ := blk_setCells r (o + 1) (cs.setIfInBounds o v) _ (h.set_ o v) (by simp; omega)
    refine ⟨cs', h1, by simpa using h2, fun j hj => ?_, fun j hj => ?_⟩
    · rw [h3 j (by omega), Array.getElem?_setIfInBounds_ne (by omega)]
    · cases j with
      | zero =>
        rw [Nat.add_zero, h3 o (by omega), Array.getElem?_setIfInBounds_self_of_lt (by omega)]
        rfl
      | succ j =>
        have := h4 j (by simpa using hj)
        rw [show o + (j + 1) = o + 1 + j by omega, this]
        rfl
theorem blk_setAll {b : Nat} {T : TypeId} {cs : Array Value} {W : World} (vs : List Value) (h : Blk W b T cs) (hl : vs.length = cs.size) : Blk (W.setCells b 0 vs) b T vs.toArray := by
  obtain ⟨cs', h1, h2, _, h4⟩ := blk_setCells vs 0 cs W h (by omega)
  have : cs' = vs.toArray := by
    apply Array.ext_getElem?
    intro j
    rcases Nat.lt_or_ge j vs.length with hj | hj
    · have := h4 j hj
      simpa using this
    · rw [Array.getElem?_eq_none (by omega), Array.getElem?_eq_none (by simpa using hj)]
  rwa [this] at h1
theorem setCells_far {b : Nat} : ∀ (vs : List Value) (o : Nat) (W : World), (∀ k, k ≠ b → (W.setCells b o vs).heap[k]? = W.heap[k]?) ∧ Below 0 W (W.setCells b o vs)
  | [], o, W => ⟨fun _ _ => rfl, Below.refl _ _⟩
  | v :: r, o, W => by
    obtain ⟨h1, h2⟩ := setCells_far (b := b) r (o + 1) (W.setCell ⟨b, o, none⟩ v)
    exact ⟨fun k hk => (h1 k hk).trans (Below.heap_setCell W ⟨b, o, none⟩ v k hk), ((Below.refl 0 W).setCell (Nat.zero_le _) v).trans h2⟩

theorem run_storeAt {P : Program} {t : TypeId} {b : Nat} {vs : List Value} {cs : Array Value} {T : TypeId} {W : World} (h : Blk W b T cs) (hl : vs.length = cs.size) (h1 : ∀ v ∈ vs, v.oneCell' = true) (hs : (sizeOf t).run P W = .ok vs.length W) :
    (Instr.storeAt t (.pointer (some ⟨b, 0, none⟩)) (.agg vs.toArray)).run P W = .ok () (W.setCells b 0 vs) := by
  have hc := run_storeCells_cells (P := P) b 0 vs 0 W (fun j hj => by have e := h.cell (0 + 0 + j); rw [Array.getElem?_eq_getElem (by omega)] at e; rw [e]; rfl) (fun j hj => h.frozen _) h1
  simp only [Nat.add_zero] at hc
  unfold Instr.storeAt storeVar
  simp [go_sem, hs, Value.cells, hc]

end Go.Proofs.YtmfejdikfpckdaaGreatDoor

namespace Go.Proofs.YtmfejdikfpckdaaGreatDoor
open Go.RowKit
set_option linter.unusedVariables false

section
variable {P : Program} {ops : Array Oper} {md : Region.Mode} {w : World}
abbrev Newly := Option (Nat × Obj)
def Newly.ok (c : Newly) (w W : World) : Prop := Below w.heap.size w W ∧ ∀ g b, c = some (g, b) → w.heap.size ≤ g ∧ W.heap[g]? = some b
theorem Newly.ok.below {c : Newly} {W W' : World} (h : c.ok w W) (hb : Below W.heap.size W W') : c.ok w W' :=
  ⟨h.1.trans (hb.mono h.1.size), fun g b hc => by
    obtain ⟨h1, h2⟩ := h.2 g b hc
    exact ⟨h1, by rw [hb.block g (Array.getElem?_eq_some_iff.1 h2).1]; exact h2⟩⟩

def HeadG (P : Program) (md : Region.Mode) (ops : Array Oper) (w : World) (b0 b1 : Obj) (n : Nat) (L : Array Bool → Act → Newly → Prop) : Nat → Array Bool → Act → Newly → Prop
  | 0, done, a, c => L done a c
  | f + 1, done, a, c => Region.ready md ops done ≠ [] ∧ ∀ i ∈ Region.ready md ops done, i < n + 2 ∧ ∃ o, ops[i]? = some o ∧
      ((i < n ∧ ∃ v, YieldsK P ops w o v a ∧ HeadG P md ops w b0 b1 n L f (done.setIfInBounds i true) (a.put o.dst v) c) ∨
       (i = n ∧ Allocs P ops o b0 ∧ ∀ g, w.heap.size ≤ g → HeadG P md ops w b0 b1 n L f (done.setIfInBounds i true) (a.put o.dst (.pointer (some ⟨g, 0, none⟩))) (some (g, b0))) ∨
       (i = n + 1 ∧ ∃ g, c = some (g, b0) ∧ StoresZ P ops o a g b0 b1 ∧ HeadG P md ops w b0 b1 n L f (done.setIfInBounds i true) (a.put o.dst undef) (some (g, b1))))

theorem HeadG.any {b0 b1 : Obj} {n g : Nat} {L : Array Bool → Act → Newly → Prop} {Q : Exit → Act → World → Prop} (hL : ∀ done a c W, Newly.ok c w W → L done a c → wpAny P md ops Q g done a W) (f : Nat) :
    ∀ (done : Array Bool) (a : Act) (c : Newly) (W : World), Newly.ok c w W → HeadG P md ops w b0 b1 n L f done a c → wpAny P md ops Q (f + g) done a W := by
  induction f with
  | zero => intro done a c W hw h; rw [Nat.zero_add]; exact hL _ _ _ _ hw h
  | succ f ih =>
    intro done a c W hw h
    rw [show f + 1 + g = (f + g) + 1 by omega]
    refine ⟨fun h0 => absurd h0 h.1, fun i hi => ?_⟩
    obtain ⟨_, o, ho, ⟨_, v, hy, hK⟩ | ⟨_, hA, hK⟩ | ⟨_, z, rfl, ⟨h1, h2⟩, hK⟩⟩ := h.2 i hi
    · refine wpOp_of_qOp (C := fun w' => Below W.heap.size W w') (K := fun a' => a' = a.put o.dst v) (Below.refl _ _) (fun a' w' hw' e => by subst e; exact ih _ _ _ _ (hw.below hw') hK) ?_
      unfold qOp
      simp only [ho]
      rcases hy with ⟨h1, h2⟩ | ⟨h1, rfl⟩
      · rw [if_pos h1]
        exact ⟨v, fun w' hw' => quietUpon_mono (fun w'' h' => hw'.trans (h'.mono hw'.size)) (h2 ⟨w', hw.1.trans (hw'.mono hw.1.size)⟩), rfl⟩
      · rw [if_neg (by rw [h1]; exact Bool.false_ne_true)]
    · obtain ⟨h1, h2⟩ := hA a W
      unfold wpOp
      simp only [ho]
      rw [if_pos h1]
      refine .inl ?_
      unfold Oper.wp
      rw [h2]
      refine ih _ _ _ _ ⟨hw.1.alloc hw.1.size b0, ?_⟩ (hK _ hw.1.size)
      rintro x y he
      injection he with he
      injection he with h3 h4
      subst h3
      subst h4
      exact ⟨hw.1.size, heap_alloc_new W b0⟩
    · obtain ⟨hz1, hz2⟩ := hw.2 z b0 rfl
      obtain ⟨W', hrun, hz', hk, hB⟩ := h2 W hz2
      unfold wpOp
      simp only [ho]
      rw [if_pos h1]
      refine .inl ?_
      unfold Oper.wp
      rw [hrun]
      refine ih _ _ _ _ ⟨?_, ?_⟩ hK
      · have hZ : BelowZ z W W' := ⟨hB, fun k _ hne => hk k hne⟩
        exact hZ.below hw.1 hz1 hw.1.size
      · rintro x y he
        injection he with he
        injection he with h3 h4
        subst h3
        subst h4
        exact ⟨hz1, hz'⟩

section
variable {b0 b1 : Obj} {n : Nat} {L : Array Bool → Act → Newly → Prop}
theorem HeadG.first {i : Nat} {oi : Oper} {v : Value} (hi : ops[i]? = some oi) (hob : i < n) (hsel : ∀ (j : Nat) (o : Oper) cs b, ops[j]? = some o → o.op ≠ .select cs b)
    (hs : Region.sinkB md ops (n + 2) = true) (hc : Region.chainB md ops (n + 2) = true) (hn : n + 2 < ops.size) (hL : ∀ done a c, L done a c → ∀ j ∈ Region.ready md ops done, n + 2 ≤ j) (f : Nat) :
    ∀ (done : Array Bool) (a : Act) (c : Newly), HeadInv md ops (n + 2) done →
      (∀ j oj, ops[j]? = some oj → j ≠ i → done.getD j true = false → (∀ e ∈ oj.after, Region.binds md e = true → e.on ≠ i) → oi.apart ops oj = true) →
      i ∈ Region.ready md ops done → YieldsK P ops w oi v a → HeadG P md ops w b0 b1 n L f (done.setIfInBounds i true) (a.put oi.dst v) c → HeadG P md ops w b0 b1 n L (f + 1) done a c := by
  have low : ∀ done, HeadInv md ops (n + 2) done → i ∈ Region.ready md ops done → ∀ j ∈ Region.ready md ops done, j < n + 2 := fun done inv hr j hj => by
    rcases Nat.lt_or_ge j (n + 2) with h | h
    · exact h
    · exact absurd hj (tail_waits hs hc hn inv _ i rfl (by omega) (mem_ready.1 hr).1 j h)
  induction f with
  | zero =>
    intro done a c inv _ hr hy H
    refine ⟨fun h => (by rw [h] at hr; cases hr), fun j hj => ⟨low done inv hr j hj, ?_⟩⟩
    rcases Nat.decEq j i with hji | hji
    · have := hL _ _ _ H j (ready_mono hj hji)
      have := low done inv hr j hj
      omega
    · subst hji; exact ⟨oi, hi, .inl ⟨hob, v, hy, H⟩⟩
  | succ f ih =>
    intro done a c inv hfree hr hy H
    refine ⟨fun h => (by rw [h] at hr; cases hr), fun j hj => ⟨low done inv hr j hj, ?_⟩⟩
    rcases Nat.decEq j i with hji | hji
    · obtain ⟨hjun, oj, hoj, hall⟩ := mem_ready.1 hj
      have hun := (mem_ready.1 hr).1
      have hnot : ∀ e ∈ oj.after, Region.binds md e = true → e.on ≠ i := fun e he hb heq => by
        have h1 := hall e he hb
        rw [heq, getD_both hun] at h1
        cases h1
      obtain ⟨h1, h2, h3⟩ := Oper.apart_spec (hfree j oj hoj hji hjun hnot)
      have hfree' : ∀ k ok, ops[k]? = some ok → k ≠ i → (done.setIfInBounds j true).getD k true = false → (∀ e ∈ ok.after, Region.binds md e = true → e.on ≠ i) → oi.apart ops ok = true := fun k ok hk hki hun' hno => by
        refine hfree k ok hk hki ?_ hno
        rcases Nat.decEq j k with hjk | hjk
        · rw [getD_set_ne true hjk] at hun'; exact hun'
        · subst hjk; exact hjun
      have inv' := inv.set hj (low done inv hr j hj)
      have hr' := ready_mono hr (Ne.symm hji)
      refine ⟨oj, hoj, ?_⟩
      obtain ⟨_, oj', hoj', hh⟩ := H.2 j (ready_mono hj hji)
      obtain rfl : oj = oj' := Option.some.inj (hoj.symm.trans hoj')
      rcases hh with ⟨hb, u, hu, hK⟩ | ⟨hb, hA, hK⟩ | ⟨hb, g, hcg, hA, hK⟩
      · refine .inl ⟨hb, u, hu.unput (fun cs b => hsel j oj cs b hoj) h1, ih _ _ _ inv' hfree' hr' (hy.put (fun cs b => hsel i oi cs b hi) h3) ?_⟩
        rw [Array.setIfInBounds_comm _ _ hji, ← Act.put_comm a v u h2]
        exact hK
      · refine .inr (.inl ⟨hb, hA, fun g hg => ih _ _ _ inv' hfree' hr' (hy.put (fun cs b => hsel i oi cs b hi) h3) ?_⟩)
        rw [Array.setIfInBounds_comm _ _ hji, ← Act.put_comm a v _ h2]
        exact hK g hg
      · refine .inr (.inr ⟨hb, g, hcg, hA.of_same (execOp_put oj (fun cs b => hsel j oj cs b hoj) a oi.dst v h1).symm (wanted_put oj a oi.dst v h1).symm, ih _ _ _ inv' hfree' hr' (hy.put (fun cs b => hsel i oi cs b hi) h3) ?_⟩)
        rw [Array.setIfInBounds_comm _ _ hji, ← Act.put_comm a v _ h2]
        exact hK
    · subst hji; exact ⟨oi, hi, .inl ⟨hob, v, hy, H⟩⟩
end

theorem HeadG.lex {b0 b1 : Obj} {n g : Nat} {R : Nat → Act → Prop} {o1 os : Oper} (ho1 : ops[n]? = some o1) (hos : ops[n + 1]? = some os) (hA : Allocs P ops o1 b0) (hdep : os.after.any (fun e => Region.binds md e && e.on == n) = true)
    (hsel : Region.noSelect ops = true) (hs : Region.sinkB md ops (n + 2) = true) (hc : Region.chainB md ops (n + 2) = true) (hn : n + 2 < ops.size) (l : List Oper) :
    ∀ (k : Nat) (done : Array Bool) (a : Act), (∀ j, j < l.length → l[j]? = ops[k + j]?) → k + l.length = n → HeadInv md ops (n + 2) done → (∀ j, j < k → done.getD j true = true) →
      Region.lexHead md ops g (l.length + 2) k done = true →
      wpKeep P ops w (fun a' => ∀ z, w.heap.size ≤ z → StoresZ P ops os (a'.put o1.dst (.pointer (some ⟨z, 0, none⟩))) z b0 b1 ∧ R z ((a'.put o1.dst (.pointer (some ⟨z, 0, none⟩))).put os.dst undef)) l a →
      HeadG P md ops w b0 b1 n (fun done' a' c => Region.seqB md ops g (n + 2) done' = true ∧ ∃ z, w.heap.size ≤ z ∧ c = some (z, b1) ∧ R z a') (l.length + 2) done a none := by
  induction l with
  | nil =>
    intro k done a _ hk inv hd hB h
    obtain rfl : k = n := by simpa using hk
    simp only [List.length_nil, Nat.zero_add, Region.lexHead, Bool.and_eq_true] at hB ⊢
    obtain ⟨⟨hr, hf⟩, ⟨hr2, hf2⟩, hB'⟩ := hB
    have hr' : k ∈ Region.ready md ops done := by simpa using hr
    have hr2' : k + 1 ∈ Region.ready md ops (done.setIfInBounds k true) := by simpa using hr2
    have inv2 := inv.set hr' (by omega)
    have hd2 : ∀ j, j < k + 1 → (done.setIfInBounds k true).getD j true = true := fun j hj => by
      rcases Nat.decEq k j with hkj | hkj
      · rw [getD_set_ne true hkj]; exact hd j (by omega)
      · subst hkj
        have hks : k < done.size := by rw [inv.size]; omega
        simp [hks]
    refine ⟨fun h0 => (by rw [h0] at hr'; cases hr'), fun j hj => ?_⟩
    have hlt : j < k + 2 := by
      rcases Nat.lt_or_ge j (k + 2) with h' | h'
      · exact h'
      · exact absurd hj (tail_waits hs hc hn inv _ k rfl (by omega) (mem_ready.1 hr').1 j h')
    have hjk : j = k := by
      rcases Nat.lt_or_ge j k with h' | h'
      · have := hd j h'
        rw [(mem_ready.1 hj).1] at this
        cases this
      · rcases Nat.lt_or_ge j (k + 1) with h'' | h''
        · omega
        · obtain rfl : j = k + 1 := by omega
          obtain ⟨_, oj, hoj, hall⟩ := mem_ready.1 hj
          obtain rfl : os = oj := Option.some.inj (hos.symm.trans hoj)
          obtain ⟨e, he, hb⟩ := Array.any_eq_true'.1 hdep
          simp only [Bool.and_eq_true, beq_iff_eq] at hb
          have := hall e he hb.1
          rw [hb.2, getD_both (mem_ready.1 hr').1] at this
          cases this
    subst hjk
    refine ⟨hlt, o1, ho1, .inr (.inl ⟨rfl, hA, fun z hz => ?_⟩)⟩
    refine ⟨fun h0 => (by rw [h0] at hr2'; cases hr2'), fun i hi => ?_⟩
    have hlt2 : i < j + 2 := by
      rcases Nat.lt_or_ge i (j + 2) with h' | h'
      · exact h'
      · exact absurd hi (tail_waits hs hc hn inv2 _ (j + 1) rfl (by omega) (mem_ready.1 hr2').1 i h')
    have hij : i = j + 1 := by
      rcases Nat.lt_or_ge i (j + 1) with h' | h'
      · have := hd2 i h'
        rw [(mem_ready.1 hi).1] at this
        cases this
      · omega
    subst hij
    exact ⟨hlt2, os, hos, .inr (.inr ⟨rfl, z, rfl, (h z hz).1, hB', z, hz, rfl, (h z hz).2⟩)⟩
  | cons o l ih =>
    intro k done a hl hk inv hd hB h
    have h0 : ops[k]? = some o := by simpa using (hl 0 (by simp)).symm
    rw [show (o :: l).length + 2 = (l.length + 2) + 1 by simp only [List.length_cons]] at hB ⊢
    rw [Region.lexHead, Bool.and_eq_true, Bool.and_eq_true] at hB
    simp only [List.length_cons] at hk
    obtain ⟨⟨hr, hf⟩, hB'⟩ := hB
    have hr' : k ∈ Region.ready md ops done := by simpa using hr
    obtain ⟨v, hy, hK⟩ := yieldsK_of_wpKeep h
    refine HeadG.first h0 (by omega) (Region.noSelect_spec hsel) hs hc hn (fun done' a' U' hL => seqB_ready hL.1) (l.length + 2) done a none inv (Region.free_spec h0 hf) hr' hy ?_
    refine ih (k + 1) _ _ (fun j hj => by have := hl (j + 1) (by simp; omega); simpa [Nat.add_assoc, Nat.add_comm 1 j] using this) (by omega) (inv.set hr' (by omega)) ?_ hB' hK
    intro j hj
    rcases Nat.decEq k j with hkj | hkj
    · rw [getD_set_ne true hkj]; exact hd j (by omega)
    · subst hkj
      have hks : k < done.size := by rw [inv.size]; omega
      simp [hks]

/-- **A drawn region that makes a block and stores into it, its reads and calls in any order.** -/
theorem wp_region_newput {id : Nat} {Q : Exit → Act → World → Prop} {a : Act} {l : List Oper} {o1 os : Oper} (n : Nat) (b0 b1 : Obj) (hm : P.follows .mixedOrders = true) (hB : Region.lexTailB .any l.toArray (n + 2) = true)
    (ho1 : l[n]? = some o1) (hos : l[n + 1]? = some os) (hA : Allocs P l.toArray o1 b0) (hdep : os.after.any (fun e => Region.binds .any e && e.on == n) = true)
    (h : wpKeep P l.toArray w (fun a' => ∀ z, w.heap.size ≤ z → StoresZ P l.toArray os (a'.put o1.dst (.pointer (some ⟨z, 0, none⟩))) z b0 b1 ∧ ∀ W, Below w.heap.size w W → W.heap[z]? = some b1 → wpList P l.toArray Q (l.drop (n + 2)) ((a'.put o1.dst (.pointer (some ⟨z, 0, none⟩))).put os.dst undef) W) (l.take n) a) : (Code.region id l.toArray true).wp P Q a w := by
  simp only [Region.lexTailB, Bool.and_eq_true, decide_eq_true_eq] at hB
  obtain ⟨⟨⟨⟨hsel, hn⟩, hs⟩, hc⟩, hlex⟩ := hB
  have hn' : n + 2 < l.length := by simpa using hn
  have htl : (l.take n).length = n := by simp; omega
  have hdl : (l.drop (n + 2)).length = l.toArray.size - (n + 2) := by simp
  have start : HeadInv .any l.toArray (n + 2) (Array.replicate l.toArray.size false) := by
    constructor
    · simp
    · intro j oj _ hl; rw [getD_replicate_false] at hl; cases hl
    · intro t _ ht; exact getD_in (by simpa using ht) (getD_replicate_false _ _)
  have H := HeadG.lex (P := P) (w := w) (b0 := b0) (b1 := b1) (md := .any) (g := l.toArray.size - (n + 2)) (R := fun z a' => ∀ W, Below w.heap.size w W → W.heap[z]? = some b1 → wpList P l.toArray Q (l.drop (n + 2)) a' W) (o1 := o1) (os := os)
    (by simpa using ho1) (by simpa using hos) hA hdep hsel hs hc hn (l.take n) 0 _ a (fun j hj => by rw [htl] at hj; simp [hj]) (by rw [htl]; omega) start (fun j hj => by omega) (by rw [htl]; exact hlex) h
  rw [htl] at H
  refine wp_region_any hm ?_
  have := HeadG.any (Q := Q) (g := l.toArray.size - (n + 2)) (fun done a' c W hW hL => by
    obtain ⟨h1, z, hz, rfl, h2⟩ := hL
    have := wpAny_of_seq (md := .any) (Q' := Q) (l.drop (n + 2)) (n + 2) done a' W (fun j => by simp [List.getElem?_drop]) (by rw [hdl]; exact h1) (h2 W hW.1 (hW.2 z b1 rfl).2)
    rwa [hdl] at this) _ _ _ _ _ (show Newly.ok none w { w with drawn := w.drawn + 1 } from ⟨(Below.refl w.heap.size w).drew, fun _ _ h => by cases h⟩) H
  rwa [show n + 2 + (l.toArray.size - (n + 2)) = l.toArray.size by omega] at this
end
end Go.Proofs.YtmfejdikfpckdaaGreatDoor

namespace Go.Proofs.YtmfejdikfpckdaaGreatDoor
open Go.RowKit
set_option linter.unusedVariables false

/-- What is known of blocks that the region makes or changes. -/
abbrev Ov := Nat → Option Obj
def Ov.put (U : Ov) (g : Nat) (b : Obj) : Ov := fun k => if k = g then some b else U k
theorem Ov.put_same (U : Ov) (g : Nat) (b : Obj) : U.put g b g = some b := if_pos rfl
theorem Ov.put_ne (U : Ov) {g k : Nat} (b : Obj) (h : k ≠ g) : U.put g b k = U k := if_neg h
theorem Ov.put_comm (U : Ov) {g h : Nat} (b c : Obj) (hne : g ≠ h) : (U.put g b).put h c = (U.put h c).put g b := by
  funext k
  by_cases h1 : k = h
  · subst h1; rw [Ov.put_same, Ov.put_ne _ _ (Ne.symm hne), Ov.put_same]
  · rw [Ov.put_ne _ _ h1]
    by_cases h2 : k = g
    · subst h2; rw [Ov.put_same, Ov.put_same]
    · rw [Ov.put_ne _ _ h2, Ov.put_ne _ _ h2, Ov.put_ne _ _ h1]
def Ov.fin (U : Ov) : Prop := ∃ x, ∀ g b, U g = some b → g < x
theorem Ov.fin.put {U : Ov} (h : U.fin) (g : Nat) (b : Obj) : (U.put g b).fin := by
  obtain ⟨x, hx⟩ := h
  refine ⟨max x (g + 1), fun k c hu => ?_⟩
  by_cases hk : k = g
  · omega
  · rw [Ov.put_ne _ _ hk] at hu
    have := hx _ _ hu
    omega
theorem Ov.fin.new {U : Ov} (h : U.fin) (n : Nat) : ∃ g, n ≤ g ∧ U g = none := by
  obtain ⟨x, hx⟩ := h
  refine ⟨max x n, Nat.le_max_right _ _, ?_⟩
  cases hu : U (max x n) with
  | none => rfl
  | some c => have := hx _ _ hu; omega
structure Ov.ok (U : Ov) (w W : World) : Prop where
  all : Below 0 w W
  keep : ∀ k, k < w.heap.size → U k = none → W.heap[k]? = w.heap[k]?
  has : ∀ k b, U k = some b → W.heap[k]? = some b
def Ov.still (U : Ov) (w : World) : Prop := ∀ k b, k < w.heap.size → U k = some b → w.heap[k]? = some b
theorem Ov.ok.below {U : Ov} {w W : World} (h : U.ok w W) (hs : U.still w) : Below w.heap.size w W :=
  ⟨h.all.os, h.all.tape, h.all.output, h.all.size, h.all.drawn, fun k hk => by
    cases hu : U k with
    | none => exact h.keep k hk hu
    | some b => exact (h.has k b hu).trans (hs k b hk hu).symm⟩
theorem Ov.ok.go {U : Ov} {w W W' : World} (h : U.ok w W) (hb : Below W.heap.size W W') : U.ok w W' :=
  ⟨h.all.trans (hb.mono (Nat.zero_le _)), fun k hk hu => (hb.block k (Nat.lt_of_lt_of_le hk h.all.size)).trans (h.keep k hk hu), fun k b hu => by
    have := h.has k b hu
    rw [hb.block k (Array.getElem?_eq_some_iff.1 this).1]
    exact this⟩
theorem Ov.ok.new {U : Ov} {w W : World} (h : U.ok w W) : U W.heap.size = none := by
  cases hu : U W.heap.size with
  | none => rfl
  | some b =>
    have := (Array.getElem?_eq_some_iff.1 (h.has _ b hu)).1
    omega
theorem Ov.ok.alloc {U : Ov} {w W : World} (h : U.ok w W) (b : Obj) : (U.put W.heap.size b).ok w (W.alloc b) := by
  have hg := h.go ((Below.refl W.heap.size W).alloc (Nat.le_refl _) b)
  refine ⟨hg.all, fun k hk hu => ?_, fun k c hu => ?_⟩
  · by_cases hk2 : k = W.heap.size
    · subst hk2; rw [Ov.put_same] at hu; cases hu
    · rw [Ov.put_ne _ _ hk2] at hu; exact hg.keep k hk hu
  · by_cases hk2 : k = W.heap.size
    · subst hk2
      rw [Ov.put_same] at hu
      injection hu with hu
      subst hu
      exact heap_alloc_new W b
    · rw [Ov.put_ne _ _ hk2] at hu; exact hg.has k c hu
theorem Ov.ok.store {U : Ov} {w W W' : World} {z : Nat} {b1 : Obj} (h : U.ok w W) (hz : W'.heap[z]? = some b1) (hk : ∀ k, k < W.heap.size → k ≠ z → W'.heap[k]? = W.heap[k]?) (hB : Below 0 W W') : (U.put z b1).ok w W' := by
  refine ⟨h.all.trans hB, fun k hk' hu => ?_, fun k c hu => ?_⟩
  · by_cases hk2 : k = z
    · subst hk2; rw [Ov.put_same] at hu; cases hu
    · rw [Ov.put_ne _ _ hk2] at hu; exact (hk k (Nat.lt_of_lt_of_le hk' h.all.size) hk2).trans (h.keep k hk' hu)
  · by_cases hk2 : k = z
    · subst hk2
      rw [Ov.put_same] at hu
      injection hu with hu
      subst hu
      exact hz
    · rw [Ov.put_ne _ _ hk2] at hu; exact (hk k (Array.getElem?_eq_some_iff.1 (h.has k c hu)).1 hk2).trans (h.has k c hu)
theorem Ov.ok.less {U : Ov} {w W : World} {g : Nat} {b : Obj} (h : (U.put g b).ok w W) (hg : w.heap.size ≤ g) (hu : U g = none) : U.ok w W :=
  ⟨h.all, fun k hk hk2 => h.keep k hk (by rw [Ov.put_ne _ _ (by omega)]; exact hk2), fun k c hk => h.has k c (by rw [Ov.put_ne _ _ (fun e => by subst e; rw [hu] at hk; cases hk)]; exact hk)⟩

/-- A world behind w in which, of what lay in w, only blocks of Z may have changed. -/
def StW (Z : Nat → Prop) (w W : World) : Prop := Below 0 w W ∧ ∀ k, k < w.heap.size → ¬ Z k → W.heap[k]? = w.heap[k]?
/-- What is known of old blocks outside Z is what lay there. -/
def Ov.inv (U : Ov) (Z : Nat → Prop) (w : World) : Prop := ∀ k b, k < w.heap.size → ¬ Z k → U k = some b → w.heap[k]? = some b
theorem Ov.ok.st {U : Ov} {Z : Nat → Prop} {w W : World} (h : U.ok w W) (hi : U.inv Z w) : StW Z w W :=
  ⟨h.all, fun k hk hz => by
    cases hu : U k with
    | none => exact h.keep k hk hu
    | some b => exact (h.has k b hu).trans (hi k b hk hz hu).symm⟩
theorem Ov.inv.put {U : Ov} {Z : Nat → Prop} {w : World} (h : U.inv Z w) {z : Nat} (b : Obj) (hz : Z z ∨ w.heap.size ≤ z) : (U.put z b).inv Z w := fun k c hk hn hu => by
  by_cases hk2 : k = z
  · subst hk2
    rcases hz with hz | hz
    · exact absurd hz hn
    · omega
  · rw [Ov.put_ne _ _ hk2] at hu; exact h k c hk hn hu
theorem StW.go {Z : Nat → Prop} {w W W' : World} (h : StW Z w W) (hb : Below W.heap.size W W') : StW Z w W' :=
  ⟨h.1.trans (hb.mono (Nat.zero_le _)), fun k hk hz => (hb.block k (Nat.lt_of_lt_of_le hk h.1.size)).trans (h.2 k hk hz)⟩
/-- Block z becomes b1; what else lay there stays. -/
def Post (z : Nat) (b1 : Obj) (W W' : World) : Prop := W'.heap[z]? = some b1 ∧ (∀ k, k < W.heap.size → k ≠ z → W'.heap[k]? = W.heap[k]?) ∧ Below 0 W W'
def upZ (P : Program) (z : Nat) (b1 : Obj) (W : World) (v : Value) : Result Next → Prop
  | .ok (.value u) W' => u = v ∧ Post z b1 W W'
  | .ok .skip W' => v = undef ∧ Post z b1 W W'
  | .ok (.enter f args) W' => W' = W ∧ Calls P f args W (fun e W'' => e = .returned v ∧ Post z b1 W W'')
  | _ => False

section
variable {P : Program} {ops : Array Oper} {md : Region.Mode} {w : World} {Z : Nat → Prop}

/-! What one operation may do -/
def YieldsU (P : Program) (ops : Array Oper) (w : World) (U : Ov) (o : Oper) (v : Value) (a : Act) : Prop :=
  (Region.wanted o (yielded ops a.tmps) = true ∧ ∀ W, U.ok w W → keepsAt P o a W v) ∨ (Region.wanted o (yielded ops a.tmps) = false ∧ v = undef)
def YieldsP (P : Program) (ops : Array Oper) (Z : Nat → Prop) (w : World) (o : Oper) (v : Value) (a : Act) : Prop :=
  (Region.wanted o (yielded ops a.tmps) = true ∧ ∀ W, StW Z w W → keepsAt P o a W v) ∨ (Region.wanted o (yielded ops a.tmps) = false ∧ v = undef)
def AllocsAt (P : Program) (ops : Array Oper) (o : Oper) (a : Act) (mk : Nat → Value) (b : Obj) : Prop :=
  Region.wanted o (yielded ops a.tmps) = true ∧ ∀ W, (execOp a.eval o).run P W = .ok (.value (mk W.heap.size)) (W.alloc b)
/-- The operation (a store, a call) makes b1 of the block z, that was b0, and yields v. -/
def StoresV (P : Program) (ops : Array Oper) (Z : Nat → Prop) (w : World) (o : Oper) (a : Act) (z : Nat) (b0 b1 : Obj) (v : Value) : Prop :=
  Region.wanted o (yielded ops a.tmps) = true ∧ ∀ W, StW Z w W → W.heap[z]? = some b0 → upZ P z b1 W v ((execOp a.eval o).run P W)
theorem StoresZ.v {o : Oper} {a : Act} {z : Nat} {b0 b1 : Obj} (h : StoresZ P ops o a z b0 b1) : StoresV P ops Z w o a z b0 b1 undef :=
  ⟨h.1, fun W _ hW => by
    obtain ⟨W', hr, h1, h2, h3⟩ := h.2 W hW
    rw [hr]
    exact ⟨rfl, h1, fun k _ hk => h2 k hk, h3⟩⟩
inductive Kd | q | p | a | s
def Eff (P : Program) (ops : Array Oper) (Z : Nat → Prop) (w : World) (o : Oper) (a : Act) (U : Ov) (K : Act → Ov → Prop) : Kd → Prop
  | .q => ∃ v, YieldsU P ops w U o v a ∧ K (a.put o.dst v) U
  | .p => ∃ v, YieldsP P ops Z w o v a ∧ K (a.put o.dst v) U
  | .a => ∃ mk b, AllocsAt P ops o a mk b ∧ ∀ g, w.heap.size ≤ g → U g = none → K (a.put o.dst (mk g)) (U.put g b)
  | .s => ∃ z b0 b1 v, (Z z ∨ w.heap.size ≤ z) ∧ U z = some b0 ∧ StoresV P ops Z w o a z b0 b1 v ∧ K (a.put o.dst v) (U.put z b1)
/-- These two must not change places: the later one has to wait. -/
def needE : Kd → Kd → Bool
  | .q, .s => true
  | .s, .q => true
  | .s, .s => true
  | .a, .q => true
  | .a, .p => true
  | .a, .s => true
  | _, _ => false
theorem Eff.mono {o : Oper} {a : Act} {U : Ov} {K K' : Act → Ov → Prop} {k : Kd} (hK : ∀ a U, K a U → K' a U) (h : Eff P ops Z w o a U K k) : Eff P ops Z w o a U K' k := by
  cases k with
  | q => obtain ⟨v, h1, h2⟩ := h; exact ⟨v, h1, hK _ _ h2⟩
  | p => obtain ⟨v, h1, h2⟩ := h; exact ⟨v, h1, hK _ _ h2⟩
  | a => obtain ⟨mk, b, h1, h2⟩ := h; exact ⟨mk, b, h1, fun g h3 h4 => hK _ _ (h2 g h3 h4)⟩
  | s => obtain ⟨z, b0, b1, v, h0, h1, h2, h3⟩ := h; exact ⟨z, b0, b1, v, h0, h1, h2, hK _ _ h3⟩
theorem AllocsAt.uniq {o : Oper} {a : Act} {mk mk' : Nat → Value} {b b' : Obj} (w : World) (h : AllocsAt P ops o a mk b) (h' : AllocsAt P ops o a mk' b') : mk = mk' ∧ b = b' := by
  have key : ∀ W : World, mk W.heap.size = mk' W.heap.size ∧ W.alloc b = W.alloc b' := fun W => by
    have e := (h.2 W).symm.trans (h'.2 W)
    injection e with e1 e2
    injection e1 with e1
    exact ⟨e1, e2⟩
  constructor
  · funext g
    have := (key { w with heap := Array.replicate g (.cells #[] 0) }).1
    simpa using this
  · have h3 := heap_alloc_new w b
    rw [(key w).2, heap_alloc_new w b'] at h3
    injection h3 with h3
    exact h3.symm
section
variable {oi oj : Oper} {a : Act} {U : Ov} {K : Act → Ov → Prop}
/-- What may change places does. -/
theorem Eff.comm {ki kj : Kd} (hn : needE ki kj = false) (si : ∀ cs b, oi.op ≠ .select cs b) (sj : ∀ cs b, oj.op ≠ .select cs b) (hap : oi.apart ops oj = true) (hU : U.fin)
    (h : Eff P ops Z w oi a U (fun a1 U1 => Eff P ops Z w oj a1 U1 K kj) ki) : Eff P ops Z w oj a U (fun a2 U2 => Eff P ops Z w oi a2 U2 K ki) kj := by
  obtain ⟨h1, h2, h3⟩ := Oper.apart_spec hap
  have ej : ∀ u, execOp (a.put oi.dst u).eval oj = execOp a.eval oj := fun u => execOp_put oj sj a oi.dst u h1
  have wj : ∀ u, Region.wanted oj (yielded ops (a.put oi.dst u).tmps) = Region.wanted oj (yielded ops a.tmps) := fun u => wanted_put oj a oi.dst u h1
  have ei : ∀ u, execOp (a.put oj.dst u).eval oi = execOp a.eval oi := fun u => execOp_put oi si a oj.dst u h3
  have wi : ∀ u, Region.wanted oi (yielded ops (a.put oj.dst u).tmps) = Region.wanted oi (yielded ops a.tmps) := fun u => wanted_put oi a oj.dst u h3
  have qj : ∀ {V : Ov} {v u}, YieldsU P ops w V oj v (a.put oi.dst u) → YieldsU P ops w V oj v a := fun hy => by unfold YieldsU keepsAt at *; rw [ej, wj] at hy; exact hy
  have pj : ∀ {v u}, YieldsP P ops Z w oj v (a.put oi.dst u) → YieldsP P ops Z w oj v a := fun hy => by unfold YieldsP keepsAt at *; rw [ej, wj] at hy; exact hy
  have aj : ∀ {mk b u}, AllocsAt P ops oj (a.put oi.dst u) mk b → AllocsAt P ops oj a mk b := fun hy => by unfold AllocsAt at *; rw [ej, wj] at hy; exact hy
  have sj' : ∀ {z b0 b1 v u}, StoresV P ops Z w oj (a.put oi.dst u) z b0 b1 v → StoresV P ops Z w oj a z b0 b1 v := fun hy => by unfold StoresV at *; rw [ej, wj] at hy; exact hy
  have qi : ∀ {V : Ov} {v u}, YieldsU P ops w V oi v a → YieldsU P ops w V oi v (a.put oj.dst u) := fun hy => by unfold YieldsU keepsAt at *; rw [ei, wi]; exact hy
  have pi' : ∀ {v u}, YieldsP P ops Z w oi v a → YieldsP P ops Z w oi v (a.put oj.dst u) := fun hy => by unfold YieldsP keepsAt at *; rw [ei, wi]; exact hy
  have ai : ∀ {mk b u}, AllocsAt P ops oi a mk b → AllocsAt P ops oi (a.put oj.dst u) mk b := fun hy => by unfold AllocsAt at *; rw [ei, wi]; exact hy
  have si' : ∀ {z b0 b1 v u}, StoresV P ops Z w oi a z b0 b1 v → StoresV P ops Z w oi (a.put oj.dst u) z b0 b1 v := fun hy => by unfold StoresV at *; rw [ei, wi]; exact hy
  have pc : ∀ v u, (a.put oj.dst u).put oi.dst v = (a.put oi.dst v).put oj.dst u := fun v u => (Act.put_comm a v u h2).symm
  have less : ∀ {v g b}, w.heap.size ≤ g → U g = none → YieldsU P ops w U oi v a → YieldsU P ops w (U.put g b) oi v a := fun hg hf hy => by
    rcases hy with ⟨y1, y2⟩ | y
    · exact .inl ⟨y1, fun W hW => y2 W (hW.less hg hf)⟩
    · exact .inr y
  cases ki <;> cases kj <;> simp only [needE] at hn
  all_goals first | exact absurd hn (by decide) | skip
  · obtain ⟨v, hv, u, hu, hK⟩ := h
    exact ⟨u, qj hu, v, qi hv, by rw [pc]; exact hK⟩
  · obtain ⟨v, hv, u, hu, hK⟩ := h
    exact ⟨u, pj hu, v, qi hv, by rw [pc]; exact hK⟩
  · obtain ⟨v, hv, mk, b, hA, hK⟩ := h
    exact ⟨mk, b, aj hA, fun g hg hf => ⟨v, qi (less hg hf hv), by rw [pc]; exact hK g hg hf⟩⟩
  · obtain ⟨v, hv, u, hu, hK⟩ := h
    exact ⟨u, qj hu, v, pi' hv, by rw [pc]; exact hK⟩
  · obtain ⟨v, hv, u, hu, hK⟩ := h
    exact ⟨u, pj hu, v, pi' hv, by rw [pc]; exact hK⟩
  · obtain ⟨v, hv, mk, b, hA, hK⟩ := h
    exact ⟨mk, b, aj hA, fun g hg hf => ⟨v, pi' hv, by rw [pc]; exact hK g hg hf⟩⟩
  · obtain ⟨v, hv, z, b0, b1, x, hZ, hz, hS, hK⟩ := h
    exact ⟨z, b0, b1, x, hZ, hz, sj' hS, v, pi' hv, by rw [pc]; exact hK⟩
  · obtain ⟨mk, b, hA, H⟩ := h
    obtain ⟨g0, hg0, hf0⟩ := hU.new w.heap.size
    obtain ⟨mk', b', hA', _⟩ := H g0 hg0 hf0
    refine ⟨mk', b', aj hA', fun g' hg' hf' => ⟨mk, b, ai hA, fun g hg hf => ?_⟩⟩
    have hne : g ≠ g' := fun e => by subst e; rw [Ov.put_same] at hf; cases hf
    rw [Ov.put_ne _ _ hne] at hf
    obtain ⟨mk2, b2, hA2, hK⟩ := H g hg hf
    obtain ⟨rfl, rfl⟩ := AllocsAt.uniq w (aj hA') (aj hA2)
    rw [pc, Ov.put_comm U b' b (Ne.symm hne)]
    exact hK g' hg' (by rw [Ov.put_ne _ _ (Ne.symm hne)]; exact hf')
  · obtain ⟨z, b0, b1, x, hZ, hz, hS, u, hu, hK⟩ := h
    exact ⟨u, pj hu, z, b0, b1, x, hZ, hz, si' hS, by rw [pc]; exact hK⟩
  · obtain ⟨z, b0, b1, x, hZ, hz, hS, mk, b, hA, hK⟩ := h
    refine ⟨mk, b, aj hA, fun g hg hf => ?_⟩
    have hne : z ≠ g := fun e => by subst e; rw [hf] at hz; cases hz
    refine ⟨z, b0, b1, x, hZ, by rw [Ov.put_ne _ _ hne]; exact hz, si' hS, ?_⟩
    rw [pc, Ov.put_comm U b b1 (Ne.symm hne)]
    exact hK g hg (by rw [Ov.put_ne _ _ (Ne.symm hne)]; exact hf)
end
theorem Eff.fin {o : Oper} {a : Act} {U : Ov} {K : Act → Ov → Prop} {k : Kd} (hU : U.fin) (h : Eff P ops Z w o a U K k) : Eff P ops Z w o a U (fun a' U' => U'.fin ∧ K a' U') k := by
  cases k with
  | q => obtain ⟨v, h1, h2⟩ := h; exact ⟨v, h1, hU, h2⟩
  | p => obtain ⟨v, h1, h2⟩ := h; exact ⟨v, h1, hU, h2⟩
  | a => obtain ⟨mk, b, h1, h2⟩ := h; exact ⟨mk, b, h1, fun g h3 h4 => ⟨hU.put _ _, h2 g h3 h4⟩⟩
  | s => obtain ⟨z, b0, b1, v, h0, h1, h2, h3⟩ := h; exact ⟨z, b0, b1, v, h0, h1, h2, hU.put _ _, h3⟩

/-! Who waits for whom -/
def reachB (md : Region.Mode) (ops : Array Oper) (i : Nat) : Nat → Nat → Bool
  | 0, _ => false
  | f + 1, j => match ops[j]? with
    | some o => o.after.any (fun e => Region.binds md e && (e.on == i || reachB md ops i f e.on))
    | none => false
theorem reach_done {i n : Nat} {done : Array Bool} (inv : HeadInv md ops n done) : ∀ (f j : Nat), reachB md ops i f j = true → done.getD j false = true → done.getD i false = true
  | 0, j, h, _ => by simp [reachB] at h
  | f + 1, j, h, hj => by
    unfold reachB at h
    split at h
    · rename_i o ho
      obtain ⟨e, he, hb⟩ := Array.any_eq_true'.1 h
      simp only [Bool.and_eq_true, Bool.or_eq_true, beq_iff_eq] at hb
      have h2 := inv.closed j o ho hj e he hb.1
      rcases hb.2 with h3 | h3
      · rw [← h3]; exact h2
      · exact reach_done inv f e.on h3 h2
    · cases h
theorem reach_waits {i j f n : Nat} {done : Array Bool} (inv : HeadInv md ops n done) (h : reachB md ops i f j = true) (hi : done.getD i true = false) : j ∉ Region.ready md ops done := by
  intro hj
  obtain ⟨_, o, ho, hall⟩ := mem_ready.1 hj
  have : done.getD i false = true := by
    cases f with
    | zero => simp [reachB] at h
    | succ f =>
      unfold reachB at h
      rw [ho] at h
      obtain ⟨e, he, hb⟩ := Array.any_eq_true'.1 h
      simp only [Bool.and_eq_true, Bool.or_eq_true, beq_iff_eq] at hb
      have h2 := hall e he hb.1
      rcases hb.2 with h3 | h3
      · rw [← h3]; exact h2
      · exact reach_done inv f e.on h3 h2
  rw [getD_both hi] at this
  cases this
def edgesU (md : Region.Mode) (ops : Array Oper) (kd : Nat → Kd) (N : Nat) : Bool := (List.range N).all fun j => (List.range j).all fun i => !needE (kd i) (kd j) || reachB md ops i N j
theorem edgesU_spec {kd : Nat → Kd} {N : Nat} (h : edgesU md ops kd N = true) {j i : Nat} (hj : j < N) (hi : i < j) (hn : needE (kd i) (kd j) = true) : reachB md ops i N j = true := by
  unfold edgesU at h
  have h1 := List.all_eq_true.1 (List.all_eq_true.1 h j (List.mem_range.2 hj)) i (List.mem_range.2 hi)
  rw [hn] at h1
  simpa using h1

/-! Every order -/
def HeadU (P : Program) (md : Region.Mode) (ops : Array Oper) (Z : Nat → Prop) (w : World) (kd : Nat → Kd) (N : Nat) (L : Array Bool → Act → Ov → Prop) : Nat → Array Bool → Act → Ov → Prop
  | 0, done, a, U => L done a U
  | f + 1, done, a, U => Region.ready md ops done ≠ [] ∧ ∀ i ∈ Region.ready md ops done, i < N ∧ ∃ o, ops[i]? = some o ∧ Eff P ops Z w o a U (HeadU P md ops Z w kd N L f (done.setIfInBounds i true)) (kd i)
variable {kd : Nat → Kd} {N : Nat}
theorem HeadU.any {L : Array Bool → Act → Ov → Prop} {g : Nat} {Q : Exit → Act → World → Prop} (hL : ∀ done a U W, Ov.ok U w W → L done a U → wpAny P md ops Q g done a W) (f : Nat) :
    ∀ (done : Array Bool) (a : Act) (U : Ov) (W : World), Ov.ok U w W → U.inv Z w → HeadU P md ops Z w kd N L f done a U → wpAny P md ops Q (f + g) done a W := by
  induction f with
  | zero => intro done a U W hw _ h; rw [Nat.zero_add]; exact hL _ _ _ _ hw h
  | succ f ih =>
    intro done a U W hw hI h
    rw [show f + 1 + g = (f + g) + 1 by omega]
    refine ⟨fun h0 => absurd h0 h.1, fun i hi => ?_⟩
    obtain ⟨_, o, ho, hE⟩ := h.2 i hi
    cases hkd : kd i with
    | q =>
      rw [hkd] at hE
      obtain ⟨v, hy, hK⟩ := hE
      refine wpOp_of_qOp (C := fun w' => Below W.heap.size W w') (K := fun a' => a' = a.put o.dst v) (Below.refl _ _) (fun a' w' hw' e => by subst e; exact ih _ _ _ _ (hw.go hw') hI hK) ?_
      unfold qOp
      simp only [ho]
      rcases hy with ⟨h1, h2⟩ | ⟨h1, rfl⟩
      · rw [if_pos h1]
        exact ⟨v, fun w' hw' => quietUpon_mono (fun w'' h' => hw'.trans (h'.mono hw'.size)) (h2 w' (hw.go hw')), rfl⟩
      · rw [if_neg (by rw [h1]; exact Bool.false_ne_true)]
    | p =>
      rw [hkd] at hE
      obtain ⟨v, hy, hK⟩ := hE
      refine wpOp_of_qOp (C := fun w' => Below W.heap.size W w') (K := fun a' => a' = a.put o.dst v) (Below.refl _ _) (fun a' w' hw' e => by subst e; exact ih _ _ _ _ (hw.go hw') hI hK) ?_
      unfold qOp
      simp only [ho]
      rcases hy with ⟨h1, h2⟩ | ⟨h1, rfl⟩
      · rw [if_pos h1]
        exact ⟨v, fun w' hw' => quietUpon_mono (fun w'' h' => hw'.trans (h'.mono hw'.size)) (h2 w' ((hw.st hI).go hw')), rfl⟩
      · rw [if_neg (by rw [h1]; exact Bool.false_ne_true)]
    | a =>
      rw [hkd] at hE
      obtain ⟨mk, b, ⟨h1, h2⟩, hK⟩ := hE
      unfold wpOp
      simp only [ho]
      rw [if_pos h1]
      refine .inl ?_
      unfold Oper.wp
      rw [h2, Oper.upon_value]
      exact ih _ _ _ _ (hw.alloc b) (hI.put b (.inr hw.all.size)) (hK _ hw.all.size hw.new)
    | s =>
      rw [hkd] at hE
      obtain ⟨z, b0, b1, v, hZ, hz0, ⟨h1, h2⟩, hK⟩ := hE
      have h3 := h2 W (hw.st hI) (hw.has z b0 hz0)
      unfold wpOp
      simp only [ho]
      rw [if_pos h1]
      refine .inl ?_
      unfold Oper.wp
      generalize (execOp a.eval o).run P W = r at h3
      cases r with
      | ok n W' =>
        cases n <;> simp only [upZ] at h3 <;> simp only [Oper.upon]
        case value u =>
          obtain ⟨e1, hz', hk, hB⟩ := h3
          rw [e1]
          exact ih _ _ _ _ (hw.store hz' hk hB) (hI.put b1 hZ) hK
        case skip =>
          obtain ⟨e1, hz', hk, hB⟩ := h3
          rw [← e1]
          exact ih _ _ _ _ (hw.store hz' hk hB) (hI.put b1 hZ) hK
        case enter f' args =>
          obtain ⟨e1, hc⟩ := h3
          rw [e1]
          exact hc.mono fun e w'' ⟨he, hz', hk, hB⟩ => by subst he; exact ih _ _ _ _ (hw.store hz' hk hB) (hI.put b1 hZ) hK
      | halt x W' => simp only [upZ] at h3

theorem HeadU.first {L : Array Bool → Act → Ov → Prop} {i : Nat} {oi : Oper} (hi : ops[i]? = some oi) (hiN : i < N) (hsel : ∀ (j : Nat) (o : Oper) cs b, ops[j]? = some o → o.op ≠ .select cs b)
    (hE : edgesU md ops kd N = true) (hs : Region.sinkB md ops N = true) (hc : Region.chainB md ops N = true) (hn : N < ops.size) (hL : ∀ done a U, L done a U → ∀ j ∈ Region.ready md ops done, N ≤ j) (f : Nat) :
    ∀ (done : Array Bool) (a : Act) (U : Ov), HeadInv md ops N done → U.fin → (∀ j, j < i → done.getD j true = true) →
      (∀ j oj, ops[j]? = some oj → j ≠ i → done.getD j true = false → (∀ e ∈ oj.after, Region.binds md e = true → e.on ≠ i) → oi.apart ops oj = true) →
      i ∈ Region.ready md ops done → Eff P ops Z w oi a U (HeadU P md ops Z w kd N L f (done.setIfInBounds i true)) (kd i) → HeadU P md ops Z w kd N L (f + 1) done a U := by
  have low : ∀ done, HeadInv md ops N done → i ∈ Region.ready md ops done → ∀ j ∈ Region.ready md ops done, j < N := fun done inv hr j hj => by
    rcases Nat.lt_or_ge j N with h | h
    · exact h
    · exact absurd hj (tail_waits hs hc hn inv _ i rfl hiN (mem_ready.1 hr).1 j h)
  have some_one : ∀ {o : Oper} {a : Act} {U : Ov} {K : Act → Ov → Prop} {k : Kd}, U.fin → Eff P ops Z w o a U K k → ∃ a' U', K a' U' := by
    intro o a U K k hU h
    cases k with
    | q => obtain ⟨v, _, h2⟩ := h; exact ⟨_, _, h2⟩
    | p => obtain ⟨v, _, h2⟩ := h; exact ⟨_, _, h2⟩
    | a => obtain ⟨mk, b, _, h2⟩ := h; obtain ⟨g, h3, h4⟩ := hU.new w.heap.size; exact ⟨_, _, h2 g h3 h4⟩
    | s => obtain ⟨z, b0, b1, v, _, _, _, h2⟩ := h; exact ⟨_, _, h2⟩
  induction f with
  | zero =>
    intro done a U inv hU _ _ hr H
    refine ⟨fun h => (by rw [h] at hr; cases hr), fun j hj => ⟨low done inv hr j hj, ?_⟩⟩
    rcases Nat.decEq j i with hji | hji
    · obtain ⟨a', U', hl⟩ := some_one hU H
      have := hL _ _ _ hl j (ready_mono hj hji)
      have := low done inv hr j hj
      omega
    · subst hji; exact ⟨oi, hi, H⟩
  | succ f ih =>
    intro done a U inv hU hd hfree hr H
    refine ⟨fun h => (by rw [h] at hr; cases hr), fun j hj => ⟨low done inv hr j hj, ?_⟩⟩
    rcases Nat.decEq j i with hji | hji
    · obtain ⟨hjun, oj, hoj, hall⟩ := mem_ready.1 hj
      have hun := (mem_ready.1 hr).1
      have hnot : ∀ e ∈ oj.after, Region.binds md e = true → e.on ≠ i := fun e he hb heq => by
        have h1 := hall e he hb
        rw [heq, getD_both hun] at h1
        cases h1
      have hap := hfree j oj hoj hji hjun hnot
      have back : ∀ k, (done.setIfInBounds j true).getD k true = false → done.getD k true = false := fun k hk => by
        rcases Nat.decEq j k with hjk | hjk
        · rw [getD_set_ne true hjk] at hk; exact hk
        · subst hjk; exact hjun
      have hij : i < j := by
        rcases Nat.lt_or_ge i j with h | h
        · exact h
        · have := hd j (by omega)
          rw [hjun] at this
          cases this
      have hjN := low done inv hr j hj
      have hne : needE (kd i) (kd j) = false := by
        cases hq : needE (kd i) (kd j) with
        | false => rfl
        | true => exact absurd hj (reach_waits inv (edgesU_spec hE hjN hij hq) hun)
      refine ⟨oj, hoj, ?_⟩
      have H2 : Eff P ops Z w oi a U (fun a1 U1 => Eff P ops Z w oj a1 U1 (HeadU P md ops Z w kd N L f ((done.setIfInBounds j true).setIfInBounds i true)) (kd j)) (kd i) := H.mono fun a1 U1 h => by
        obtain ⟨_, oj', hoj', hh⟩ := h.2 j (ready_mono hj hji)
        obtain rfl : oj = oj' := Option.some.inj (hoj.symm.trans hoj')
        rw [Array.setIfInBounds_comm _ _ hji]
        exact hh
      have H3 := Eff.fin hU (Eff.comm hne (fun cs b => hsel i oi cs b hi) (fun cs b => hsel j oj cs b hoj) hap hU H2)
      refine H3.mono fun a2 U2 ⟨hf2, h2⟩ => ih _ a2 U2 (inv.set hj hjN) hf2 (fun k hk => by rw [getD_set_ne true (by omega)]; exact hd k hk) (fun k ok hk hki hun' hno => hfree k ok hk hki (back k hun') hno) (ready_mono hr (Ne.symm hji)) h2
    · subst hji; exact ⟨oi, hi, H⟩

/-- The walk in the text's order. -/
def wpU (P : Program) (ops : Array Oper) (Z : Nat → Prop) (w : World) (kd : Nat → Kd) (R : Act → Ov → Prop) : Nat → List Oper → Act → Ov → Prop
  | _, [], a, U => R a U
  | k, o :: os, a, U => Eff P ops Z w o a U (wpU P ops Z w kd R (k + 1) os) (kd k)
theorem HeadU.lex {g : Nat} {R : Act → Ov → Prop} (hsel : Region.noSelect ops = true) (hE : edgesU md ops kd N = true) (hs : Region.sinkB md ops N = true) (hc : Region.chainB md ops N = true) (hn : N < ops.size) (l : List Oper) :
    ∀ (k : Nat) (done : Array Bool) (a : Act) (U : Ov), (∀ j, j < l.length → l[j]? = ops[k + j]?) → k + l.length = N → HeadInv md ops N done → (∀ j, j < k → done.getD j true = true) → U.fin →
      Region.lexHead md ops g l.length k done = true → wpU P ops Z w kd R k l a U →
      HeadU P md ops Z w kd N (fun done' a' U' => Region.seqB md ops g N done' = true ∧ R a' U') l.length done a U := by
  induction l with
  | nil =>
    intro k done a U _ hk _ _ _ hB h
    obtain rfl : k = N := by simpa using hk
    exact ⟨by simpa [Region.lexHead] using hB, h⟩
  | cons o l ih =>
    intro k done a U hl hk inv hd hU hB h
    have h0 : ops[k]? = some o := by simpa using (hl 0 (by simp)).symm
    simp only [List.length_cons] at hk hB ⊢
    rw [Region.lexHead, Bool.and_eq_true, Bool.and_eq_true] at hB
    obtain ⟨⟨hr, hf⟩, hB'⟩ := hB
    have hr' : k ∈ Region.ready md ops done := by simpa using hr
    have hd' : ∀ j, j < k + 1 → (done.setIfInBounds k true).getD j true = true := fun j hj => by
      rcases Nat.decEq k j with hkj | hkj
      · rw [getD_set_ne true hkj]; exact hd j (by omega)
      · subst hkj
        have hks : k < done.size := by rw [inv.size]; omega
        simp [hks]
    refine HeadU.first h0 (by omega) (Region.noSelect_spec hsel) hE hs hc hn (fun done' a' U' hL => seqB_ready hL.1) l.length done a U inv hU hd (Region.free_spec h0 hf) hr' ?_
    exact (Eff.fin hU h).mono fun a' U' ⟨hf', h'⟩ => ih (k + 1) _ a' U' (fun j hj => by have := hl (j + 1) (by simp; omega); simpa [Nat.add_assoc, Nat.add_comm 1 j] using this) (by omega) (inv.set hr' (by omega)) hd' hf' hB' h'

/-- **A drawn region**, walked in the text's order. -/
theorem wp_region_uni {id : Nat} {Q : Exit → Act → World → Prop} {a : Act} {l : List Oper} (N : Nat) (kd : Nat → Kd) (U : Ov) (hU : U.fin) (hok : U.ok w w) (hI : U.inv Z w) (hm : P.follows .mixedOrders = true) (hB : Region.lexTailB .any l.toArray N = true) (hE : edgesU .any l.toArray kd N = true)
    (h : wpU P l.toArray Z w kd (fun a' U' => ∀ W, U'.ok w W → wpList P l.toArray Q (l.drop N) a' W) 0 (l.take N) a U) : (Code.region id l.toArray true).wp P Q a w := by
  simp only [Region.lexTailB, Bool.and_eq_true, decide_eq_true_eq] at hB
  obtain ⟨⟨⟨⟨hsel, hn⟩, hs⟩, hc⟩, hlex⟩ := hB
  have hn' : N < l.length := by simpa using hn
  have htl : (l.take N).length = N := by simp; omega
  have hdl : (l.drop N).length = l.toArray.size - N := by simp
  have start : HeadInv .any l.toArray N (Array.replicate l.toArray.size false) := by
    constructor
    · simp
    · intro j oj _ hl; rw [getD_replicate_false] at hl; cases hl
    · intro t _ ht; exact getD_in (by simpa using ht) (getD_replicate_false _ _)
  have H := HeadU.lex (P := P) (w := w) (md := .any) (kd := kd) (N := N) (g := l.toArray.size - N) (R := fun a' U' => ∀ W, U'.ok w W → wpList P l.toArray Q (l.drop N) a' W) hsel hE hs hc hn (l.take N) 0 _ a U
    (fun j hj => by rw [htl] at hj; simp [hj]) (by rw [htl]; omega) start (fun j hj => by omega) hU (by rw [htl]; exact hlex) h
  rw [htl] at H
  refine wp_region_any hm ?_
  have := HeadU.any (Q := Q) (g := l.toArray.size - N) (fun done a' U' W hW hL => by
    have := wpAny_of_seq (md := .any) (Q' := Q) (l.drop N) N done a' W (fun j => by simp [List.getElem?_drop]) (by rw [hdl]; exact hL.1) (hL.2 W hW)
    rwa [hdl] at this) _ _ _ _ _ (show Ov.ok U w { w with drawn := w.drawn + 1 } from ⟨(Below.refl 0 w).drew, hok.keep, hok.has⟩) hI H
  rwa [show N + (l.toArray.size - N) = l.toArray.size by omega] at this
end
end Go.Proofs.YtmfejdikfpckdaaGreatDoor
