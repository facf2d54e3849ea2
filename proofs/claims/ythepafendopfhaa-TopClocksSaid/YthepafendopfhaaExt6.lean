/- A region that draws its order: its first n operations read, or call what reads and makes memory; the next one makes a block, the one behind it stores into that block; the first n float between these two and behind them; the rest comes in one forced order. No program. -/
import Derived.Test.YthepafendopfhaaExt4
namespace Go.Proofs.Ythepafendopfhaa
open Go.RowKit
set_option linter.unusedVariables false

section
variable {P : Program} {ops : Array Oper} {md : Region.Mode} {w : World}
abbrev Newly := Option (Nat × Obj)
def Newly.ok (c : Newly) (w W : World) : Prop := Below w.heap.size w W ∧ ∀ g b, c = some (g, b) → w.heap.size ≤ g ∧ W.heap[g]? = some b
theorem Newly.ok.below {c : Newly} {W W' : World} (h : c.ok w W) (hb : Below W.heap.size W W') : c.ok w W' :=
  ⟨h.1.trans (hb.mono h.1.size), fun g b hc => by
    obtain ⟨h1, h2⟩ := h.2 g b hc
    exact ⟨h1, by rw [hb.block g (Array.getElem?_eq_some_iff.1 h2).1]; exact h2⟩⟩

def HeadG (P : Program) (md : Region.Mode) (ops : Array Oper) (w : World) (b0 b1 : Obj) (n : Nat) (L : Array Bool → Act → Newly → Prop) : Nat → Array Bool → Act → Newly → Prop
  | 0, done, a, c => L done a c
  | f + 1, done, a, c => Region.ready md ops done ≠ [] ∧ ∀ i ∈ Region.ready md ops done, i < n + 2 ∧ ∃ o, ops[i]? = some o ∧
      ((i < n ∧ ∃ v, YieldsK P ops w o v a ∧ HeadG P md ops w b0 b1 n L f (done.setIfInBounds i true) (a.put o.dst v) c) ∨
       (i = n ∧ Allocs P ops o b0 ∧ ∀ g, w.heap.size ≤ g → HeadG P md ops w b0 b1 n L f (done.setIfInBounds i true) (a.put o.dst (.pointer (some ⟨g, 0, none⟩))) (some (g, b0))) ∨
       (i = n + 1 ∧ ∃ g, c = some (g, b0) ∧ StoresZ P ops o a g b0 b1 ∧ HeadG P md ops w b0 b1 n L f (done.setIfInBounds i true) (a.put o.dst undef) (some (g, b1))))

theorem HeadG.any {b0 b1 : Obj} {n g : Nat} {L : Array Bool → Act → Newly → Prop} {Q : Exit → Act → World → Prop} (hL : ∀ done a c W, Newly.ok c w W → L done a c → wpAny P md ops Q g done a W) (f : Nat) :
    ∀ (done : Array Bool) (a : Act) (c : Newly) (W : World), Newly.ok c w W → HeadG P md ops w b0 b1 n L f done a c → wpAny P md ops Q (f + g) done a W := by
  induction f with
  | zero => intro done a c W hw h; rw [Nat.zero_add]; exact hL _ _ _ _ hw h
  | succ f ih =>
    intro done a c W hw h
    rw [show f + 1 + g = (f + g) + 1 by omega]
    refine ⟨fun h0 => absurd h0 h.1, fun i hi => ?_⟩
    obtain ⟨_, o, ho, ⟨_, v, hy, hK⟩ | ⟨_, hA, hK⟩ | ⟨_, z, rfl, ⟨h1, h2⟩, hK⟩⟩ := h.2 i hi
    · refine wpOp_of_qOp (C := fun w' => Below W.heap.size W w') (K := fun a' => a' = a.put o.dst v) (Below.refl _ _) (fun a' w' hw' e => by subst e; exact ih _ _ _ _ (hw.below hw') hK) ?_
      unfold qOp
      simp only [ho]
      rcases hy with ⟨h1, h2⟩ | ⟨h1, rfl⟩
      · rw [if_pos h1]
        exact ⟨v, fun w' hw' => quietUpon_mono (fun w'' h' => hw'.trans (h'.mono hw'.size)) (h2 ⟨w', hw.1.trans (hw'.mono hw.1.size)⟩), rfl⟩
      · rw [if_neg (by rw [h1]; exact Bool.false_ne_true)]
    · obtain ⟨h1, h2⟩ := hA a W
      unfold wpOp
      simp only [ho]
      rw [if_pos h1]
      refine .inl ?_
      unfold Oper.wp
      rw [h2]
      refine ih _ _ _ _ ⟨hw.1.alloc hw.1.size b0, ?_⟩ (hK _ hw.1.size)
      rintro x y he
      injection he with he
      injection he with h3 h4
      subst h3
      subst h4
      exact ⟨hw.1.size, heap_alloc_new W b0⟩
    · obtain ⟨hz1, hz2⟩ := hw.2 z b0 rfl
      obtain ⟨W', hrun, hz', hk, hB⟩ := h2 W hz2
      unfold wpOp
      simp only [ho]
      rw [if_pos h1]
      refine .inl ?_
      unfold Oper.wp
      rw [hrun]
      refine ih _ _ _ _ ⟨?_, ?_⟩ hK
      · have hZ : BelowZ z W W' := ⟨hB, fun k _ hne => hk k hne⟩
        exact hZ.below hw.1 hz1 hw.1.size
      · rintro x y he
        injection he with he
        injection he with h3 h4
        subst h3
        subst h4
        exact ⟨hz1, hz'⟩

section
variable {b0 b1 : Obj} {n : Nat} {L : Array Bool → Act → Newly → Prop}
theorem HeadG.first {i : Nat} {oi : Oper} {v : Value} (hi : ops[i]? = some oi) (hob : i < n) (hsel : ∀ (j : Nat) (o : Oper) cs b, ops[j]? = some o → o.op ≠ .select cs b)
    (hs : Region.sinkB md ops (n + 2) = true) (hc : Region.chainB md ops (n + 2) = true) (hn : n + 2 < ops.size) (hL : ∀ done a c, L done a c → ∀ j ∈ Region.ready md ops done, n + 2 ≤ j) (f : Nat) :
    ∀ (done : Array Bool) (a : Act) (c : Newly), HeadInv md ops (n + 2) done →
      (∀ j oj, ops[j]? = some oj → j ≠ i → done.getD j true = false → (∀ e ∈ oj.after, Region.binds md e = true → e.on ≠ i) → oi.apart ops oj = true) →
      i ∈ Region.ready md ops done → YieldsK P ops w oi v a → HeadG P md ops w b0 b1 n L f (done.setIfInBounds i true) (a.put oi.dst v) c → HeadG P md ops w b0 b1 n L (f + 1) done a c := by
  have low : ∀ done, HeadInv md ops (n + 2) done → i ∈ Region.ready md ops done → ∀ j ∈ Region.ready md ops done, j < n + 2 := fun done inv hr j hj => by
    rcases Nat.lt_or_ge j (n + 2) with h | h
    · exact h
    · exact absurd hj (tail_waits hs hc hn inv _ i rfl (by omega) (mem_ready.1 hr).1 j h)
  induction f with
  | zero =>
    intro done a c inv _ hr hy H
    refine ⟨fun h => (by rw [h] at hr; cases hr), fun j hj => ⟨low done inv hr j hj, ?_⟩⟩
    rcases Nat.decEq j i with hji | hji
    · have := hL _ _ _ H j (ready_mono hj hji)
      have := low done inv hr j hj
      omega
    · subst hji; exact ⟨oi, hi, .inl ⟨hob, v, hy, H⟩⟩
  | succ f ih =>
    intro done a c inv hfree hr hy H
    refine ⟨fun h => (by rw [h] at hr; cases hr), fun j hj => ⟨low done inv hr j hj, ?_⟩⟩
    rcases Nat.decEq j i with hji | hji
    · obtain ⟨hjun, oj, hoj, hall⟩ := mem_ready.1 hj
      have hun := (mem_ready.1 hr).1
      have hnot : ∀ e ∈ oj.after, Region.binds md e = true → e.on ≠ i := fun e he hb heq => by
        have h1 := hall e he hb
        rw [heq, getD_both hun] at h1
        cases h1
      obtain ⟨h1, h2, h3⟩ := Oper.apart_spec (hfree j oj hoj hji hjun hnot)
      have hfree' : ∀ k ok, ops[k]? = some ok → k ≠ i → (done.setIfInBounds j true).getD k true = false → (∀ e ∈ ok.after, Region.binds md e = true → e.on ≠ i) → oi.apart ops ok = true := fun k ok hk hki hun' hno => by
        refine hfree k ok hk hki ?_ hno
        rcases Nat.decEq j k with hjk | hjk
        · rw [getD_set_ne true hjk] at hun'; exact hun'
        · subst hjk; exact hjun
      have inv' := inv.set hj (low done inv hr j hj)
      have hr' := ready_mono hr (Ne.symm hji)
      refine ⟨oj, hoj, ?_⟩
      obtain ⟨_, oj', hoj', hh⟩ := H.2 j (ready_mono hj hji)
      obtain rfl : oj = oj' := Option.some.inj (hoj.symm.trans hoj')
      rcases hh with ⟨hb, u, hu, hK⟩ | ⟨hb, hA, hK⟩ | ⟨hb, g, hcg, hA, hK⟩
      · refine .inl ⟨hb, u, hu.unput (fun cs b => hsel j oj cs b hoj) h1, ih _ _ _ inv' hfree' hr' (hy.put (fun cs b => hsel i oi cs b hi) h3) ?_⟩
        rw [Array.setIfInBounds_comm _ _ hji, ← Act.put_comm a v u h2]
        exact hK
      · refine .inr (.inl ⟨hb, hA, fun g hg => ih _ _ _ inv' hfree' hr' (hy.put (fun cs b => hsel i oi cs b hi) h3) ?_⟩)
        rw [Array.setIfInBounds_comm _ _ hji, ← Act.put_comm a v _ h2]
        exact hK g hg
      · refine .inr (.inr ⟨hb, g, hcg, hA.of_same (execOp_put oj (fun cs b => hsel j oj cs b hoj) a oi.dst v h1).symm (wanted_put oj a oi.dst v h1).symm, ih _ _ _ inv' hfree' hr' (hy.put (fun cs b => hsel i oi cs b hi) h3) ?_⟩)
        rw [Array.setIfInBounds_comm _ _ hji, ← Act.put_comm a v _ h2]
        exact hK
    · subst hji; exact ⟨oi, hi, .inl ⟨hob, v, hy, H⟩⟩
end

theorem HeadG.lex {b0 b1 : Obj} {n g : Nat} {R : Nat → Act → Prop} {o1 os : Oper} (ho1 : ops[n]? = some o1) (hos : ops[n + 1]? = some os) (hA : Allocs P ops o1 b0) (hdep : os.after.any (fun e => Region.binds md e && e.on == n) = true)
    (hsel : Region.noSelect ops = true) (hs : Region.sinkB md ops (n + 2) = true) (hc : Region.chainB md ops (n + 2) = true) (hn : n + 2 < ops.size) (l : List Oper) :
    ∀ (k : Nat) (done : Array Bool) (a : Act), (∀ j, j < l.length → l[j]? = ops[k + j]?) → k + l.length = n → HeadInv md ops (n + 2) done → (∀ j, j < k → done.getD j true = true) →
      Region.lexHead md ops g (l.length + 2) k done = true →
      wpKeep P ops w (fun a' => ∀ z, w.heap.size ≤ z → StoresZ P ops os (a'.put o1.dst (.pointer (some ⟨z, 0, none⟩))) z b0 b1 ∧ R z ((a'.put o1.dst (.pointer (some ⟨z, 0, none⟩))).put os.dst undef)) l a →
      HeadG P md ops w b0 b1 n (fun done' a' c => Region.seqB md ops g (n + 2) done' = true ∧ ∃ z, w.heap.size ≤ z ∧ c = some (z, b1) ∧ R z a') (l.length + 2) done a none := by
  induction l with
  | nil =>
    intro k done a _ hk inv hd hB h
    obtain rfl : k = n := by simpa using hk
    simp only [List.length_nil, Nat.zero_add, Region.lexHead, Bool.and_eq_true] at hB ⊢
    obtain ⟨⟨hr, hf⟩, ⟨hr2, hf2⟩, hB'⟩ := hB
    have hr' : k ∈ Region.ready md ops done := by simpa using hr
    have hr2' : k + 1 ∈ Region.ready md ops (done.setIfInBounds k true) := by simpa using hr2
    have inv2 := inv.set hr' (by omega)
    have hd2 : ∀ j, j < k + 1 → (done.setIfInBounds k true).getD j true = true := fun j hj => by
      rcases Nat.decEq k j with hkj | hkj
      · rw [getD_set_ne true hkj]; exact hd j (by omega)
      · subst hkj
        have hks : k < done.size := by rw [inv.size]; omega
        simp [hks]
    refine ⟨fun h0 => (by rw [h0] at hr'; cases hr'), fun j hj => ?_⟩
    have hlt : j < k + 2 := by
      rcases Nat.lt_or_ge j (k + 2) with h' | h'
      · exact h'
      · exact absurd hj (tail_waits hs hc hn inv _ k rfl (by omega) (mem_ready.1 hr').1 j h')
    have hjk : j = k := by
      rcases Nat.lt_or_ge j k with h' | h'
      · have := hd j h'
        rw [(mem_ready.1 hj).1] at this
        cases this
      · rcases Nat.lt_or_ge j (k + 1) with h'' | h''
        · omega
        · obtain rfl : j = k + 1 := by omega
          obtain ⟨_, oj, hoj, hall⟩ := mem_ready.1 hj
          obtain rfl : os = oj := Option.some.inj (hos.symm.trans hoj)
          obtain ⟨e, he, hb⟩ := Array.any_eq_true'.1 hdep
          simp only [Bool.and_eq_true, beq_iff_eq] at hb
          have := hall e he hb.1
          rw [hb.2, getD_both (mem_ready.1 hr').1] at this
          cases this
    subst hjk
    refine ⟨hlt, o1, ho1, .inr (.inl ⟨rfl, hA, fun z hz => ?_⟩)⟩
    refine ⟨fun h0 => (by rw [h0] at hr2'; cases hr2'), fun i hi => ?_⟩
    have hlt2 : i < j + 2 := by
      rcases Nat.lt_or_ge i (j + 2) with h' | h'
      · exact h'
      · exact absurd hi (tail_waits hs hc hn inv2 _ (j + 1) rfl (by omega) (mem_ready.1 hr2').1 i h')
    have hij : i = j + 1 := by
      rcases Nat.lt_or_ge i (j + 1) with h' | h'
      · have := hd2 i h'
        rw [(mem_ready.1 hi).1] at this
        cases this
      · omega
    subst hij
    exact ⟨hlt2, os, hos, .inr (.inr ⟨rfl, z, rfl, (h z hz).1, hB', z, hz, rfl, (h z hz).2⟩)⟩
  | cons o l ih =>
    intro k done a hl hk inv hd hB h
    have h0 : ops[k]? = some o := by simpa using (hl 0 (by simp)).symm
    rw [show (o :: l).length + 2 = (l.length + 2) + 1 by simp only [List.length_cons]] at hB ⊢
    rw [Region.lexHead, Bool.and_eq_true, Bool.and_eq_true] at hB
    simp only [List.length_cons] at hk
    obtain ⟨⟨hr, hf⟩, hB'⟩ := hB
    have hr' : k ∈ Region.ready md ops done := by simpa using hr
    obtain ⟨v, hy, hK⟩ := yieldsK_of_wpKeep h
    refine HeadG.first h0 (by omega) (Region.noSelect_spec hsel) hs hc hn (fun done' a' U' hL => seqB_ready hL.1) (l.length + 2) done a none inv (Region.free_spec h0 hf) hr' hy ?_
    refine ih (k + 1) _ _ (fun j hj => by have := hl (j + 1) (by simp; omega); simpa [Nat.add_assoc, Nat.add_comm 1 j] using this) (by omega) (inv.set hr' (by omega)) ?_ hB' hK
    intro j hj
    rcases Nat.decEq k j with hkj | hkj
    · rw [getD_set_ne true hkj]; exact hd j (by omega)
    · subst hkj
      have hks : k < done.size := by rw [inv.size]; omega
      simp [hks]

/-- **A drawn region that makes a block and stores into it, its reads and calls in any order.** -/
theorem wp_region_newput {id : Nat} {Q : Exit → Act → World → Prop} {a : Act} {l : List Oper} {o1 os : Oper} (n : Nat) (b0 b1 : Obj) (hm : P.follows .mixedOrders = true) (hB : Region.lexTailB .any l.toArray (n + 2) = true)
    (ho1 : l[n]? = some o1) (hos : l[n + 1]? = some os) (hA : Allocs P l.toArray o1 b0) (hdep : os.after.any (fun e => Region.binds .any e && e.on == n) = true)
    (h : wpKeep P l.toArray w (fun a' => ∀ z, w.heap.size ≤ z → StoresZ P l.toArray os (a'.put o1.dst (.pointer (some ⟨z, 0, none⟩))) z b0 b1 ∧ ∀ W, Below w.heap.size w W → W.heap[z]? = some b1 → wpList P l.toArray Q (l.drop (n + 2)) ((a'.put o1.dst (.pointer (some ⟨z, 0, none⟩))).put os.dst undef) W) (l.take n) a) : (Code.region id l.toArray true).wp P Q a w := by
  simp only [Region.lexTailB, Bool.and_eq_true, decide_eq_true_eq] at hB
  obtain ⟨⟨⟨⟨hsel, hn⟩, hs⟩, hc⟩, hlex⟩ := hB
  have hn' : n + 2 < l.length := by simpa using hn
  have htl : (l.take n).length = n := by simp; omega
  have hdl : (l.drop (n + 2)).length = l.toArray.size - (n + 2) := by simp
  have start : HeadInv .any l.toArray (n + 2) (Array.replicate l.toArray.size false) := by
    constructor
    · simp
    · intro j oj _ hl; rw [getD_replicate_false] at hl; cases hl
    · intro t _ ht; exact getD_in (by simpa using ht) (getD_replicate_false _ _)
  have H := HeadG.lex (P := P) (w := w) (b0 := b0) (b1 := b1) (md := .any) (g := l.toArray.size - (n + 2)) (R := fun z a' => ∀ W, Below w.heap.size w W → W.heap[z]? = some b1 → wpList P l.toArray Q (l.drop (n + 2)) a' W) (o1 := o1) (os := os)
    (by simpa using ho1) (by simpa using hos) hA hdep hsel hs hc hn (l.take n) 0 _ a (fun j hj => by rw [htl] at hj; simp [hj]) (by rw [htl]; omega) start (fun j hj => by omega) (by rw [htl]; exact hlex) h
  rw [htl] at H
  refine wp_region_any hm ?_
  have := HeadG.any (Q := Q) (g := l.toArray.size - (n + 2)) (fun done a' c W hW hL => by
    obtain ⟨h1, z, hz, rfl, h2⟩ := hL
    have := wpAny_of_seq (md := .any) (Q' := Q) (l.drop (n + 2)) (n + 2) done a' W (fun j => by simp [List.getElem?_drop]) (by rw [hdl]; exact h1) (h2 W hW.1 (hW.2 z b1 rfl).2)
    rwa [hdl] at this) _ _ _ _ _ (show Newly.ok none w { w with drawn := w.drawn + 1 } from ⟨(Below.refl w.heap.size w).drew, fun _ _ h => by cases h⟩) H
  rwa [show n + 2 + (l.toArray.size - (n + 2)) = l.toArray.size by omega] at this
end
end Go.Proofs.Ythepafendopfhaa
