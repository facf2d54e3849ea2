/- A region that draws its order: its first n operations read, or call what reads and makes memory; the next one stores into a block z that none of them reads; all these in whatever order; the rest comes behind them in one forced order. One walk of the text's order serves every order. No program. -/
import Derived.Test.YthepafendopfhaaExt3
namespace Go.Proofs.Ythepafendopfhaa
open Go.RowKit
set_option linter.unusedVariables false

/-- All that lay in w is as it was, but for block z. -/
structure BelowZ (z : Nat) (w W : World) : Prop where
  all : Below 0 w W
  block : ∀ k, k < w.heap.size → k ≠ z → W.heap[k]? = w.heap[k]?
theorem BelowZ.refl (z : Nat) (w : World) : BelowZ z w w := ⟨Below.refl 0 w, fun _ _ _ => rfl⟩
theorem BelowZ.of {z : Nat} {w W W' : World} (h : BelowZ z w W) (hb : Below W.heap.size W W') : BelowZ z w W' :=
  ⟨h.all.trans (hb.mono (Nat.zero_le _)), fun k hk hz => (hb.block k (Nat.lt_of_lt_of_le hk h.all.size)).trans (h.block k hk hz)⟩
theorem BelowZ.blk {z g : Nat} {w W : World} {t : TypeId} {cs : Array Value} (h : BelowZ z w W) (hk : Blk w g t cs) (hz : g ≠ z) : Blk W g t cs := (h.block g hk.lt hz).trans hk
theorem BelowZ.below {z B : Nat} {w0 w W : World} (h : BelowZ z w W) (hB : Below B w0 w) (hz : B ≤ z) (hs : B ≤ w.heap.size) : Below B w0 W :=
  hB.trans ⟨h.all.os, h.all.tape, h.all.output, h.all.size, fun k hk => by
    rcases Nat.lt_or_ge k w.heap.size with hw | hw
    · exact h.block k hw (by omega)
    · exact absurd hw (by omega)⟩
structure ExtZ (w : World) (z : Nat) where
  to : World
  h : BelowZ z w to
instance (w : World) (z : Nat) : Nonempty (ExtZ w z) := ⟨⟨w, BelowZ.refl _ _⟩⟩
theorem ExtZ.cell {w : World} {z : Nat} (s : ExtZ w z) {p : Addr} {v : Value} (h : w.cell? p = some v) (hz : p.block ≠ z) : s.to.cell? p = some v :=
  (World.cell?_of_block (w := w) (s.h.block p.block (World.block_lt_of_cell? w p h) hz)).trans h

section
variable {P : Program} {ops : Array Oper} {md : Region.Mode} {w : World} {z : Nat}

def keepsZ (P : Program) (o : Oper) (a : Act) (w : World) (z : Nat) (K : Act → Prop) : Prop := ∃ v, (∀ s : ExtZ w z, keepsAt P o a s.to v) ∧ K (a.put o.dst v)
def wpKeepZ (P : Program) (ops : Array Oper) (w : World) (z : Nat) (R : Act → Prop) : List Oper → Act → Prop
  | [], a => R a
  | o :: rest, a => if Region.wanted o (yielded ops a.tmps) then keepsZ P o a w z (wpKeepZ P ops w z R rest) else wpKeepZ P ops w z R rest (a.put o.dst undef)
theorem wpKeepZ_nil {R : Act → Prop} {a : Act} (h : R a) : wpKeepZ P ops w z R [] a := h
theorem wpKeepZ_step {R : Act → Prop} {a : Act} {o : Oper} {rest : List Oper}
    (h : ∀ K : Act → Prop, (∀ a, wpKeepZ P ops w z R rest a → K a) → if Region.wanted o (yielded ops a.tmps) then keepsZ P o a w z K else K (a.put o.dst undef)) : wpKeepZ P ops w z R (o :: rest) a := h _ (fun _ h => h)

def YieldsZ (P : Program) (ops : Array Oper) (w : World) (z : Nat) (o : Oper) (v : Value) (a : Act) : Prop :=
  (Region.wanted o (yielded ops a.tmps) = true ∧ ∀ s : ExtZ w z, keepsAt P o a s.to v) ∨ (Region.wanted o (yielded ops a.tmps) = false ∧ v = undef)
theorem YieldsZ.of_same {o : Oper} {v : Value} {a a' : Act} (hy : YieldsZ P ops w z o v a) (he : execOp a'.eval o = execOp a.eval o) (hw : Region.wanted o (yielded ops a'.tmps) = Region.wanted o (yielded ops a.tmps)) : YieldsZ P ops w z o v a' := by
  unfold YieldsZ keepsAt at *
  rw [he, hw]
  exact hy
theorem YieldsZ.unput {x o : Oper} {v u : Value} {a : Act} (hs : ∀ cs b, o.op ≠ .select cs b) (h : ∀ d, x.dst = some d → d ∉ o.looksAt ops) (hy : YieldsZ P ops w z o v (a.put x.dst u)) : YieldsZ P ops w z o v a :=
  hy.of_same (execOp_put o hs a x.dst u h).symm (wanted_put o a x.dst u h).symm
theorem YieldsZ.put {x o : Oper} {v u : Value} {a : Act} (hs : ∀ cs b, o.op ≠ .select cs b) (h : ∀ d, x.dst = some d → d ∉ o.looksAt ops) (hy : YieldsZ P ops w z o v a) : YieldsZ P ops w z o v (a.put x.dst u) :=
  hy.of_same (execOp_put o hs a x.dst u h) (wanted_put o a x.dst u h)
theorem yieldsZ_of_wpKeepZ {R : Act → Prop} {o : Oper} {rest : List Oper} {a : Act} (h : wpKeepZ P ops w z R (o :: rest) a) : ∃ v, YieldsZ P ops w z o v a ∧ wpKeepZ P ops w z R rest (a.put o.dst v) := by
  unfold wpKeepZ at h
  by_cases hw : Region.wanted o (yielded ops a.tmps) = true
  · rw [if_pos hw] at h
    obtain ⟨v, h1, h2⟩ := h
    exact ⟨v, .inl ⟨hw, h1⟩, h2⟩
  · rw [if_neg hw] at h
    exact ⟨undef, .inr ⟨by simpa using hw, rfl⟩, h⟩

/-- The operation turns block z from b0 to b1, and nothing else. -/
def StoresZ (P : Program) (ops : Array Oper) (o : Oper) (a : Act) (z : Nat) (b0 b1 : Obj) : Prop :=
  Region.wanted o (yielded ops a.tmps) = true ∧ ∀ W : World, W.heap[z]? = some b0 → ∃ W', (execOp a.eval o).run P W = .ok .skip W' ∧ W'.heap[z]? = some b1 ∧ (∀ k, k ≠ z → W'.heap[k]? = W.heap[k]?) ∧ Below 0 W W'
theorem StoresZ.of_same {o : Oper} {a a' : Act} {b0 b1 : Obj} (hy : StoresZ P ops o a z b0 b1) (he : execOp a'.eval o = execOp a.eval o) (hw : Region.wanted o (yielded ops a'.tmps) = Region.wanted o (yielded ops a.tmps)) : StoresZ P ops o a' z b0 b1 := by
  unfold StoresZ at *
  rw [he, hw]
  exact hy

def HeadZ (P : Program) (md : Region.Mode) (ops : Array Oper) (w : World) (z : Nat) (b0 b1 : Obj) (n : Nat) (L : Array Bool → Act → Obj → Prop) : Nat → Array Bool → Act → Obj → Prop
  | 0, done, a, c => L done a c
  | f + 1, done, a, c => Region.ready md ops done ≠ [] ∧ ∀ i ∈ Region.ready md ops done, i < n + 1 ∧ ∃ o, ops[i]? = some o ∧
      ((i ≠ n ∧ ∃ v, YieldsZ P ops w z o v a ∧ HeadZ P md ops w z b0 b1 n L f (done.setIfInBounds i true) (a.put o.dst v) c) ∨
       (i = n ∧ c = b0 ∧ StoresZ P ops o a z b0 b1 ∧ HeadZ P md ops w z b0 b1 n L f (done.setIfInBounds i true) (a.put o.dst undef) b1))

theorem HeadZ.any {b0 b1 : Obj} {n g : Nat} {L : Array Bool → Act → Obj → Prop} {Q : Exit → Act → World → Prop} (hL : ∀ done a c W, BelowZ z w W → W.heap[z]? = some c → L done a c → wpAny P md ops Q g done a W) (f : Nat) :
    ∀ (done : Array Bool) (a : Act) (c : Obj) (W : World), BelowZ z w W → W.heap[z]? = some c → HeadZ P md ops w z b0 b1 n L f done a c → wpAny P md ops Q (f + g) done a W := by
  induction f with
  | zero => intro done a c W hw hc h; rw [Nat.zero_add]; exact hL _ _ _ _ hw hc h
  | succ f ih =>
    intro done a c W hw hc h
    rw [show f + 1 + g = (f + g) + 1 by omega]
    refine ⟨fun h0 => absurd h0 h.1, fun i hi => ?_⟩
    obtain ⟨_, o, ho, ⟨_, v, hy, hK⟩ | ⟨_, rfl, ⟨h1, h2⟩, hK⟩⟩ := h.2 i hi
    · refine wpOp_of_qOp (C := fun w' => Below W.heap.size W w') (K := fun a' => a' = a.put o.dst v) (Below.refl _ _) (fun a' w' hw' e => by
        subst e
        refine ih _ _ _ _ (hw.of hw') ?_ hK
        rw [hw'.block z (Array.getElem?_eq_some_iff.1 hc).1]
        exact hc) ?_
      unfold qOp
      simp only [ho]
      rcases hy with ⟨h1, h2⟩ | ⟨h1, rfl⟩
      · rw [if_pos h1]
        exact ⟨v, fun w' hw' => quietUpon_mono (fun w'' h' => hw'.trans (h'.mono hw'.size)) (h2 ⟨w', hw.of hw'⟩), rfl⟩
      · rw [if_neg (by rw [h1]; exact Bool.false_ne_true)]
    · obtain ⟨W', hrun, hz', hk, hB⟩ := h2 W hc
      unfold wpOp
      simp only [ho]
      rw [if_pos h1]
      refine .inl ?_
      unfold Oper.wp
      rw [hrun]
      exact ih _ _ _ _ ⟨hw.all.trans hB, fun k hk' hne => (hk k hne).trans (hw.block k hk' hne)⟩ hz' hK

section
variable {b0 b1 : Obj} {n : Nat} {L : Array Bool → Act → Obj → Prop}

theorem HeadZ.first {i : Nat} {oi : Oper} {v : Value} (hi : ops[i]? = some oi) (hob : i ≠ n) (hsel : ∀ (j : Nat) (o : Oper) cs b, ops[j]? = some o → o.op ≠ .select cs b)
    (hs : Region.sinkB md ops (n + 1) = true) (hc : Region.chainB md ops (n + 1) = true) (hn : n + 1 < ops.size) (hin : i < n + 1) (hL : ∀ done a c, L done a c → ∀ j ∈ Region.ready md ops done, n + 1 ≤ j) (f : Nat) :
    ∀ (done : Array Bool) (a : Act) (c : Obj), HeadInv md ops (n + 1) done →
      (∀ j oj, ops[j]? = some oj → j ≠ i → done.getD j true = false → (∀ e ∈ oj.after, Region.binds md e = true → e.on ≠ i) → oi.apart ops oj = true) →
      i ∈ Region.ready md ops done → YieldsZ P ops w z oi v a → HeadZ P md ops w z b0 b1 n L f (done.setIfInBounds i true) (a.put oi.dst v) c → HeadZ P md ops w z b0 b1 n L (f + 1) done a c := by
  have low : ∀ done, HeadInv md ops (n + 1) done → i ∈ Region.ready md ops done → ∀ j ∈ Region.ready md ops done, j < n + 1 := fun done inv hr j hj => by
    rcases Nat.lt_or_ge j (n + 1) with h | h
    · exact h
    · exact absurd hj (tail_waits hs hc hn inv _ i rfl hin (mem_ready.1 hr).1 j h)
  induction f with
  | zero =>
    intro done a c inv _ hr hy H
    refine ⟨fun h => (by rw [h] at hr; cases hr), fun j hj => ⟨low done inv hr j hj, ?_⟩⟩
    rcases Nat.decEq j i with hji | hji
    · have := hL _ _ _ H j (ready_mono hj hji)
      have := low done inv hr j hj
      omega
    · subst hji; exact ⟨oi, hi, .inl ⟨hob, v, hy, H⟩⟩
  | succ f ih =>
    intro done a c inv hfree hr hy H
    refine ⟨fun h => (by rw [h] at hr; cases hr), fun j hj => ⟨low done inv hr j hj, ?_⟩⟩
    rcases Nat.decEq j i with hji | hji
    · obtain ⟨hjun, oj, hoj, hall⟩ := mem_ready.1 hj
      have hun := (mem_ready.1 hr).1
      have hnot : ∀ e ∈ oj.after, Region.binds md e = true → e.on ≠ i := fun e he hb heq => by
        have h1 := hall e he hb
        rw [heq, getD_both hun] at h1
        cases h1
      obtain ⟨h1, h2, h3⟩ := Oper.apart_spec (hfree j oj hoj hji hjun hnot)
      have hfree' : ∀ k ok, ops[k]? = some ok → k ≠ i → (done.setIfInBounds j true).getD k true = false → (∀ e ∈ ok.after, Region.binds md e = true → e.on ≠ i) → oi.apart ops ok = true := fun k ok hk hki hun' hno => by
        refine hfree k ok hk hki ?_ hno
        rcases Nat.decEq j k with hjk | hjk
        · rw [getD_set_ne true hjk] at hun'; exact hun'
        · subst hjk; exact hjun
      have inv' := inv.set hj (low done inv hr j hj)
      have hr' := ready_mono hr (Ne.symm hji)
      refine ⟨oj, hoj, ?_⟩
      obtain ⟨_, oj', hoj', hh⟩ := H.2 j (ready_mono hj hji)
      obtain rfl : oj = oj' := Option.some.inj (hoj.symm.trans hoj')
      rcases hh with ⟨hb, u, hu, hK⟩ | ⟨hb, hcb, hA, hK⟩
      · refine .inl ⟨hb, u, hu.unput (fun cs b => hsel j oj cs b hoj) h1, ih _ _ _ inv' hfree' hr' (hy.put (fun cs b => hsel i oi cs b hi) h3) ?_⟩
        rw [Array.setIfInBounds_comm _ _ hji, ← Act.put_comm a v u h2]
        exact hK
      · refine .inr ⟨hb, hcb, hA.of_same (execOp_put oj (fun cs b => hsel j oj cs b hoj) a oi.dst v h1).symm (wanted_put oj a oi.dst v h1).symm, ih _ _ _ inv' hfree' hr' (hy.put (fun cs b => hsel i oi cs b hi) h3) ?_⟩
        rw [Array.setIfInBounds_comm _ _ hji, ← Act.put_comm a v _ h2]
        exact hK
    · subst hji; exact ⟨oi, hi, .inl ⟨hob, v, hy, H⟩⟩
end

theorem HeadZ.lex {b0 b1 : Obj} {n g : Nat} {R : Act → Prop} {os : Oper} (hos : ops[n]? = some os) (hsel : Region.noSelect ops = true) (hs : Region.sinkB md ops (n + 1) = true) (hc : Region.chainB md ops (n + 1) = true) (hn : n + 1 < ops.size) (l : List Oper) :
    ∀ (k : Nat) (done : Array Bool) (a : Act), (∀ j, j < l.length → l[j]? = ops[k + j]?) → k + l.length = n → HeadInv md ops (n + 1) done → (∀ j, j < k → done.getD j true = true) →
      Region.lexHead md ops g (l.length + 1) k done = true → wpKeepZ P ops w z (fun a' => StoresZ P ops os a' z b0 b1 ∧ R (a'.put os.dst undef)) l a →
      HeadZ P md ops w z b0 b1 n (fun done' a' c => Region.seqB md ops g (n + 1) done' = true ∧ R a' ∧ c = b1) (l.length + 1) done a b0 := by
  induction l with
  | nil =>
    intro k done a _ hk inv hd hB h
    obtain rfl : k = n := by simpa using hk
    simp only [List.length_nil, Nat.zero_add, Region.lexHead, Bool.and_eq_true] at hB ⊢
    obtain ⟨⟨hr, hf⟩, hB'⟩ := hB
    have hr' : k ∈ Region.ready md ops done := by simpa using hr
    refine ⟨fun h0 => (by rw [h0] at hr'; cases hr'), fun j hj => ?_⟩
    have hlt : j < k + 1 := by
      rcases Nat.lt_or_ge j (k + 1) with h' | h'
      · exact h'
      · exact absurd hj (tail_waits hs hc hn inv _ k rfl (by omega) (mem_ready.1 hr').1 j h')
    have hjk : j = k := by
      rcases Nat.lt_or_ge j k with h' | h'
      · have := hd j h'
        rw [(mem_ready.1 hj).1] at this
        cases this
      · omega
    subst hjk
    exact ⟨hlt, os, hos, .inr ⟨rfl, rfl, h.1, hB', h.2, rfl⟩⟩
  | cons o l ih =>
    intro k done a hl hk inv hd hB h
    have h0 : ops[k]? = some o := by simpa using (hl 0 (by simp)).symm
    simp only [List.length_cons] at hk hB ⊢
    simp only [Region.lexHead, Bool.and_eq_true] at hB
    obtain ⟨⟨hr, hf⟩, hB'⟩ := hB
    have hr' : k ∈ Region.ready md ops done := by simpa using hr
    obtain ⟨v, hy, hK⟩ := yieldsZ_of_wpKeepZ h
    refine HeadZ.first h0 (by omega) (Region.noSelect_spec hsel) hs hc hn (by omega) (fun done' a' U' hL => seqB_ready hL.1) (l.length + 1) done a b0 inv (Region.free_spec h0 hf) hr' hy ?_
    refine ih (k + 1) _ _ (fun j hj => by have := hl (j + 1) (by simp; omega); simpa [Nat.add_assoc, Nat.add_comm 1 j] using this) (by omega) (inv.set hr' (by omega)) ?_ (by simpa [Region.lexHead] using hB') hK
    intro j hj
    rcases Nat.decEq k j with hkj | hkj
    · rw [getD_set_ne true hkj]; exact hd j (by omega)
    · subst hkj
      have hks : k < done.size := by rw [inv.size]; omega
      simp [hks]

/-- **A drawn region with a store into a block that it does not read.** -/
theorem wp_region_put {id : Nat} {Q : Exit → Act → World → Prop} {a : Act} {l : List Oper} {os : Oper} (n : Nat) (z : Nat) (b0 b1 : Obj) (hm : P.follows .mixedOrders = true) (hB : Region.lexTailB .any l.toArray (n + 1) = true)
    (hos : l[n]? = some os) (hz : w.heap[z]? = some b0)
    (h : wpKeepZ P l.toArray w z (fun a' => StoresZ P l.toArray os a' z b0 b1 ∧ ∀ W, BelowZ z w W → W.heap[z]? = some b1 → wpList P l.toArray Q (l.drop (n + 1)) (a'.put os.dst undef) W) (l.take n) a) : (Code.region id l.toArray true).wp P Q a w := by
  simp only [Region.lexTailB, Bool.and_eq_true, decide_eq_true_eq] at hB
  obtain ⟨⟨⟨⟨hsel, hn⟩, hs⟩, hc⟩, hlex⟩ := hB
  have hn' : n + 1 < l.length := by simpa using hn
  have htl : (l.take n).length = n := by simp; omega
  have hdl : (l.drop (n + 1)).length = l.toArray.size - (n + 1) := by simp
  have start : HeadInv .any l.toArray (n + 1) (Array.replicate l.toArray.size false) := by
    constructor
    · simp
    · intro j oj _ hl; rw [getD_replicate_false] at hl; cases hl
    · intro t _ ht; exact getD_in (by simpa using ht) (getD_replicate_false _ _)
  have H := HeadZ.lex (P := P) (w := w) (z := z) (b0 := b0) (b1 := b1) (md := .any) (g := l.toArray.size - (n + 1)) (R := fun a' => ∀ W, BelowZ z w W → W.heap[z]? = some b1 → wpList P l.toArray Q (l.drop (n + 1)) a' W) (os := os)
    (by simpa using hos) hsel hs hc hn (l.take n) 0 _ a (fun j hj => by rw [htl] at hj; simp [hj]) (by rw [htl]; omega) start (fun j hj => by omega) (by rw [htl]; exact hlex) h
  rw [htl] at H
  refine wp_region_any hm ?_
  have := HeadZ.any (Q := Q) (g := l.toArray.size - (n + 1)) (fun done a' c W hW hzz hL => by
    obtain ⟨h1, h2, rfl⟩ := hL
    have := wpAny_of_seq (md := .any) (Q' := Q) (l.drop (n + 1)) (n + 1) done a' W (fun j => by simp [List.getElem?_drop]) (by rw [hdl]; exact h1) (h2 W hW hzz)
    rwa [hdl] at this) _ _ _ _ _ (show BelowZ z w { w with drawn := w.drawn + 1 } from ⟨(Below.refl 0 w).drew, fun _ _ _ => rfl⟩) hz H
  rwa [show n + 1 + (l.toArray.size - (n + 1)) = l.toArray.size by omega] at this
end
end Go.Proofs.Ythepafendopfhaa
