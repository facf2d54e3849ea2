/- A region that draws its order, in which new blocks are made: its first n operations read, or call what reads and makes memory; then come operations that make a block each; all these in whatever order; the rest comes behind them in one forced order. One walk of the text's order serves every order: of the new blocks it knows that they are new, apart, and as made. No program. · A region that draws its order: its first n operations read, or call what reads and makes memory; the next one stores into a block z that none of them reads; all these in whatever order; the rest comes behind them in one forced order. One walk of the text's order serves every order. No program. · A whole struct stored into the block that holds it: the block as it is then, all else as it was. No program. · A region that draws its order: its first n operations read, or call what reads and makes memory; the next one makes a block, the one behind it stores into that block; the first n float between these two and behind them; the rest comes in one forced order. No program. · A region that draws its order, whatever it holds: operations that read or call (q), that are pure (p), that make a block (a), that store into a known block (s). Where the edges, directly or through others, keep apart what must not change places, one walk of the text's order serves every order. No program. -/
import Derived.Test.YtaiokjhjakdhaaaGreatDoorPb2
import Derived.Test.YtaiokjhjakdhaaaGreatDoorPb3
import Derived.Laws.IdiomCopy
namespace Go.Proofs.YtaiokjhjakdhaaaGreatDoor
open Go.RowKit
set_option linter.unusedVariables false

section
variable {P : Program} {ops : Array Oper} {md : Region.Mode} {w : World}

/-- At W the operation yields v, and all that lies in W stays. -/
def keepsAt (P : Program) (o : Oper) (a : Act) (W : World) (v : Value) : Prop := Oper.quietUpon P (fun w'' => Below W.heap.size W w'') W v ((execOp a.eval o).run P W)
def keeps (P : Program) (o : Oper) (a : Act) (w : World) (K : Act → Prop) : Prop := ∃ v, (∀ s : Ext w, keepsAt P o a s.to v) ∧ K (a.put o.dst v)
def wpKeep (P : Program) (ops : Array Oper) (w : World) (R : Act → Prop) : List Oper → Act → Prop
  | [], a => R a
  | o :: rest, a => if Region.wanted o (yielded ops a.tmps) then keeps P o a w (wpKeep P ops w R rest) else wpKeep P ops w R rest (a.put o.dst undef)
theorem wpKeep_nil {R : Act → Prop} {a : Act} (h : R a) : wpKeep P ops w R [] a := h
theorem quietUpon_mono {C C' : World → Prop} {W : World} {v : Value} {r : Result Next} (h : ∀ w', C w' → C' w') (hq : Oper.quietUpon P C W v r) : Oper.quietUpon P C' W v r := by
  cases r with
  | halt x w' => exact hq
  | ok n w' =>
    cases n <;> simp only [Oper.quietUpon] at hq ⊢ <;> first | exact hq | exact ⟨hq.1, hq.2.mono fun e w'' ⟨a, b⟩ => ⟨a, h _ b⟩⟩

end
end Go.Proofs.YtaiokjhjakdhaaaGreatDoor

namespace Go.Proofs.YtaiokjhjakdhaaaGreatDoor
open Go.RowKit
set_option linter.unusedVariables false

/-- All that lay in w is as it was, but for block z. -/
structure BelowZ (z : Nat) (w W : World) : Prop where
  all : Below 0 w W
  block : ∀ k, k < w.heap.size → k ≠ z → W.heap[k]? = w.heap[k]?
theorem BelowZ.refl (z : Nat) (w : World) : BelowZ z w w := ⟨Below.refl 0 w, fun _ _ _ => rfl⟩
theorem BelowZ.blk {z g : Nat} {w W : World} {t : TypeId} {cs : Array Value} (h : BelowZ z w W) (hk : Blk w g t cs) (hz : g ≠ z) : Blk W g t cs := (h.block g hk.lt hz).trans hk
theorem BelowZ.below {z B : Nat} {w0 w W : World} (h : BelowZ z w W) (hB : Below B w0 w) (hz : B ≤ z) (hs : B ≤ w.heap.size) : Below B w0 W :=
  hB.trans ⟨h.all.os, h.all.tape, h.all.output, h.all.size, fun k hk => by
    rcases Nat.lt_or_ge k w.heap.size with hw | hw
    · exact h.block k hw (by omega)
    · exact absurd hw (by omega)⟩
structure ExtZ (w : World) (z : Nat) where
  «to» : World
  h : BelowZ z w «to»
instance (w : World) (z : Nat) : Nonempty (ExtZ w z) := ⟨⟨w, BelowZ.refl _ _⟩⟩
end Go.Proofs.YtaiokjhjakdhaaaGreatDoor

namespace Go.Proofs.YtaiokjhjakdhaaaGreatDoor
open Go.RowKit
set_option linter.unusedVariables false

theorem setCells_far {b : Nat} : ∀ (vs : List Value) (o : Nat) (W : World), (∀ k, k ≠ b → (W.setCells b o vs).heap[k]? = W.heap[k]?) ∧ Below 0 W (W.setCells b o vs)
  | [], o, W => ⟨fun _ _ => rfl, Below.refl _ _⟩
  | v :: r, o, W => by
    obtain ⟨h1, h2⟩ := setCells_far (b := b) r (o + 1) (W.setCell ⟨b, o, none⟩ v)
    exact ⟨fun k hk => (h1 k hk).trans (Below.heap_setCell W ⟨b, o, none⟩ v k hk), ((Below.refl 0 W).setCell (Nat.zero_le _) v).trans h2⟩

end Go.Proofs.YtaiokjhjakdhaaaGreatDoor

namespace Go.Proofs.YtaiokjhjakdhaaaGreatDoor
open Go.RowKit
set_option linter.unusedVariables false

end Go.Proofs.YtaiokjhjakdhaaaGreatDoor

namespace Go.Proofs.YtaiokjhjakdhaaaGreatDoor
open Go.RowKit
set_option linter.unusedVariables false

/-- What is known of blocks that the region makes or changes. -/
abbrev Ov := Nat → Option Obj
def Ov.put (U : Ov) (g : Nat) (b : Obj) : Ov := fun k => if k = g then some b else U k
theorem Ov.put_ne (U : Ov) {g k : Nat} (b : Obj) (h : k ≠ g) : U.put g b k = U k := if_neg h
def Ov.fin (U : Ov) : Prop := ∃ x, ∀ g b, U g = some b → g < x
theorem Ov.fin.put {U : Ov} (h : U.fin) (g : Nat) (b : Obj) : (U.put g b).fin := by
  obtain ⟨x, hx⟩ := h
  refine ⟨max x (g + 1), fun k c hu => ?_⟩
  by_cases hk : k = g
  · omega
  · rw [Ov.put_ne _ _ hk] at hu
    have := hx _ _ hu
    omega
structure Ov.ok (U : Ov) (w W : World) : Prop where
  all : Below 0 w W
  keep : ∀ k, k < w.heap.size → U k = none → W.heap[k]? = w.heap[k]?
  has : ∀ k b, U k = some b → W.heap[k]? = some b
section
variable {P : Program} {ops : Array Oper} {md : Region.Mode} {w : World} {Z : Nat → Prop}

/-! What one operation may do -/
def AllocsAt (P : Program) (ops : Array Oper) (o : Oper) (a : Act) (mk : Nat → Value) (b : Obj) : Prop :=
  Region.wanted o (yielded ops a.tmps) = true ∧ ∀ W, (execOp a.eval o).run P W = .ok (.value (mk W.heap.size)) (W.alloc b)
inductive Kd | q | p | a | s
theorem AllocsAt.uniq {o : Oper} {a : Act} {mk mk' : Nat → Value} {b b' : Obj} (w : World) (h : AllocsAt P ops o a mk b) (h' : AllocsAt P ops o a mk' b') : mk = mk' ∧ b = b' := by
  have key : ∀ W : World, mk W.heap.size = mk' W.heap.size ∧ W.alloc b = W.alloc b' := fun W => by
    have e := (h.2 W).symm.trans (h'.2 W)
    injection e with e1 e2
    injection e1 with e1
    exact ⟨e1, e2⟩
  constructor
  · funext g
    have := (key { w with heap := Array.replicate g (.cells #[] 0) }).1
    simpa using this
  · have h3 := heap_alloc_new w b
    rw [(key w).2, heap_alloc_new w b'] at h3
    injection h3 with h3
    exact h3.symm
/-! Who waits for whom -/
def reachB (md : Region.Mode) (ops : Array Oper) (i : Nat) : Nat → Nat → Bool
  | 0, _ => false
  | f + 1, j => match ops[j]? with
    | some o => o.after.any (fun e => Region.binds md e && (e.on == i || reachB md ops i f e.on))
    | none => false
theorem reach_done {i n : Nat} {done : Array Bool} (inv : HeadInv md ops n done) : ∀ (f j : Nat), reachB md ops i f j = true → done.getD j false = true → done.getD i false = true
  | 0, j, h, _ => by simp [reachB] at h
  | f + 1, j, h, hj => by
    unfold reachB at h
    split at h
    · rename_i o ho
      obtain ⟨e, he, hb⟩ := Array.any_eq_true'.1 h
      simp only [Bool.and_eq_true, Bool.or_eq_true, beq_iff_eq] at hb
      have h2 := inv.closed j o ho hj e he hb.1
      rcases hb.2 with h3 | h3
      · rw [← h3]; exact h2
      · exact reach_done inv f e.on h3 h2
    · cases h
theorem reach_waits {i j f n : Nat} {done : Array Bool} (inv : HeadInv md ops n done) (h : reachB md ops i f j = true) (hi : done.getD i true = false) : j ∉ Region.ready md ops done := by
  intro hj
  obtain ⟨_, o, ho, hall⟩ := mem_ready.1 hj
  have : done.getD i false = true := by
    cases f with
    | zero => simp [reachB] at h
    | succ f =>
      unfold reachB at h
      rw [ho] at h
      obtain ⟨e, he, hb⟩ := Array.any_eq_true'.1 h
      simp only [Bool.and_eq_true, Bool.or_eq_true, beq_iff_eq] at hb
      have h2 := hall e he hb.1
      rcases hb.2 with h3 | h3
      · rw [← h3]; exact h2
      · exact reach_done inv f e.on h3 h2
  rw [getD_both hi] at this
  cases this
/-! Every order -/
variable {kd : Nat → Kd} {N : Nat}
end
end Go.Proofs.YtaiokjhjakdhaaaGreatDoor
