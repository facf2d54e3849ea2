/- Below, with one fact more: no draw is taken back. What lies below a block's number is as it was; the draws are counted on. No program. -/
import Derived.Below
import Derived.Sort.Grow
import Derived.Deep.Draws
import Derived.Lib.Hide
namespace Go.Proofs.YtmfejdikfpckdaaGreatDoor
open Go.RowKit
set_option linter.unusedVariables false

structure Below (B : Nat) (w w' : World) : Prop where
  os : w'.os = w.os
  tape : w'.tape = w.tape
  output : w'.output = w.output
  size : w.heap.size ≤ w'.heap.size
  drawn : w.drawn ≤ w'.drawn
  block : ∀ k, k < B → w'.heap[k]? = w.heap[k]?
structure GrB (w w' : World) (row : Option Nat) : Prop where
  os : w'.os = w.os
  tape : w'.tape = w.tape
  output : w'.output = w.output
  size : w.heap.size ≤ w'.heap.size
  drawn : w.drawn ≤ w'.drawn
  block : ∀ k, k < w.heap.size → some k ≠ row → w'.heap[k]? = w.heap[k]?
theorem GrB.of {w w' : World} {row : Option Nat} (h : w.grownBy w' row) (hd : w.drawn ≤ w'.drawn) : GrB w w' row := ⟨h.os, h.tape, h.output, h.size, hd, h.block⟩
theorem GrB.refl (w : World) (row : Option Nat) : GrB w w row := ⟨rfl, rfl, rfl, Nat.le_refl _, Nat.le_refl _, fun _ _ _ => rfl⟩
theorem GrB.trans {a b c : World} {row : Option Nat} (h : GrB a b row) (k : GrB b c row) : GrB a c row :=
  ⟨k.os.trans h.os, k.tape.trans h.tape, k.output.trans h.output, Nat.le_trans h.size k.size, Nat.le_trans h.drawn k.drawn, fun i hi hn => (k.block i (Nat.lt_of_lt_of_le hi h.size) hn).trans (h.block i hi hn)⟩
theorem Below.kit {B : Nat} {w w' : World} (h : Below B w w') : Go.RowKit.Below B w w' := ⟨h.os, h.tape, h.output, h.size, h.block⟩
theorem Below.refl (B : Nat) (w : World) : Below B w w := ⟨rfl, rfl, rfl, Nat.le_refl _, Nat.le_refl _, fun _ _ => rfl⟩
theorem Below.trans {B : Nat} {a b c : World} (h : Below B a b) (k : Below B b c) : Below B a c :=
  ⟨k.os.trans h.os, k.tape.trans h.tape, k.output.trans h.output, Nat.le_trans h.size k.size, Nat.le_trans h.drawn k.drawn, fun i hi => (k.block i hi).trans (h.block i hi)⟩
theorem Below.mono {B B' : Nat} {w w' : World} (h : Below B w w') (hB : B' ≤ B) : Below B' w w' := ⟨h.os, h.tape, h.output, h.size, h.drawn, fun k hk => h.block k (Nat.lt_of_lt_of_le hk hB)⟩
theorem Below.drew {B : Nat} {a w : World} (h : Below B a w) : Below B a w.drew := ⟨h.os, h.tape, h.output, h.size, Nat.le_trans h.drawn (Nat.le_succ _), h.block⟩
theorem Below.drewN {B : Nat} {a w : World} (h : Below B a w) (n : Nat) : Below B a (w.drewN n) := ⟨h.os, h.tape, h.output, h.size, Nat.le_trans h.drawn (Nat.le_add_right _ _), h.block⟩
theorem Below.heap_alloc (w : World) (o : Obj) (k : Nat) (h : k < w.heap.size) : (w.alloc o).heap[k]? = w.heap[k]? := Go.RowKit.Below.heap_alloc w o k h
theorem Below.heap_setCell (w : World) (a : Addr) (u : Value) (k : Nat) (h : k ≠ a.block) : (w.setCell a u).heap[k]? = w.heap[k]? := Go.RowKit.Below.heap_setCell w a u k h
theorem Below.alloc {B : Nat} {a w : World} (h : Below B a w) (hB : B ≤ w.heap.size) (o : Obj) : Below B a (w.alloc o) :=
  h.trans ⟨rfl, rfl, rfl, by simp, Nat.le_refl _, fun k hk => Below.heap_alloc _ _ _ (by omega)⟩
theorem Below.setCell {B : Nat} {a w : World} (h : Below B a w) {p : Addr} (hp : B ≤ p.block) (u : Value) : Below B a (w.setCell p u) :=
  h.trans ⟨rfl, rfl, rfl, by simp [World.setCell], Nat.le_refl _, fun k hk => Below.heap_setCell _ _ _ _ (by omega)⟩
theorem Below.grown {B : Nat} {a w w' : World} {row : Option Nat} (h : Below B a w) (hg : GrB w w' row) (hB : B ≤ w.heap.size) (hr : ∀ k, row = some k → B ≤ k) : Below B a w' :=
  h.trans ⟨hg.os, hg.tape, hg.output, hg.size, hg.drawn, fun k hk => hg.block k (by omega) (fun e => by have := hr k e.symm; omega)⟩
theorem Below.cell {B : Nat} {w w' : World} (h : Below B w w') {p : Addr} (hp : p.block < B) : w'.cell? p = w.cell? p := h.kit.cell hp
/-- Nothing that was there has turned: the world has grown. -/
theorem Below.grew {w w' : World} (h : Below w.heap.size w w') : ∃ q os, w' = Go.Sort.grow (w.drewN q) os := by
  refine ⟨w'.drawn - w.drawn, (w'.heap.toList.drop w.heap.size).toArray, ?_⟩
  obtain ⟨heap, tape, drawn, os, output⟩ := w
  obtain ⟨heap', tape', drawn', os', output'⟩ := w'
  obtain ⟨h1, h2, h3, h4, h6, h5⟩ := h
  simp only at h1 h2 h3 h4 h5 h6
  subst h1; subst h2; subst h3
  unfold Go.Sort.grow World.drewN
  simp only [World.mk.injEq, and_true, true_and]
  refine ⟨?_, by omega⟩
  apply Array.ext_getElem?
  intro k
  rw [Array.getElem?_append]
  split
  · rename_i hk; exact h5 k hk
  · rename_i hk
    simp only [List.getElem?_toArray, List.getElem?_drop]
    rw [Nat.add_sub_cancel' (by omega)]
    simp
theorem view_drawn {P : Program} {w w2 : World} {at_ : Addr} {u : TypeId} {k : Addr} {v : Value} {at2 : Bool} {t : List Addr} (h : w.viewStore P at_ u k v at2 = .ok (w2, t)) : w2.drawn = w.drawn := by
  unfold World.viewStore at h
  simp only [bind, Except.bind, pure, Except.pure] at h
  repeat' split at h
  all_goals first | (cases h; rfl) | cases h
theorem ask_drawn {α : Type} : ∀ (q : Ask α) (w : World), w.drawn ≤ (w.ask q).2.drawn := by
  intro q
  induction q with
  | done a => intro w; exact Nat.le_refl _
  | ask what range k ih =>
    intro w
    unfold World.ask
    simp only
    split
    · exact ih _ _
    · exact Nat.le_trans (Nat.le_succ _) (ih _ { w with drawn := w.drawn + 1 })
theorem sys_drawn (w : World) (c : Sys) : w.drawn ≤ (w.sys c).2.drawn := by
  unfold World.sys
  generalize Kernel.perform c w.os = q
  have h := ask_drawn q w
  generalize w.ask q = r at h ⊢
  obtain ⟨⟨r, o⟩, w2⟩ := r
  have h : w.drawn ≤ w2.drawn := h
  split
  · exact Nat.le_refl _
  · rename_i hx
    injection hx with h1 h2
    subst h2
    exact h
theorem run_drawn {α : Type} {P : Program} : ∀ (e : Sem α) {w w' : World} {v : α}, e.run P w = .ok v w' → w.drawn ≤ w'.drawn := by
  intro e
  induction e with
  | pure a => intro w w' v h; simp only [Sem.run, Result.ok.injEq] at h; rw [h.2]; exact Nat.le_refl _
  | load m a k ih =>
    intro w w' v h
    simp only [Sem.run] at h
    split at h
    · exact ih _ h
    · split at h
      · exact ih _ h
      · cases h
  | store m a u k ih =>
    intro w w' v h
    have far : ∀ w2 t, w.farStore P a u (m == Mode.atomic) = .ok (w2, t) → w.drawn ≤ w2.drawn := by
      intro w2 t h2
      unfold World.farStore at h2
      split at h2
      · split at h2
        · rename_i h3
          cases h2
          exact Nat.le_of_eq (view_drawn h3).symm
        · cases h2
      · cases h2
    have main : (match w.cell? a with
      | some _ => if w.frozen? a then Result.halt (.unsupported (.unsafePointer "a write to bytes that a string shares")) w else k.run P (w.setCell a u)
      | none => match w.farStore P a u (m == Mode.atomic) with
        | .ok (w, _) => k.run P w
        | .error h => .halt h w) = .ok v w' → w.drawn ≤ w'.drawn := by
      intro h
      split at h
      · split at h
        · cases h
        · exact ih (w := w.setCell a u) h
      · split at h
        · rename_i w2 t h2
          exact Nat.le_trans (far _ _ h2) (ih h)
        · cases h
    cases u <;> simp only [Sem.run] at h <;> first | cases h | exact main h
  | new o k ih =>
    intro w w' v h
    simp only [Sem.run] at h
    exact ih _ (w := { w with heap := w.heap.push o }) h
  | shape r k ih => intro w w' v h; exact ih _ (by simpa only [Sem.run] using h)
  | freeze a n k ih => 
    intro w w' v h
    have e : (w.freeze a n).drawn = w.drawn := by unfold World.freeze; split <;> rfl
    rw [← e]
    exact ih (w := w.freeze a n) (by simpa only [Sem.run] using h)
  | frozen a k ih => intro w w' v h; exact ih _ (by simpa only [Sem.run] using h)
  | getObj r k ih =>
    intro w w' v h
    simp only [Sem.run] at h
    split at h
    · cases h
    · exact ih _ h
    · cases h
  | setObj r o k ih =>
    intro w w' v h
    simp only [Sem.run] at h
    split at h
    · cases h
    · exact ih (w := { w with heap := w.heap.setIfInBounds r o }) h
    · cases h
  | choose q k ih =>
    intro w w' v h
    simp only [Sem.run] at h
    split at h
    · exact ih _ h
    · exact Nat.le_trans (Nat.le_succ _) (ih _ h)
  | sys c k ih =>
    intro w w' v h
    have h1 := sys_drawn w c
    simp only [Sem.run] at h
    generalize w.sys c = r at h h1
    exact Nat.le_trans h1 (ih _ h)
  | program k ih => intro w w' v h; exact ih _ (by simpa only [Sem.run] using h)
  | mark m k ih => intro w w' v h; exact ih (by simpa only [Sem.run] using h)
  | halt h => intro w w' v h; cases h
end Go.Proofs.YtmfejdikfpckdaaGreatDoor
