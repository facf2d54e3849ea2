/- A whole struct stored into the block that holds it: the block as it is then, all else as it was. No program. -/
import Derived.Test.YthepafendopfhaaExt4
import Derived.Laws.IdiomCopy
namespace Go.Proofs.Ythepafendopfhaa
open Go.RowKit
set_option linter.unusedVariables false

theorem blk_setCells {b : Nat} {T : TypeId} : ∀ (vs : List Value) (o : Nat) (cs : Array Value) (W : World), Blk W b T cs → o + vs.length ≤ cs.size →
    ∃ cs', Blk (W.setCells b o vs) b T cs' ∧ cs'.size = cs.size ∧ (∀ j, j < o → cs'[j]? = cs[j]?) ∧ (∀ j, j < vs.length → cs'[o + j]? = vs[j]?)
  | [], o, cs, W, h, _ => ⟨cs, h, rfl, fun _ _ => rfl, fun j hj => by simp at hj⟩
  | v :: r, o, cs, W, h, hl => by
    simp only [List.length_cons] at hl
    obtain ⟨cs', h1, h2, h3, h4⟩ := blk_setCells r (o + 1) (cs.setIfInBounds o v) _ (h.set_ o v) (by simp; omega)
    refine ⟨cs', h1, by simpa using h2, fun j hj => ?_, fun j hj => ?_⟩
    · rw [h3 j (by omega), Array.getElem?_setIfInBounds_ne (by omega)]
    · cases j with
      | zero =>
        rw [Nat.add_zero, h3 o (by omega), Array.getElem?_setIfInBounds_self_of_lt (by omega)]
        rfl
      | succ j =>
        have := h4 j (by simpa using hj)
        rw [show o + (j + 1) = o + 1 + j by omega, this]
        rfl
theorem blk_setAll {b : Nat} {T : TypeId} {cs : Array Value} {W : World} (vs : List Value) (h : Blk W b T cs) (hl : vs.length = cs.size) : Blk (W.setCells b 0 vs) b T vs.toArray := by
  obtain ⟨cs', h1, h2, _, h4⟩ := blk_setCells vs 0 cs W h (by omega)
  have : cs' = vs.toArray := by
    apply Array.ext_getElem?
    intro j
    rcases Nat.lt_or_ge j vs.length with hj | hj
    · have := h4 j hj
      simpa using this
    · rw [Array.getElem?_eq_none (by omega), Array.getElem?_eq_none (by simpa using hj)]
  rwa [this] at h1
theorem setCells_far {b : Nat} : ∀ (vs : List Value) (o : Nat) (W : World), (∀ k, k ≠ b → (W.setCells b o vs).heap[k]? = W.heap[k]?) ∧ Below 0 W (W.setCells b o vs)
  | [], o, W => ⟨fun _ _ => rfl, Below.refl _ _⟩
  | v :: r, o, W => by
    obtain ⟨h1, h2⟩ := setCells_far (b := b) r (o + 1) (W.setCell ⟨b, o, none⟩ v)
    exact ⟨fun k hk => (h1 k hk).trans (Below.heap_setCell W ⟨b, o, none⟩ v k hk), ((Below.refl 0 W).setCell (Nat.zero_le _) v).trans h2⟩

theorem run_storeAt {P : Program} {t : TypeId} {b : Nat} {vs : List Value} {cs : Array Value} {T : TypeId} {W : World} (h : Blk W b T cs) (hl : vs.length = cs.size) (h1 : ∀ v ∈ vs, v.oneCell' = true) (hs : (sizeOf t).run P W = .ok vs.length W) :
    (Instr.storeAt t (.pointer (some ⟨b, 0, none⟩)) (.agg vs.toArray)).run P W = .ok () (W.setCells b 0 vs) := by
  have hc := run_storeCells_cells (P := P) b 0 vs 0 W (fun j hj => by have e := h.cell (0 + 0 + j); rw [Array.getElem?_eq_getElem (by omega)] at e; rw [e]; rfl) (fun j hj => h.frozen _) h1
  simp only [Nat.add_zero] at hc
  unfold Instr.storeAt storeVar
  simp [go_sem, hs, Value.cells, hc]

/-- The store of a whole struct into its block, in a walk: behind it the world is a variable. -/
theorem wpList_storeAll {P : Program} {ops : Array Oper} {Q : Exit → Act → World → Prop} {a : Act} {w : World} {rest : List Oper} {o : Oper} {t : TypeId} {p x : Operand} {b : Nat} {T : TypeId} {cs : Array Value} (vs : List Value)
    (ho : o.op = .store t p x) (hg : o.guard = none) (hd : o.dst = none) (hp : a.eval p = .pointer (some ⟨b, 0, none⟩)) (hx : a.eval x = .agg vs.toArray)
    (h : Blk w b T cs) (hl : vs.length = cs.size) (h1 : ∀ v ∈ vs, v.oneCell' = true) (hs : ∀ W : World, (sizeOf t).run P W = .ok vs.length W)
    (hk : ∀ W', BelowZ b w W' → Blk W' b T vs.toArray → wpList P ops Q rest a W') : wpList P ops Q (o :: rest) a w := by
  have hrun : (execOp a.eval o).run P w = .ok .skip (w.setCells b 0 vs) := by
    have := run_storeAt (P := P) (t := t) h hl h1 (hs w)
    unfold execOp
    rw [ho]
    simp only [hp, hx]
    generalize Instr.storeAt t (.pointer (some ⟨b, 0, none⟩)) (.agg vs.toArray) = I at this ⊢
    simp [go_sem, this]
  unfold wpList
  rw [if_pos (by simp [Region.wanted, hg])]
  refine .inl ?_
  unfold Oper.wp
  rw [hrun, Oper.upon_skip, hd]
  exact hk _ ⟨(setCells_far vs 0 w).2, fun k _ hne => (setCells_far vs 0 w).1 k hne⟩ (blk_setAll vs h hl)
end Go.Proofs.Ythepafendopfhaa
