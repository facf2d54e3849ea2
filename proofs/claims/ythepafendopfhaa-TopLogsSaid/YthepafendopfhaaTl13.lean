/- A row of structs that has been sorted. No program. -/
import Derived.Test.YthepafendopfhaaTl7
import Derived.Shelf.SlSortCmp.NoneTotal
namespace Go.Proofs.Ythepafendopfhaa
open Go.RowKit Go.Sort
set_option linter.unusedVariables false

section
variable {α : Type} [Inhabited α] {enc : α → List Value} {k : Nat}
theorem flatK_flat (hk : ∀ x, (enc x).length = k) (xs : List α) : flatK enc k xs.toArray = (flat enc xs).toArray := by
  refine ext_get! (by simp [flat_len hk]) fun t ht => ?_
  have ht' : t < xs.length * k := by simpa using ht
  rw [get_flatK _ _ _ _ (by simpa using ht')]
  obtain ⟨u, hu⟩ := some_at (l := flat enc xs) (k := t) (by rw [flat_len hk]; exact ht')
  obtain ⟨j, x, i, rfl, hi, hx, hv⟩ := flat_get hk hu
  have e1 : (j * k + i) / k = j := (blk_iff k j _ (by omega)).1 ⟨by omega, by omega⟩
  have e2 : (j * k + i) % k = i := by rw [Nat.mod_eq_sub_div_mul, e1]; omega
  rw [e1, e2]
  have h1 : xs.toArray[j]! = x := by simp [getElem!_def, hx]
  have h2 : (enc x)[i]! = u := by simp [getElem!_def, hv]
  rw [h1, h2]
  simp [getElem!_def, hu]

theorem holdsK_own (hk : ∀ x, (enc x).length = k) {w : World} {g c base n : Nat} {e : TypeId} {xs : List α} (h : w.ownsRow base e k (.slice (some ⟨g, 0, none⟩) n c) n (flat enc xs)) (hn : xs.length = n) : HoldsK enc k w g 0 xs.toArray := by
  unfold HoldsK
  rw [flatK_flat hk]
  intro t ht
  have ht' : t < (flat enc xs).length := by simpa using ht
  obtain ⟨u, hu⟩ := some_at ht'
  have hc := h.cells (g := g) rfl t u hu
  rw [Addr.add_lit] at hc
  have e1 : (flat enc xs).toArray[t]! = u := by simp [getElem!_def, hu]
  rw [e1]
  refine ⟨hc, ?_⟩
  rcases h.2 with ⟨h, _⟩ | ⟨g', cap, cur, hv, _, hg, _⟩
  · cases h
  · cases hv
    exact Blk.frozen hg _

theorem own_sorted (hk : ∀ x, (enc x).length = k) {w : World} {g c base n : Nat} {e : TypeId} {xs ys : List α} (h : w.ownsRow base e k (.slice (some ⟨g, 0, none⟩) n c) n (flat enc xs)) (hn : xs.length = n) (hy : ys.length = n) (m : Nat) (os : Array Obj) :
    (sortWorldK enc k w g 0 m ys.toArray os).ownsRow base e k (.slice (some ⟨g, 0, none⟩) n c) n (flat enc ys) ∧ Below base w (sortWorldK enc k w g 0 m ys.toArray os) := by
  rcases h.2 with ⟨hv, _⟩ | ⟨g', cap, cur, hv, hB, hg, h1, h2, h3, h4⟩
  · cases hv
  · cases hv
    have hlt : g < w.heap.size := (Array.getElem?_eq_some_iff.1 hg).1
    have hF : (flatK enc k ys.toArray).size = n * k := by simp [hy]
    have hfl : flatK enc k ys.toArray = (flat enc ys).toArray := flatK_flat hk ys
    have hnc : n * k ≤ cur.size := by rw [h3]; exact Nat.mul_le_mul_right k h1
    have hcell : (sortWorldK enc k w g 0 m ys.toArray os).heap[g]? = some (.cells (putCells id 0 (flatK enc k ys.toArray) cur) e (0, 0)) := by
      unfold sortWorldK
      rw [heap_grow_old _ _ (by rw [size_putRowK]; exact hlt)]
      unfold putRowK putRow mapBlock
      simp only [Array.getElem?_modify, if_pos]
      show Option.map _ (w.heap[g]?) = _
      rw [hg]
      rfl
    refine ⟨⟨by rw [flat_len hk, hy], .inr ⟨g, c, _, rfl, hB, hcell, h1, h2, by simp [putCells, h3], ?_⟩⟩, ?_⟩
    · rw [hfl]
      apply List.ext_getElem?
      intro t
      by_cases ht : t < n * k
      · rw [List.getElem?_take_of_lt ht]
        obtain ⟨u, hu⟩ := some_at (l := flat enc ys) (k := t) (by rw [flat_len hk, hy]; exact ht)
        have hc : t < cur.size := by omega
        have e1 : (flat enc ys)[t]! = u := by simp [getElem!_def, hu]
        have hs : t < (flat enc ys).length := by rw [flat_len hk, hy]; exact ht
        simp only [putCells, Array.getElem?_toList, Array.getElem?_mapIdx, Array.getElem?_eq_getElem hc, Option.map_some]
        rw [if_pos ⟨by omega, by simpa using hs⟩, hu]
        simp [getElem!_def, hu]
      · rw [List.getElem?_eq_none (by rw [List.length_take]; omega), List.getElem?_eq_none (by rw [flat_len hk, hy]; omega)]
    · refine ⟨rfl, rfl, rfl, ?_, fun b hb => ?_⟩
      · unfold sortWorldK; rw [size_grow, size_putRowK]; exact Nat.le_add_right _ _
      · unfold sortWorldK
        rw [heap_grow_old _ _ (by rw [size_putRowK]; show b < w.heap.size; omega)]
        unfold putRowK putRow mapBlock
        simp only [Array.getElem?_modify]
        rw [if_neg (by omega)]
        rfl
end
end Go.Proofs.Ythepafendopfhaa
