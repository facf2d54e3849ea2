/- A row of structs that has been sorted. No program. -/
import Derived.Test.YtmfejdikfpckdaaGreatDoorFc9
import Derived.Shelf.SlSortCmp.NoneTotal
namespace Go.Proofs.YtmfejdikfpckdaaGreatDoor
open Go.RowKit Go.Sort
set_option linter.unusedVariables false

section
variable {α : Type} [Inhabited α] {enc : α → List Value} {k : Nat}
theorem flatK_flat (hk : ∀ x, (enc x).length = k) (xs : List α) : flatK enc k xs.toArray = (flat enc xs).toArray := by
  refine ext_get! (by simp [flat_len hk]) fun t ht => ?_
  have ht' : t < xs.length * k := by simpa using ht
  rw [get_flatK _ _ _ _ (by simpa using ht')]
  obtain ⟨u, hu⟩ := some_at (l := flat enc xs) (k := t) (by rw [flat_len hk]; exact ht')
  obtain ⟨j, x, i, rfl, hi, hx, hv⟩ := flat_get hk hu
  have e1 : (j * k + i) / k = j := (blk_iff k j _ (by omega)).1 ⟨by omega, by omega⟩
  have e2 : (j * k + i) % k = i := by rw [Nat.mod_eq_sub_div_mul, e1]; omega
  rw [e1, e2]
  have h1 : xs.toArray[j]! = x := by simp [getElem!_def, hx]
  have h2 : (enc x)[i]! = u := by simp [getElem!_def, hv]
  rw [h1, h2]
  simp [getElem!_def, hu]

end
end Go.Proofs.YtmfejdikfpckdaaGreatDoor
