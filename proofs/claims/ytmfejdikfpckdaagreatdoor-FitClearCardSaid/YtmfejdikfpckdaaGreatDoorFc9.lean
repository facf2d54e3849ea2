/- append from a source that may be nil, in a plain region and in one that draws its order. No program. · Rows of structs: read, owned. No program. · The builtin clear on a row of structs. No program. -/
import Derived.Test.YtmfejdikfpckdaaGreatDoorFc5
import Derived.Deep.RegionLaw
import Derived.Deep.DeepCutAuto
import Derived.Deep.Onto
import Derived.Laws.IdiomCopy
namespace Go.Proofs.YtmfejdikfpckdaaGreatDoor
open Go.RowKit
set_option linter.unusedVariables false

/-! An empty literal and a one-element literal, in whatever order they were made. -/
end Go.Proofs.YtmfejdikfpckdaaGreatDoor

namespace Go.Proofs.YtmfejdikfpckdaaGreatDoor
open Go.RowKit
set_option linter.unusedVariables false

section
variable {α : Type} (enc : α → List Value) (k : Nat)
def flat (xs : List α) : List Value := xs.flatMap enc
theorem flat_append (xs ys : List α) : flat enc (xs ++ ys) = flat enc xs ++ flat enc ys := by simp [flat]
theorem flat_one (x : α) : flat enc [x] = enc x := by simp [flat]
variable {enc k}
theorem flat_len (hk : ∀ x, (enc x).length = k) (xs : List α) : (flat enc xs).length = xs.length * k := by
  induction xs with
  | nil => simp [flat]
  | cons x xs ih => simp only [flat, List.flatMap_cons, List.length_append, List.length_cons, hk] at ih ⊢; rw [ih, Nat.add_mul]; omega
theorem flat_get (hk : ∀ x, (enc x).length = k) : ∀ {xs : List α} {t : Nat} {u : Value}, (flat enc xs)[t]? = some u → ∃ j x i, t = j * k + i ∧ i < k ∧ xs[j]? = some x ∧ (enc x)[i]? = some u := by
  intro xs
  induction xs with
  | nil => intro t u h; simp [flat] at h
  | cons y ys ih =>
    intro t u h
    simp only [flat, List.flatMap_cons] at h
    by_cases ht : t < k
    · rw [List.getElem?_append_left (by rw [hk]; exact ht)] at h
      exact ⟨0, y, t, by omega, ht, rfl, h⟩
    · rw [List.getElem?_append_right (by rw [hk]; omega), hk] at h
      obtain ⟨j, x, i, h1, h2, h3, h4⟩ := ih h
      exact ⟨j + 1, x, i, by rw [Nat.add_mul]; omega, h2, by simpa using h3, h4⟩
variable (enc k) in
end
end Go.Proofs.YtmfejdikfpckdaaGreatDoor

namespace Go.Proofs.YtmfejdikfpckdaaGreatDoor
open Go.RowKit
set_option linter.unusedVariables false

theorem run_clear_rows {P : Program} (w : World) (t e ty : TypeId) (z : Value) (k : Nat) (ht : P.underlying t = some (.slice e)) (hv : ∀ w, (zeroValue e).run P w = .ok z w) (hz : z.cells.size = k) (h1 : ∀ v ∈ z.cells.toList, v.oneCell' = true) (b o n c : Nat) (hn : 0 < n)
    (hc : ∀ j, j < n * k → (w.cell? ⟨b, o + j, none⟩).isSome = true) (hf : ∀ j, j < n * k → w.frozen? ⟨b, o + j, none⟩ = false) :
    ∃ vs : List Value, ∀ ty, (Builtin.clear_ #[t] ty #[.slice (some ⟨b, o, none⟩) n c]).run P w = .ok (.tuple #[]) (w.setCells b o vs) := by
  have hl : (Builtin.zeroCells z.cells n).toList.length = n * k := by simp [Builtin.zeroCells, hz, Nat.mul_comm]
  have hm : ∀ v ∈ (Builtin.zeroCells z.cells n).toList, v.oneCell' = true := by
    intro v hv'
    simp only [Builtin.zeroCells, Array.toList_map, List.mem_map, Array.mem_toList_iff, Array.mem_range] at hv'
    obtain ⟨j, hj, rfl⟩ := hv'
    have h0 : 0 < z.cells.size := by rcases Nat.eq_zero_or_pos z.cells.size with h | h; · rw [h] at hj; simp at hj
                                     · exact h
    have hlt := Nat.mod_lt j h0
    refine h1 _ ?_
    rw [getElem!_pos z.cells _ hlt]
    simp
  have hst := run_storeCells_cells (P := P) b o (Builtin.zeroCells z.cells n).toList 0 w (by rw [hl]; simpa using hc) (by rw [hl]; simpa using hf) hm
  simp only [Nat.add_zero] at hst
  refine ⟨(Builtin.zeroCells z.cells n).toList, fun ty => ?_⟩
  obtain ⟨m, rfl⟩ : ∃ m, n = m + 1 := ⟨n - 1, by omega⟩
  simp [Builtin.clear_, run_underlying ht, hv, hst]
theorem Blk.setCells_ {g : Nat} {t : TypeId} : ∀ (vs : List Value) (o : Nat) (w : World) (cs : Array Value), Blk w g t cs → ∃ cs', Blk (w.setCells g o vs) g t cs' ∧ ∀ j, j < o → cs'[j]? = cs[j]?
  | [], o, w, cs, h => ⟨cs, h, fun _ _ => rfl⟩
  | v :: r, o, w, cs, h => by
    obtain ⟨cs', h1, h2⟩ := Blk.setCells_ r (o + 1) (w.setCell ⟨g, o, none⟩ v) _ (h.set_ o v)
    refine ⟨cs', h1, fun j hj => ?_⟩
    rw [h2 j (by omega), Array.getElem?_setIfInBounds_ne (by omega)]
end Go.Proofs.YtmfejdikfpckdaaGreatDoor
