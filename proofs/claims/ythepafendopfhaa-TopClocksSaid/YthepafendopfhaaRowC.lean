/- Rows of structs read element by element: no walk. Printed by gen/clk.py. -/
import Derived.Test.YthepafendopfhaaRowH
import Derived.Test.YthepafendopfhaaRowK
namespace Go.Proofs.Ythepafendopfhaa
open Go.RowKit
set_option linter.unusedVariables false
set_option maxRecDepth 100000

theorem flat_take {α : Type} {enc : α → List Value} {k : Nat} (hk : ∀ x, (enc x).length = k) : ∀ {xs : List α} {j : Nat} {x : α}, xs[j]? = some x → ((flat enc xs).drop (k * j)).take k = enc x
  | [], j, x, h => by simp at h
  | y :: ys, 0, x, h => by
    have e : y = x := by simpa using h
    subst e
    show ((enc y ++ flat enc ys).drop (k * 0)).take k = enc y
    rw [Nat.mul_zero, List.drop_zero, ← hk y]
    exact List.take_left
  | y :: ys, j + 1, x, h => by
    have h2 : ys[j]? = some x := by simpa using h
    show ((enc y ++ flat enc ys).drop (k * (j + 1))).take k = enc x
    rw [show k * (j + 1) = (enc y).length + k * j by rw [hk, Nat.mul_succ]; omega, List.drop_length_add_append]
    exact flat_take hk h2
/-- An element of a row lies in the row's block. -/
theorem RowV.at_ {α : Type} {enc : α → List Value} {k n j : Nat} {v : Value} {xs : List α} {cur : List Value} {x : α} (hk : ∀ x, (enc x).length = k) (h : RowV k v n (flat enc xs) cur) (hx : xs[j]? = some x) (hp : 0 < k) : ∃ g cap, v = .slice (some ⟨g, 0, none⟩) n cap ∧ (cur.drop (k * j)).take k = enc x ∧ j < n := by
  have hl : xs.length * k = n * k := by rw [← flat_len hk xs]; exact h.len
  have hn : xs.length = n := Nat.eq_of_mul_eq_mul_right hp hl
  have hj : j < n := by rw [← hn]; exact (List.getElem?_eq_some_iff.1 hx).1
  rcases h.or_ with ⟨_, h0⟩ | ⟨g, cap, rfl, h1, h2, h3, h4⟩
  · omega
  · refine ⟨g, cap, rfl, ?_, hj⟩
    rw [← flat_take hk hx, ← h4, List.drop_take, List.take_take, Nat.min_eq_left]
    have : k * (j + 1) ≤ k * n := Nat.mul_le_mul_left k hj
    rw [Nat.mul_succ] at this
    rw [Nat.mul_comm n k]
    omega
end Go.Proofs.Ythepafendopfhaa
