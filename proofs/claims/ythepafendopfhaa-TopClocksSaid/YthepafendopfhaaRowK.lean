/- Rows of structs: read, owned. No program. -/
import Derived.Test.YthepafendopfhaaLib
import Derived.Test.YthepafendopfhaaOwn
namespace Go.Proofs.Ythepafendopfhaa
open Go.RowKit
set_option linter.unusedVariables false

/-- A slice is nil or leads somewhere. -/
def WfS (A : Option Addr) (n c : Nat) : Prop := (A = none ∧ n = 0 ∧ c = 0) ∨ ∃ b o, A = some ⟨b, o, none⟩ ∧ n ≤ c
theorem WfS.le {A : Option Addr} {n c : Nat} (h : WfS A n c) : n ≤ c := by
  rcases h with ⟨_, h1, h2⟩ | ⟨_, _, _, h⟩ <;> omega
theorem WfS.own {w : World} {base : Nat} {e : TypeId} {size n c : Nat} {A : Option Addr} {xs : List Value} (h : w.ownsRow base e size (.slice A n c) n xs) : WfS A n c := by
  rcases h.2 with ⟨h1, h2⟩ | ⟨g, cap, cur, h1, _, _, h3, _⟩
  · cases h1; exact .inl ⟨rfl, rfl, rfl⟩
  · cases h1; exact .inr ⟨_, _, rfl, h3⟩
theorem Src.bel {w w' : World} {v : Value} {size m : Nat} {news : List Value} (h : Src w v size m news) (hb : Below w.heap.size w w') : Src w' v size m news := by
  obtain ⟨h1, h2⟩ := h
  refine ⟨h1, ?_⟩
  rcases h2 with h2 | ⟨b, o, c, rfl, hc⟩
  · exact .inl h2
  · exact .inr ⟨b, o, c, rfl, fun j u hu => (hb.cell (p := ⟨b, o + j, none⟩) (World.block_lt_of_cell? w _ (hc j u hu))).trans (hc j u hu)⟩

section
variable {α : Type} (enc : α → List Value) (k : Nat)
def flat (xs : List α) : List Value := xs.flatMap enc
theorem flat_append (xs ys : List α) : flat enc (xs ++ ys) = flat enc xs ++ flat enc ys := by simp [flat]
theorem flat_one (x : α) : flat enc [x] = enc x := by simp [flat]
variable {enc k}
theorem flat_len (hk : ∀ x, (enc x).length = k) (xs : List α) : (flat enc xs).length = xs.length * k := by
  induction xs with
  | nil => simp [flat]
  | cons x xs ih => simp only [flat, List.flatMap_cons, List.length_append, List.length_cons, hk] at ih ⊢; rw [ih, Nat.add_mul]; omega
theorem flat_at (hk : ∀ x, (enc x).length = k) : ∀ {xs : List α} {j : Nat} {x : α} {i : Nat} {v : Value}, xs[j]? = some x → (enc x)[i]? = some v → (flat enc xs)[j * k + i]? = some v := by
  intro xs
  induction xs with
  | nil => intro j x i v h; simp at h
  | cons y ys ih =>
    intro j x i v h hv
    have hi : i < k := by have := (List.getElem?_eq_some_iff.1 hv).1; rw [hk] at this; exact this
    simp only [flat, List.flatMap_cons]
    cases j with
    | zero =>
      simp at h; subst h
      rw [List.getElem?_append_left (by rw [hk]; omega), Nat.zero_mul, Nat.zero_add]; exact hv
    | succ j =>
      have h' : ys[j]? = some x := by simpa using h
      rw [List.getElem?_append_right (by rw [hk, Nat.add_mul]; omega), hk, show (j + 1) * k + i - k = j * k + i by rw [Nat.add_mul]; omega]
      exact ih h' hv
theorem flat_get (hk : ∀ x, (enc x).length = k) : ∀ {xs : List α} {t : Nat} {u : Value}, (flat enc xs)[t]? = some u → ∃ j x i, t = j * k + i ∧ i < k ∧ xs[j]? = some x ∧ (enc x)[i]? = some u := by
  intro xs
  induction xs with
  | nil => intro t u h; simp [flat] at h
  | cons y ys ih =>
    intro t u h
    simp only [flat, List.flatMap_cons] at h
    by_cases ht : t < k
    · rw [List.getElem?_append_left (by rw [hk]; exact ht)] at h
      exact ⟨0, y, t, by omega, ht, rfl, h⟩
    · rw [List.getElem?_append_right (by rw [hk]; omega), hk] at h
      obtain ⟨j, x, i, h1, h2, h3, h4⟩ := ih h
      exact ⟨j + 1, x, i, by rw [Nat.add_mul]; omega, h2, by simpa using h3, h4⟩
theorem flat_mem {xs : List α} {u : Value} (h : u ∈ flat enc xs) : ∃ x ∈ xs, u ∈ enc x := by simpa [flat] using h
theorem flat_cell1 (h1 : ∀ x, ∀ v ∈ enc x, v.oneCell' = true) (xs : List α) : ∀ u ∈ flat enc xs, u.oneCell' = true := fun u hu => by
  obtain ⟨x, _, hx⟩ := flat_mem hu
  exact h1 x u hx

variable (enc k) in
/-- A slice that reads as a list of structs. -/
def RK (w : World) (A : Option Addr) (xs : List α) : Prop :=
  0 < xs.length → ∃ b o, A = some ⟨b, o, none⟩ ∧ b < w.heap.size ∧ ∀ j x i v, xs[j]? = some x → (enc x)[i]? = some v → w.cell? ⟨b, o + j * k + i, none⟩ = some v
theorem RK.nil (w : World) (A : Option Addr) : RK enc k w A [] := fun h => absurd h (by simp)
theorem RK.below {w w' : World} {A : Option Addr} {xs : List α} (h : RK enc k w A xs) (hb : Below w.heap.size w w') : RK enc k w' A xs := by
  intro hp
  obtain ⟨b, o, rfl, hlt, hc⟩ := h hp
  exact ⟨b, o, rfl, Nat.lt_of_lt_of_le hlt hb.size, fun j x i v hj hv => (hb.cell (p := ⟨b, o + j * k + i, none⟩) hlt).trans (hc j x i v hj hv)⟩
theorem RK.alloc {w : World} {A : Option Addr} {xs : List α} (h : RK enc k w A xs) (o : Obj) : RK enc k (w.alloc o) A xs := h.below ((Below.refl _ _).alloc (Nat.le_refl _) o)
theorem RK.drewN {w : World} {A : Option Addr} {xs : List α} (h : RK enc k w A xs) (n : Nat) : RK enc k (w.drewN n) A xs := h
theorem RK.own {w : World} {A : Option Addr} {xs : List α} {base : Nat} {e : TypeId} {n c : Nat} (hk : ∀ x, (enc x).length = k) (h : w.ownsRow base e k (.slice A n c) n (flat enc xs)) (hn : xs.length = n) : RK enc k w A xs := by
  intro hp
  obtain ⟨g, cap, hv, _, hlt⟩ := h.form (by omega)
  cases hv
  refine ⟨g, 0, rfl, hlt, fun j x i v hj hv => ?_⟩
  have := h.cells (g := g) rfl _ _ (flat_at hk hj hv)
  rw [Addr.add_lit, ← Nat.add_assoc] at this
  exact this
theorem RK.src {w : World} {A : Option Addr} {xs : List α} {n c : Nat} (hk : ∀ x, (enc x).length = k) (h : RK enc k w A xs) (hn : xs.length = n) (hw : WfS A n c) : Src w (.slice A n c) k n (flat enc xs) := by
  refine ⟨by rw [flat_len hk, hn], ?_⟩
  rcases hw with ⟨rfl, rfl, rfl⟩ | ⟨b, o, rfl, _⟩
  · exact .inl ⟨rfl, rfl⟩
  · refine .inr ⟨b, o, c, rfl, fun t u hu => ?_⟩
    obtain ⟨j, x, i, rfl, _, hx, hv⟩ := flat_get hk hu
    obtain ⟨b', o', hA, _, hc⟩ := h (by have := lt_of_at hx; omega)
    cases hA
    rw [← Nat.add_assoc]
    exact hc j x i u hx hv
theorem RK.take {w : World} {A : Option Addr} {xs : List α} (h : RK enc k w A xs) (n : Nat) : RK enc k w A (xs.take n) := by
  intro hp
  obtain ⟨b, o, rfl, hlt, hc⟩ := h (by rw [List.length_take] at hp; omega)
  refine ⟨b, o, rfl, hlt, fun j x i v hj hv => hc j x i v ?_ hv⟩
  rw [List.getElem?_take] at hj
  split at hj
  · exact hj
  · cases hj
end
end Go.Proofs.Ythepafendopfhaa
