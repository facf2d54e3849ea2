/- What tools.Plan plans; its walk. -/
import Derived.Test.YtnmngjikcimpnaaTask
namespace Go.Proofs.Ytnmngjikcimpnaa
open Go.RowKit
set_option linter.unusedVariables false

def longAt (ts : List Task) (x : Int) : Int := ((ts[x.toNat]?).map Task.long).getD 0
def EndT (ts : List Task) (ss : List Int) (x : Int) : Int := ss.getD x.toNat 0 + longAt ts x
def useOf (t : Task) (s : Int) : List Use := if 0 ≤ t.tool then [⟨t.tool, s, t.long⟩] else []
def usesOf : List Task → List Int → List Use
  | t :: ts, s :: ss => useOf t s ++ usesOf ts ss
  | _, _ => []
theorem usesOf_snoc {ts : List Task} {ss : List Int} {t : Task} {s : Int} (h : ts.length = ss.length) : usesOf (ts ++ [t]) (ss ++ [s]) = usesOf ts ss ++ useOf t s := by
  induction ts generalizing ss with
  | nil =>
    obtain rfl : ss = [] := List.eq_nil_of_length_eq_zero h.symm
    simp [usesOf]
  | cons a ts ih =>
    rcases ss with _ | ⟨b, ss⟩
    · simp at h
    · simp only [List.cons_append, usesOf]
      rw [ih (by simpa using h), List.append_assoc]
theorem usesOf_len (ts : List Task) (ss : List Int) : (usesOf ts ss).length ≤ ts.length := by
  induction ts generalizing ss with
  | nil => simp [usesOf]
  | cons a ts ih =>
    rcases ss with _ | ⟨b, ss⟩
    · simp [usesOf]
    · simp only [usesOf, List.length_append, List.length_cons, useOf]
      have := ih ss
      split <;> simp <;> omega
theorem usesOf_mem {ts : List Task} {ss : List Int} {u : Use} (h : u ∈ usesOf ts ss) : ∃ (j : Nat) (t : Task) (s : Int), ts[j]? = some t ∧ ss[j]? = some s ∧ 0 ≤ t.tool ∧ u = ⟨t.tool, s, t.long⟩ := by
  induction ts generalizing ss with
  | nil => simp [usesOf] at h
  | cons a ts ih =>
    rcases ss with _ | ⟨b, ss⟩
    · simp [usesOf] at h
    · simp only [usesOf, List.mem_append] at h
      rcases h with h | h
      · unfold useOf at h
        split at h
        · rename_i h0
          simp at h
          exact ⟨0, a, b, rfl, rfl, h0, h⟩
        · simp at h
      · obtain ⟨j, t, s, h1, h2, h3, h4⟩ := ih h
        exact ⟨j + 1, t, s, by simpa using h1, by simpa using h2, h3, h4⟩

/-- The first starts as a plan sets them. -/
def Planned (ts : List Task) (ss : List Int) : Prop :=
  ss.length ≤ ts.length ∧ ∀ (k : Nat) (t : Task) (s : Int), ts[k]? = some t → ss[k]? = some s →
    0 ≤ s ∧ s ≤ 20 * k ∧ ∃ a, Mx (EndT ts ss) t.after a ∧ (t.tool < 0 → s = a) ∧ (0 ≤ t.tool → IsFirst (usesOf (ts.take k) (ss.take k)) t.tool a t.long s)

theorem good_snoc {us : List Use} {u : Use} (h : Good us) (hl : us.length < 60) (hu : u.ok) (hm : ∀ v ∈ us, ¬ u.meets v) : Good (us ++ [u]) := by
  refine ⟨by simp; omega, fun i x hi => ?_⟩
  by_cases hlt : i < us.length
  · rw [List.getElem?_append_left hlt] at hi
    obtain ⟨h1, h2⟩ := h.2 i x hi
    refine ⟨h1, fun j v hj hv => h2 j v hj ?_⟩
    rwa [List.getElem?_append_left (by omega)] at hv
  · have hie : i = us.length := by have := lt_of_at hi; simp at this; omega
    subst hie
    simp at hi
    subst hi
    refine ⟨hu, fun j v hj hv => hm v ?_⟩
    rw [List.getElem?_append_left hj] at hv
    exact List.mem_of_getElem? hv

theorem endT_keep {ts : List Task} {ss : List Int} {s : Int} {x : Int} (h0 : 0 ≤ x) (hx : x < ss.length) : EndT ts (ss ++ [s]) x = EndT ts ss x := by
  unfold EndT
  have : x.toNat < ss.length := by omega
  simp [List.getD, List.getElem?_append_left this]

theorem planned_snoc {ts : List Task} {ss : List Int} {t : Task} {s a : Int} (hT : TasksOk ts) (h : Planned ts ss) (ht : ts[ss.length]? = some t) (hs0 : 0 ≤ s) (hs1 : s ≤ 20 * ss.length) (hm : Mx (EndT ts ss) t.after a)
    (h1 : t.tool < 0 → s = a) (h2 : 0 ≤ t.tool → IsFirst (usesOf (ts.take ss.length) ss) t.tool a t.long s) : Planned ts (ss ++ [s]) := by
  have hk : ∀ (k : Nat) (t : Task), ts[k]? = some t → k ≤ ss.length → ∀ x ∈ t.after, EndT ts ss x = EndT ts (ss ++ [s]) x := by
    intro k t ht hk x hx
    obtain ⟨i, hi⟩ := List.getElem?_of_mem hx
    obtain ⟨a, b⟩ := (hT.2 k t ht).2.2.2.2.2 i x hi
    exact (endT_keep a (by omega)).symm
  refine ⟨by have := lt_of_at ht; simp; omega, fun k t' s' ht' hs' => ?_⟩
  by_cases hlt : k < ss.length
  · rw [List.getElem?_append_left hlt] at hs'
    obtain ⟨p1, p2, b, p3, p4, p5⟩ := h.2 k t' s' ht' hs'
    refine ⟨p1, p2, b, p3.congr (hk k t' ht' (by omega)), p4, ?_⟩
    rw [List.take_append_of_le_length (by omega)]
    exact p5
  · have hke : k = ss.length := by have := lt_of_at hs'; simp at this; omega
    subst hke
    simp at hs'
    subst hs'
    rw [ht] at ht'; cases ht'
    refine ⟨hs0, hs1, a, hm.congr (hk _ _ ht (Nat.le_refl _)), h1, ?_⟩
    rw [List.take_append_of_le_length (Nat.le_refl _), List.take_length]
    exact h2

/-- The uses of a plan are good, and end early. -/
theorem planned_good {ts : List Task} {ss : List Int} (hT : TasksOk ts) (h : Planned ts ss) : Good (usesOf (ts.take ss.length) ss) ∧ ∀ v ∈ usesOf (ts.take ss.length) ss, v.from_ + v.long ≤ 20 * ss.length := by
  constructor
  · have key : ∀ k, k ≤ ss.length → Good (usesOf (ts.take k) (ss.take k)) := by
      intro k
      induction k with
      | zero => intro _; exact ⟨by simp [usesOf], fun i u hi => by simp [usesOf] at hi⟩
      | succ k ih =>
        intro hk
        obtain ⟨t, ht⟩ := some_at (l := ts) (k := k) (by have := h.1; omega)
        obtain ⟨s, hs⟩ := some_at (l := ss) (k := k) (by omega)
        rw [List.take_add_one, List.take_add_one, ht, hs]
        simp only [Option.toList]
        rw [usesOf_snoc (by have := h.1; simp; omega)]
        obtain ⟨p1, p2, b, p3, p4, p5⟩ := h.2 k t s ht hs
        obtain ⟨q1, q2, q3, q4, q5, q6⟩ := hT.2 k t ht
        unfold useOf
        split
        · rename_i h0
          refine good_snoc (ih (by omega)) ?_ ⟨h0, q2, p1, q3, by dsimp only; omega, by dsimp only; have := hT.1; have := lt_of_at ht; omega⟩ (p5 h0).2.1
          have := usesOf_len (ts.take k) (ss.take k)
          have := hT.1; simp at *; omega
        · rw [List.append_nil]; exact ih (by omega)
    have := key ss.length (Nat.le_refl _)
    rwa [List.take_length] at this
  · intro v hv
    obtain ⟨j, t, s, h1, h2, h3, rfl⟩ := usesOf_mem hv
    rw [List.getElem?_take] at h1
    split at h1
    · obtain ⟨p1, p2, _⟩ := h.2 j t s h1 h2
      have := (hT.2 j t h1).2.2.2.1
      dsimp only
      omega
    · cases h1
end Go.Proofs.Ytnmngjikcimpnaa
