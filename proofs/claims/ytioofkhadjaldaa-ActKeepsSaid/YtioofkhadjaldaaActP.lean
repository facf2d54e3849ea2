/- Plain: a step that can be done leads from a valid world to a valid one. -/
import Derived.Test.YtioofkhadjaldaaActI
namespace Go.Proofs.Ytioofkhadjaldaa
open Go.RowKit
set_option linter.unusedVariables false

/-- No two are equal, but where they are -1. -/
def Dis (l : List Int) : Prop := ∀ (i j : Nat) (p : Int), i < j → l[i]? = some p → l[j]? = some p → p = -1
theorem dis_iff (l : List Int) : Dis l ↔ ∀ (i : Nat) (p : Int), l[i]? = some p → p ≠ -1 → p ∉ l.take i := by
  constructor
  · intro h i p hi hp hm
    obtain ⟨j, hj⟩ := List.mem_iff_getElem?.1 hm
    rw [List.getElem?_take] at hj
    split at hj
    · exact hp (h j i p (by assumption) hj hi)
    · cases hj
  · intro h i j p hij hi hj
    by_cases hp : p = -1
    · exact hp
    · refine absurd ?_ (h j p hj hp)
      exact List.mem_iff_getElem?.2 ⟨i, by rw [List.getElem?_take, if_pos hij]; exact hi⟩
theorem Dis.set {l : List Int} (h : Dis l) (k : Nat) (v : Int) (hv : v ∉ l) : Dis (l.set k v) := by
  intro i j p hij hi hj
  rw [List.getElem?_set] at hi hj
  by_cases h1 : k = i
  · rw [if_pos h1] at hi
    rw [if_neg (by omega)] at hj
    split at hi
    · injection hi with hi
      subst hi
      exact absurd (List.mem_of_getElem? hj) hv
    · cases hi
  · rw [if_neg h1] at hi
    by_cases h2 : k = j
    · rw [if_pos h2] at hj
      split at hj
      · injection hj with hj
        subst hj
        exact absurd (List.mem_of_getElem? hi) hv
      · cases hj
    · rw [if_neg h2] at hj
      exact h i j p hij hi hj
theorem at_set {α : Type} {l : List α} {k i : Nat} {v p : α} (h : (l.set k v)[i]? = some p) : p = v ∨ l[i]? = some p := by
  rw [List.getElem?_set] at h
  split at h
  · split at h
    · injection h with h; exact .inl h.symm
    · cases h
  · exact .inr h
/-- Valid, in the words of Dis. -/
theorem validA_iff (x : AW) : ValidA x ↔ 0 ≤ x.slots ∧ x.slots ≤ 8 ∧ x.place.length ≤ 6 ∧ x.spot.length ≤ 4 ∧ x.seen.length = x.place.length ∧
    (∀ p ∈ x.place, p < x.slots ∧ -1 - (x.spot.length : Int) ≤ p) ∧ Dis x.place ∧ (∀ s ∈ x.spot, -1 ≤ s ∧ (s < x.slots ∨ 8 ≤ s) ∧ s < 8 + (x.place.length : Int)) ∧ Dis x.spot := by
  constructor
  · intro h
    refine ⟨h.s0, h.s8, h.p6, h.a4, h.sp, fun p hp => ?_, (dis_iff _).2 fun i p hi => (h.place i p hi).2.2, fun s hs => ?_, (dis_iff _).2 fun i p hi => (h.spot i p hi).2.2.2⟩
    · obtain ⟨i, hi⟩ := List.mem_iff_getElem?.1 hp
      exact ⟨(h.place i p hi).1, (h.place i p hi).2.1⟩
    · obtain ⟨i, hi⟩ := List.mem_iff_getElem?.1 hs
      exact ⟨(h.spot i s hi).1, (h.spot i s hi).2.1, (h.spot i s hi).2.2.1⟩
  · rintro ⟨h1, h2, h3, h4, h5, h6, h7, h8, h9⟩
    exact ⟨h1, h2, h3, h4, h5, fun i p hi => ⟨(h6 p (List.mem_of_getElem? hi)).1, (h6 p (List.mem_of_getElem? hi)).2, (dis_iff _).1 h7 i p hi⟩,
      fun i p hi => ⟨(h8 p (List.mem_of_getElem? hi)).1, (h8 p (List.mem_of_getElem? hi)).2.1, (h8 p (List.mem_of_getElem? hi)).2.2, (dis_iff _).1 h9 i p hi⟩⟩
theorem doS_len (x : AW) (s : St) : (doS x s).place.length = x.place.length ∧ (doS x s).seen.length = x.seen.length ∧ (doS x s).spot.length = x.spot.length ∧ (doS x s).slots = x.slots := by
  unfold doS
  split
  · simp
  · split
    · simp
    · split
      · simp
      · split <;> simp
theorem mem_set' {l : List Int} {k : Nat} {v p : Int} (h : p ∈ l.set k v) : p = v ∨ p ∈ l := by
  obtain ⟨i, hi⟩ := List.mem_iff_getElem?.1 h
  rcases at_set hi with h | h
  · exact .inl h
  · exact .inr (List.mem_of_getElem? h)

/-- What may asks, kind by kind. -/
theorem mayP_go {x : AW} {s : St} (hk : s.kind = 0) (h : mayP x s = 0) : ¬ (0 ≤ s.part ∧ 0 ≤ holdsP x s.arm) ∧ targetP x s ≠ -1 ∧ targetP x s ∉ x.spot := by
  unfold mayP at h
  rw [hk] at h
  simp only [if_true] at h
  by_cases h1 : 0 ≤ s.part ∧ 0 ≤ holdsP x s.arm
  · rw [if_pos h1] at h; cases h
  · rw [if_neg h1] at h
    by_cases h2 : targetP x s = -1
    · rw [if_pos h2] at h; cases h
    · rw [if_neg h2] at h
      by_cases h3 : targetP x s ≠ -1 ∧ x.spot[s.arm.toNat]? = some (targetP x s)
      · rw [if_pos h3] at h; cases h
      · rw [if_neg h3] at h
        by_cases h4 : targetP x s ∈ x.spot
        · rw [if_pos h4] at h; cases h
        · exact ⟨h1, h2, h4⟩
theorem mayP_take {x : AW} {s : St} (hk : s.kind = 1) (h : mayP x s = 0) : ¬ 0 ≤ holdsP x s.arm ∧ targetP x s ≠ -1 ∧ x.spot[s.arm.toNat]? = some (targetP x s) ∧ x.seen[s.part.toNat]? = some true := by
  unfold mayP at h
  rw [hk] at h
  simp only [show ¬ (1 : Int) = 0 by decide, if_false, if_true] at h
  by_cases h1 : 0 ≤ holdsP x s.arm
  · rw [if_pos h1] at h; cases h
  · rw [if_neg h1] at h
    by_cases h3 : targetP x s ≠ -1 ∧ x.spot[s.arm.toNat]? = some (targetP x s)
    · rw [if_neg (by simpa using h3)] at h
      by_cases h4 : x.seen[s.part.toNat]? = some true
      · exact ⟨h1, h3.1, h3.2, h4⟩
      · rw [if_neg h4] at h; cases h
    · rw [if_pos h3] at h; cases h
theorem mayP_look {x : AW} {s : St} (hk : s.kind = 3) (h : mayP x s = 0) : ¬ 0 ≤ holdsP x s.arm ∧ targetP x s ≠ -1 ∧ x.spot[s.arm.toNat]? = some (targetP x s) ∧ x.seen[s.part.toNat]? ≠ some true := by
  unfold mayP at h
  rw [hk] at h
  simp only [show ¬ (3 : Int) = 0 by decide, show ¬ (3 : Int) = 1 by decide, if_false, if_true] at h
  by_cases h1 : 0 ≤ holdsP x s.arm
  · rw [if_pos h1] at h; cases h
  · rw [if_neg h1] at h
    by_cases h3 : targetP x s ≠ -1 ∧ x.spot[s.arm.toNat]? = some (targetP x s)
    · rw [if_neg (by simpa using h3)] at h
      by_cases h4 : x.seen[s.part.toNat]? = some true
      · rw [if_pos h4] at h; cases h
      · exact ⟨h1, h3.1, h3.2, h4⟩
    · rw [if_pos h3] at h; cases h
theorem whereP_range {x : AW} (hv : ValidA x) (p : Int) : whereP x p = -1 ∨ (0 ≤ whereP x p ∧ (whereP x p < x.slots ∨ 8 ≤ whereP x p) ∧ whereP x p < 8 + (x.place.length : Int)) := by
  obtain ⟨h1, h2, h3, h4, h5, h6, h7, h8, h9⟩ := (validA_iff x).1 hv
  unfold whereP
  split
  · exact .inl rfl
  · split
    · exact .inl rfl
    · rename_i q hq
      have := h6 q (List.mem_of_getElem? hq)
      have hl := lt_of_at hq
      split
      · exact .inl rfl
      · split <;> exact .inr (by omega)
theorem targetP_range {x : AW} (hv : ValidA x) {s : St} (hs : s.slot < x.slots) (h1 : -1 ≤ s.slot) : targetP x s = -1 ∨ (0 ≤ targetP x s ∧ (targetP x s < x.slots ∨ 8 ≤ targetP x s) ∧ targetP x s < 8 + (x.place.length : Int)) := by
  unfold targetP
  split
  · exact whereP_range hv _
  · have := hv.s8
    rcases Int.lt_or_le s.slot 0 with h | h
    · exact .inl (by omega)
    · exact .inr (by omega)
theorem not_holds {x : AW} {arm : Int} (h0 : 0 ≤ arm) (h1 : arm < x.spot.length) (h : ¬ 0 ≤ holdsP x arm) : -2 - arm ∉ x.place := by
  unfold holdsP at h
  rw [if_neg (by omega)] at h
  rcases idxI_cases x.place (-2 - arm) with ⟨_, h2⟩ | ⟨k, h2, _⟩
  · exact h2
  · omega
theorem not_in {x : AW} {slot : Int} (h0 : 0 ≤ slot) (h : ¬ 0 ≤ inP x slot) : slot ∉ x.place := by
  unfold inP at h
  rw [if_neg (by omega)] at h
  rcases idxI_cases x.place slot with ⟨_, h2⟩ | ⟨k, h2, _⟩
  · exact h2
  · omega

theorem valid_do {x : AW} {s : St} (hv : ValidA x) (hc : canP x s = 0) : ValidA (doS x s) := by
  obtain ⟨hf, ha, hp, hs, hm⟩ := canP_ok hc
  unfold formP at hf
  obtain ⟨h1, h2, h3, h4, h5, h6, h7, h8, h9⟩ := (validA_iff x).1 hv
  obtain ⟨l1, l2, l3, l4⟩ := doS_len x s
  refine (validA_iff _).2 ⟨by omega, by omega, by omega, by omega, by omega, ?_⟩
  have hk : s.kind = 0 ∨ (s.kind = 1 ∧ 0 ≤ s.part) ∨ (s.kind = 3 ∧ 0 ≤ s.part) ∨ (s.kind = 2 ∧ 0 ≤ s.slot) ∨ s.kind = 4 := by omega
  rw [l1, l3, l4]
  rcases hk with hk | ⟨hk, hp0⟩ | ⟨hk, hp0⟩ | ⟨hk, hs0⟩ | hk
  · obtain ⟨g1, g2, g3⟩ := mayP_go hk hm
    have hr := targetP_range hv hs hf.2.1
    unfold doS
    rw [if_pos hk]
    refine ⟨h6, h7, fun q hq => ?_, h9.set _ _ g3⟩
    rcases mem_set' hq with rfl | hq
    · omega
    · exact h8 q hq
  · obtain ⟨g1, g2, g3, g4⟩ := mayP_take hk hm
    unfold doS
    rw [if_neg (by omega), if_pos hk]
    refine ⟨fun q hq => ?_, h7.set _ _ (not_holds (by omega) ha g1), h8, h9⟩
    rcases mem_set' hq with rfl | hq
    · omega
    · exact h6 q hq
  · unfold doS
    rw [if_neg (by omega), if_neg (by omega), if_pos hk]
    exact ⟨h6, h7, h8, h9⟩
  · obtain ⟨g1, g2, g3, g4⟩ := mayP_put hk hm
    unfold doS
    rw [if_neg (by omega), if_neg (by omega), if_neg (by omega), if_pos hk]
    refine ⟨fun q hq => ?_, h7.set _ _ (not_in hs0 g4), h8, h9⟩
    rcases mem_set' hq with rfl | hq
    · omega
    · exact h6 q hq
  · unfold doS
    rw [if_neg (by omega), if_neg (by omega), if_neg (by omega), if_neg (by omega)]
    exact ⟨h6, h7, h8, h9⟩
end Go.Proofs.Ytioofkhadjaldaa
