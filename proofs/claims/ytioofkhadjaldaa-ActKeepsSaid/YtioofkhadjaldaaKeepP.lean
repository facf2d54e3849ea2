/- Plain: the facts of a valid world are sound; a step changes only some of them. -/
import Derived.Test.YtioofkhadjaldaaFacts
import Derived.Test.YtioofkhadjaldaaFactH
namespace Go.Proofs.Ytioofkhadjaldaa
open Go.RowKit
set_option linter.unusedVariables false

theorem inP_neg {x : AW} (s : Nat) : inP x s < 0 ↔ (s : Int) ∉ x.place := by
  unfold inP
  rw [if_neg (by omega)]
  rcases idxI_cases x.place s with ⟨h1, h2⟩ | ⟨k, h1, h2, _⟩
  · rw [h1]; simp [h2]
  · rw [h1]; have := List.mem_of_getElem? h2; simp [this]
theorem holdsP_neg {x : AW} {a : Nat} (h : a < x.spot.length) : holdsP x a < 0 ↔ -2 - (a : Int) ∉ x.place := by
  unfold holdsP
  rw [if_neg (by omega)]
  rcases idxI_cases x.place (-2 - (a : Int)) with ⟨h1, h2⟩ | ⟨k, h1, h2, _⟩
  · rw [h1]; simp [h2]
  · rw [h1]; have := List.mem_of_getElem? h2; simp [this]
theorem factP_iff (x : AW) (f : Fct) : FactP x f ↔
    (∃ (p : Nat) (q : Int), x.place[p]? = some q ∧ (0 ≤ q ∧ f = ⟨1, p, q⟩ ∨ q < -1 ∧ f = ⟨2, -2 - q, p⟩)) ∨ (∃ p : Nat, x.seen[p]? = some true ∧ f = ⟨5, p, 0⟩) ∨
    (∃ s : Nat, (s : Int) < x.slots ∧ (s : Int) ∉ x.place ∧ f = ⟨4, s, 0⟩) ∨ (∃ a : Nat, a < x.spot.length ∧ -2 - (a : Int) ∉ x.place ∧ f = ⟨3, a, 0⟩) ∨ ∃ (a : Nat) (q : Int), x.spot[a]? = some q ∧ q ≠ -1 ∧ f = ⟨6, a, q⟩ := by
  unfold FactP
  constructor
  · rintro (h | h | ⟨s, h1, h2, h3⟩ | ⟨a, h1, h2, h3⟩ | h)
    · exact .inl h
    · exact .inr (.inl h)
    · exact .inr (.inr (.inl ⟨s, h1, (inP_neg s).1 h2, h3⟩))
    · exact .inr (.inr (.inr (.inl ⟨a, h1, (holdsP_neg h1).1 h2, h3⟩)))
    · exact .inr (.inr (.inr (.inr h)))
  · rintro (h | h | ⟨s, h1, h2, h3⟩ | ⟨a, h1, h2, h3⟩ | h)
    · exact .inl h
    · exact .inr (.inl h)
    · exact .inr (.inr (.inl ⟨s, h1, (inP_neg s).2 h2, h3⟩))
    · exact .inr (.inr (.inr (.inl ⟨a, h1, (holdsP_neg h1).2 h2, h3⟩)))
    · exact .inr (.inr (.inr (.inr h)))
theorem factP_ok {x : AW} (hv : ValidA x) {f : Fct} (h : FactP x f) : okF f := by
  obtain ⟨h1, h2, h3, h4, h5, h6, h7, h8, h9⟩ := (validA_iff x).1 hv
  rw [factP_iff] at h
  rcases h with ⟨p, q, hp, ⟨hq, rfl⟩ | ⟨hq, rfl⟩⟩ | ⟨p, hp, rfl⟩ | ⟨s, hs, _, rfl⟩ | ⟨a, ha, _, rfl⟩ | ⟨a, q, ha, hq, rfl⟩
  · have := h6 q (List.mem_of_getElem? hp); have := lt_of_at hp
    simp [okF, limA, limB]; omega
  · have := h6 q (List.mem_of_getElem? hp); have := lt_of_at hp
    simp [okF, limA, limB]; omega
  · have := lt_of_at hp
    simp [okF, limA, limB]; omega
  · simp [okF, limA, limB]; omega
  · simp [okF, limA, limB]; omega
  · have := h8 q (List.mem_of_getElem? ha); have := lt_of_at ha
    simp [okF, limA, limB]; omega

theorem dis_inj {l : List Int} (h : Dis l) {i j : Nat} {p : Int} (hi : l[i]? = some p) (hj : l[j]? = some p) (hp : p ≠ -1) : i = j := by
  rcases Nat.lt_trichotomy i j with h1 | h1 | h1
  · exact absurd (h i j p h1 hi hj) hp
  · exact h1
  · exact absurd (h j i p h1 hj hi) hp
theorem sound_facts {x : AW} (hv : ValidA x) {rs : List Fct} (hs : ∀ f ∈ rs, FactP x f) : SoundP rs := by
  obtain ⟨h1, h2, h3, h4, h5, h6, h7, h8, h9⟩ := (validA_iff x).1 hv
  have key : ∀ f g, FactP x f → FactP x g → f ≠ g → ¬ clash0 f g := by
    intro f g hf hg hne hc
    rw [factP_iff] at hf hg
    rcases hf with ⟨p, q, hp, ⟨hq, rfl⟩ | ⟨hq, rfl⟩⟩ | ⟨p, hp, rfl⟩ | ⟨s, hs, hsn, rfl⟩ | ⟨a, ha, han, rfl⟩ | ⟨a, q, ha, hq, rfl⟩ <;>
    rcases hg with ⟨p', q', hp', ⟨hq', rfl⟩ | ⟨hq', rfl⟩⟩ | ⟨p', hp', rfl⟩ | ⟨s', hs', hsn', rfl⟩ | ⟨a', ha', han', rfl⟩ | ⟨a', q', ha', hq', rfl⟩ <;>
    simp [clash0] at hc
    · rcases hc with hc | hc
      · obtain rfl : p = p' := by omega
        rw [hp] at hp'; injection hp' with e; subst e; exact hne rfl
      · subst hc; have := dis_inj h7 hp hp' (by omega); subst this; exact hne rfl
    · obtain rfl : p = p' := by omega
      rw [hp] at hp'; injection hp' with e; omega
    · subst hc; exact hsn' (List.mem_of_getElem? hp)
    · rcases hc with hc | hc
      · have e : q = q' := by omega
        subst e; have := dis_inj h7 hp hp' (by omega); subst this; exact hne rfl
      · obtain rfl : p = p' := by omega
        rw [hp] at hp'; injection hp' with e; subst e; exact hne rfl
    · exact han' (by rw [← hc]; have : -2 - (-2 - q) = q := by omega
                     rw [this]; exact List.mem_of_getElem? hp)
    · rcases hc with hc | hc
      · obtain rfl : a = a' := by omega
        rw [ha] at ha'; injection ha' with e; subst e; exact hne rfl
      · subst hc; have := dis_inj h9 ha ha' hq; subst this; exact hne rfl
  intro f hf g hg hc
  obtain ⟨_, _, hne, hc⟩ := hc
  split at hc
  · exact key g f (hs g hg) (hs f hf) (Ne.symm hne) hc
  · exact key f g (hs f hf) (hs g hg) hne hc

theorem set_at {α : Type} (l : List α) (k : Nat) (v : α) (i : Nat) : (l.set k v)[i]? = if i = k then (if k < l.length then some v else none) else l[i]? := by
  rw [List.getElem?_set]
  by_cases h : k = i
  · subst h; simp
  · rw [if_neg h, if_neg (Ne.symm h)]
theorem mem_set_keep {l : List Int} {k : Nat} {u v w : Int} (hk : l[k]? = some w) (hu : u ∈ l) (hne : u ≠ w) : u ∈ l.set k v := by
  obtain ⟨i, hi⟩ := List.mem_iff_getElem?.1 hu
  refine List.mem_iff_getElem?.2 ⟨i, ?_⟩
  rw [set_at]
  by_cases h : i = k
  · subst h; rw [hk] at hi; injection hi with hi; exact absurd hi.symm hne
  · rw [if_neg h]; exact hi
theorem mem_set_new {l : List Int} {k : Nat} {v : Int} (hk : k < l.length) : v ∈ l.set k v :=
  List.mem_iff_getElem?.2 ⟨k, by rw [set_at, if_pos rfl, if_pos hk]⟩

structure Diff (x y : AW) (arm : Int) (less more : List Fct) : Prop where
  l : less.length ≤ 3
  m : more.length ≤ 3
  a : ∀ f ∈ less ++ more, f.k = 2 ∨ f.k = 3 ∨ f.k = 6 → f.a = arm
  fx : ∀ f, FactP x f → FactP y f ∨ f ∈ less
  fy : ∀ f, FactP y f → FactP x f ∨ f ∈ more
  n : ∃ f, FactP y f ∧ ¬ FactP x f

theorem diff_go {x : AW} {a : Nat} {t : Int} (ha : a < x.spot.length) (ht : t ≠ -1) (hn : t ∉ x.spot) : ∃ l m, Diff x { x with spot := x.spot.set a t } a l m := by
  obtain ⟨o, ho⟩ := some_at ha
  refine ⟨[⟨6, a, o⟩], [⟨6, a, t⟩], by simp, by simp, by simp, ?_, ?_, ?_⟩
  · intro f hf
    rw [factP_iff] at hf ⊢
    rcases hf with h | h | h | ⟨b, h1, h2, h3⟩ | ⟨b, q, h1, h2, h3⟩
    · exact .inl (.inl h)
    · exact .inl (.inr (.inl h))
    · exact .inl (.inr (.inr (.inl h)))
    · exact .inl (.inr (.inr (.inr (.inl ⟨b, by simpa using h1, h2, h3⟩))))
    · by_cases hb : b = a
      · subst hb; rw [ho] at h1; injection h1 with h1; subst h1; exact .inr (by simp [h3])
      · exact .inl (.inr (.inr (.inr (.inr ⟨b, q, by rw [set_at, if_neg hb]; exact h1, h2, h3⟩))))
  · intro f hf
    rw [factP_iff] at hf ⊢
    rcases hf with h | h | h | ⟨b, h1, h2, h3⟩ | ⟨b, q, h1, h2, h3⟩
    · exact .inl (.inl h)
    · exact .inl (.inr (.inl h))
    · exact .inl (.inr (.inr (.inl h)))
    · exact .inl (.inr (.inr (.inr (.inl ⟨b, by simpa using h1, h2, h3⟩))))
    · rw [set_at] at h1
      by_cases hb : b = a
      · subst hb
        rw [if_pos rfl, if_pos ha] at h1
        injection h1 with h1; subst h1; exact .inr (by simp [h3])
      · rw [if_neg hb] at h1
        exact .inl (.inr (.inr (.inr (.inr ⟨b, q, h1, h2, h3⟩))))
  · refine ⟨⟨6, a, t⟩, ?_, ?_⟩
    · rw [factP_iff]
      exact .inr (.inr (.inr (.inr ⟨a, t, by rw [set_at, if_pos rfl, if_pos ha], ht, rfl⟩)))
    · rw [factP_iff]
      rintro (⟨p, q, hp, ⟨hq, e⟩ | ⟨hq, e⟩⟩ | ⟨p, hp, e⟩ | ⟨s, hs, _, e⟩ | ⟨b, hb, _, e⟩ | ⟨b, q, hb, hq, e⟩)
      all_goals simp at e
      obtain ⟨e1, rfl⟩ := e
      exact hn (List.mem_of_getElem? hb)

theorem diff_take {x : AW} {a p : Nat} {q : Int} (ha : a < x.spot.length) (hp : x.place[p]? = some q) (hq : -1 ≤ q) (hn : -2 - (a : Int) ∉ x.place) : ∃ l m, Diff x { x with place := x.place.set p (-2 - (a : Int)) } a l m := by
  have hl := lt_of_at hp
  refine ⟨[⟨1, p, q⟩, ⟨3, a, 0⟩], [⟨2, a, p⟩, ⟨4, q, 0⟩], by simp, by simp, by simp, ?_, ?_, ?_⟩
  · intro f hf
    rw [factP_iff] at hf ⊢
    rcases hf with ⟨i, r, h1, h2⟩ | h | ⟨s, h1, h2, h3⟩ | ⟨b, h1, h2, h3⟩ | h
    · by_cases hi : i = p
      · subst hi; rw [hp] at h1; injection h1 with h1; subst h1
        rcases h2 with ⟨_, rfl⟩ | ⟨h2, _⟩
        · exact .inr (by simp)
        · omega
      · exact .inl (.inl ⟨i, r, by rw [set_at, if_neg hi]; exact h1, h2⟩)
    · exact .inl (.inr (.inl h))
    · refine .inl (.inr (.inr (.inl ⟨s, h1, fun hm => ?_, h3⟩)))
      rcases mem_set' hm with h | h
      · omega
      · exact h2 h
    · by_cases hb : b = a
      · subst hb; exact .inr (by simp [h3])
      · refine .inl (.inr (.inr (.inr (.inl ⟨b, h1, fun hm => ?_, h3⟩))))
        rcases mem_set' hm with h | h
        · omega
        · exact h2 h
    · exact .inl (.inr (.inr (.inr (.inr h))))
  · intro f hf
    rw [factP_iff] at hf ⊢
    rcases hf with ⟨i, r, h1, h2⟩ | h | ⟨s, h1, h2, h3⟩ | ⟨b, h1, h2, h3⟩ | h
    · rw [set_at] at h1
      by_cases hi : i = p
      · subst hi
        rw [if_pos rfl, if_pos hl] at h1
        injection h1 with h1; subst h1
        rcases h2 with ⟨h2, _⟩ | ⟨_, rfl⟩
        · omega
        · refine .inr ?_
          rw [show -2 - (-2 - (a : Int)) = a by omega]; simp
      · rw [if_neg hi] at h1
        exact .inl (.inl ⟨i, r, h1, h2⟩)
    · exact .inl (.inr (.inl h))
    · by_cases hsq : (s : Int) = q
      · exact .inr (by simp [h3, hsq])
      · exact .inl (.inr (.inr (.inl ⟨s, h1, fun hm => h2 (mem_set_keep hp hm hsq), h3⟩)))
    · refine .inl (.inr (.inr (.inr (.inl ⟨b, h1, fun hm => ?_, h3⟩))))
      exact h2 (mem_set_keep hp hm (by omega))
    · exact .inl (.inr (.inr (.inr (.inr h))))
  · refine ⟨⟨2, a, p⟩, ?_, ?_⟩
    · rw [factP_iff]
      refine .inl ⟨p, -2 - (a : Int), by rw [set_at, if_pos rfl, if_pos hl], .inr ⟨by omega, ?_⟩⟩
      rw [show -2 - (-2 - (a : Int)) = a by omega]
    · rw [factP_iff]
      rintro (⟨i, r, h1, ⟨h2, e⟩ | ⟨h2, e⟩⟩ | ⟨i, _, e⟩ | ⟨s, _, _, e⟩ | ⟨b, _, _, e⟩ | ⟨b, r, _, _, e⟩)
      all_goals simp at e
      obtain ⟨e1, e2⟩ := e
      obtain rfl : p = i := by omega
      rw [hp] at h1; injection h1 with h1; omega

theorem diff_look {x : AW} {a p : Nat} (hp : p < x.seen.length) (hs : x.seen[p]? ≠ some true) : ∃ l m, Diff x { x with seen := x.seen.set p true } a l m := by
  refine ⟨[], [⟨5, p, 0⟩], by simp, by simp, by simp, ?_, ?_, ?_⟩
  · intro f hf
    rw [factP_iff] at hf ⊢
    rcases hf with h | ⟨i, h1, h2⟩ | h
    · exact .inl (.inl h)
    · by_cases hi : i = p
      · subst hi; exact absurd h1 hs
      · exact .inl (.inr (.inl ⟨i, by rw [set_at, if_neg hi]; exact h1, h2⟩))
    · exact .inl (.inr (.inr h))
  · intro f hf
    rw [factP_iff] at hf ⊢
    rcases hf with h | ⟨i, h1, h2⟩ | h
    · exact .inl (.inl h)
    · by_cases hi : i = p
      · subst hi; exact .inr (by simp [h2])
      · rw [set_at, if_neg hi] at h1
        exact .inl (.inr (.inl ⟨i, h1, h2⟩))
    · exact .inl (.inr (.inr h))
  · refine ⟨⟨5, p, 0⟩, ?_, ?_⟩
    · rw [factP_iff]
      exact .inr (.inl ⟨p, by rw [set_at, if_pos rfl, if_pos hp], rfl⟩)
    · rw [factP_iff]
      rintro (⟨i, r, h1, ⟨h2, e⟩ | ⟨h2, e⟩⟩ | ⟨i, h1, e⟩ | ⟨s, _, _, e⟩ | ⟨b, _, _, e⟩ | ⟨b, r, _, _, e⟩)
      all_goals simp at e
      obtain rfl : p = i := by omega
      exact hs h1

theorem diff_put {x : AW} {a p s : Nat} (ha : a < x.spot.length) (hsl : (s : Int) < x.slots) (hp : x.place[p]? = some (-2 - (a : Int))) (hd : Dis x.place) (hn : (s : Int) ∉ x.place) (hse : x.seen.length = x.place.length) :
    ∃ l m, Diff x { x with place := x.place.set p s, seen := x.seen.set p false } a l m := by
  have hl := lt_of_at hp
  refine ⟨[⟨2, a, p⟩, ⟨4, s, 0⟩, ⟨5, p, 0⟩], [⟨1, p, s⟩, ⟨3, a, 0⟩], by simp, by simp, by simp, ?_, ?_, ?_⟩
  · intro f hf
    rw [factP_iff] at hf ⊢
    rcases hf with ⟨i, r, h1, h2⟩ | ⟨i, h1, h2⟩ | ⟨q, h1, h2, h3⟩ | ⟨b, h1, h2, h3⟩ | h
    · by_cases hi : i = p
      · subst hi; rw [hp] at h1; injection h1 with h1; subst h1
        rcases h2 with ⟨h2, _⟩ | ⟨_, rfl⟩
        · omega
        · refine .inr ?_
          rw [show -2 - (-2 - (a : Int)) = a by omega]; simp
      · exact .inl (.inl ⟨i, r, by rw [set_at, if_neg hi]; exact h1, h2⟩)
    · by_cases hi : i = p
      · subst hi; exact .inr (by simp [h2])
      · exact .inl (.inr (.inl ⟨i, by rw [set_at, if_neg hi]; exact h1, h2⟩))
    · by_cases hqs : q = s
      · subst hqs; exact .inr (by simp [h3])
      · refine .inl (.inr (.inr (.inl ⟨q, h1, fun hm => ?_, h3⟩)))
        rcases mem_set' hm with h | h
        · omega
        · exact h2 h
    · refine .inl (.inr (.inr (.inr (.inl ⟨b, h1, fun hm => ?_, h3⟩))))
      rcases mem_set' hm with h | h
      · omega
      · exact h2 h
    · exact .inl (.inr (.inr (.inr (.inr h))))
  · intro f hf
    rw [factP_iff] at hf ⊢
    rcases hf with ⟨i, r, h1, h2⟩ | ⟨i, h1, h2⟩ | ⟨q, h1, h2, h3⟩ | ⟨b, h1, h2, h3⟩ | h
    · rw [set_at] at h1
      by_cases hi : i = p
      · subst hi
        rw [if_pos rfl, if_pos hl] at h1
        injection h1 with h1; subst h1
        rcases h2 with ⟨_, rfl⟩ | ⟨h2, _⟩
        · exact .inr (by simp)
        · omega
      · rw [if_neg hi] at h1
        exact .inl (.inl ⟨i, r, h1, h2⟩)
    · rw [set_at] at h1
      by_cases hi : i = p
      · subst hi
        rw [if_pos rfl] at h1
        split at h1 <;> simp at h1
      · rw [if_neg hi] at h1
        exact .inl (.inr (.inl ⟨i, h1, h2⟩))
    · refine .inl (.inr (.inr (.inl ⟨q, h1, fun hm => ?_, h3⟩)))
      exact h2 (mem_set_keep hp hm (by omega))
    · by_cases hb : b = a
      · subst hb; exact .inr (by simp [h3])
      · exact .inl (.inr (.inr (.inr (.inl ⟨b, h1, fun hm => h2 (mem_set_keep hp hm (by omega)), h3⟩))))
    · exact .inl (.inr (.inr (.inr (.inr h))))
  · refine ⟨⟨1, p, s⟩, ?_, ?_⟩
    · rw [factP_iff]
      exact .inl ⟨p, s, by rw [set_at, if_pos rfl, if_pos hl], .inl ⟨by omega, rfl⟩⟩
    · rw [factP_iff]
      rintro (⟨i, r, h1, ⟨h2, e⟩ | ⟨h2, e⟩⟩ | ⟨i, _, e⟩ | ⟨s, _, _, e⟩ | ⟨b, _, _, e⟩ | ⟨b, r, _, _, e⟩)
      all_goals simp at e
      obtain ⟨e1, e2⟩ := e
      obtain rfl : p = i := by omega
      rw [hp] at h1; injection h1 with h1; omega

theorem here_where {x : AW} {p : Nat} {t : Int} (h : whereP x p = t) (ht : t ≠ -1) : ∃ q, x.place[p]? = some q ∧ -1 ≤ q := by
  unfold whereP at h
  rw [if_neg (by omega), Int.toNat_natCast] at h
  split at h
  · exact absurd h.symm ht
  · rename_i q hq
    split at h
    · exact absurd h.symm ht
    · exact ⟨q, hq, by omega⟩
theorem step_diff {x : AW} {s : St} (hv : ValidA x) (hc : canP x s = 0) (hk : s.kind ≠ 4) : ∃ l m, Diff x (doS x s) s.arm l m := by
  obtain ⟨hf, ha, hp, hs, hm⟩ := canP_ok hc
  obtain ⟨h1, h2, h3, h4, h5, h6, h7, h8, h9⟩ := (validA_iff x).1 hv
  obtain ⟨k, a, p, q, t⟩ := s
  unfold formP at hf
  dsimp only at hf ha hp hs hk
  obtain ⟨a, rfl⟩ := Int.eq_ofNat_of_zero_le hf.2.2.1
  have hkk : k = 0 ∨ (k = 1 ∧ 0 ≤ p) ∨ (k = 3 ∧ 0 ≤ p) ∨ (k = 2 ∧ 0 ≤ q) := by omega
  rcases hkk with rfl | ⟨rfl, hp0⟩ | ⟨rfl, hp0⟩ | ⟨rfl, hq0⟩
  · obtain ⟨g1, g2, g3⟩ := mayP_go rfl hm
    have := diff_go (x := x) (a := a) (by omega) g2 g3
    simpa [doS] using this
  · obtain ⟨p, rfl⟩ := Int.eq_ofNat_of_zero_le hp0
    obtain ⟨g1, g2, g3, g4⟩ := mayP_take rfl hm
    have hw : targetP x ⟨1, a, p, q, t⟩ = whereP x p := by simp [targetP]
    rw [hw] at g2
    obtain ⟨r, hr, hr0⟩ := here_where rfl g2
    have := diff_take (x := x) (a := a) (by omega) hr hr0 (not_holds (by omega) (by omega) g1)
    simpa [doS] using this
  · obtain ⟨p, rfl⟩ := Int.eq_ofNat_of_zero_le hp0
    obtain ⟨g1, g2, g3, g4⟩ := mayP_look rfl hm
    have := diff_look (x := x) (a := a) (p := p) (by omega) (by simpa using g4)
    simpa [doS] using this
  · obtain ⟨s, rfl⟩ := Int.eq_ofNat_of_zero_le hq0
    obtain ⟨g1, g2, g3, g4⟩ := mayP_put rfl hm
    dsimp only at g1 g4
    rcases holdsP_cases x a with h | ⟨p', hh, hpl, hpp⟩
    · omega
    · have := diff_put (x := x) (a := a) (s := s) (by omega) hs hpp h7 (not_in (by omega) g4) h5
      have e : (holdsP x a).toNat = p' := by rw [hh]; simp
      simpa [doS, e] using this
theorem step_ne {x : AW} {s : St} (hv : ValidA x) (hc : canP x s = 0) (hk : s.kind ≠ 4) : x ≠ doS x s := by
  obtain ⟨l, m, d⟩ := step_diff hv hc hk
  obtain ⟨f, h1, h2⟩ := d.n
  intro e
  rw [← e] at h1
  exact h2 h1
end Go.Proofs.Ytioofkhadjaldaa
